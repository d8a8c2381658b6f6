/- Part 50 of the proof that identitylaw08.EntryApplies returns true: the package variables hold what the program lays; nothing else is asked. -/
import Derived.Test.YtoopoglkeeoamaaGreatDoorEap39
import Derived.Test.YtoopoglkeeoamaaGreatDoorEap48
import Derived.Test.YtoopoglkeeoamaaGreatDoorEap49
set_option linter.unusedVariables false
set_option linter.unusedSimpArgs false
set_option maxRecDepth 100000
set_option maxHeartbeats 8000000
/- What the rows of identitylaw08 share: entries, strings handed over. -/
namespace Go.Proofs.YtoopoglkeeoamaaGreatDoor
open Go.RowKit Go.Sort Go.ChangeShapes Go.WideShapes Go.ChangeAt
open Idn (L B Bs)
section
variable {H : Type} {enc : TypeId × Value → H} {W : World}
end
end Go.Proofs.YtoopoglkeeoamaaGreatDoor
/- What the second form's bound gives: arguments of small bulk read as short lists of short strings. -/
namespace Go.Proofs.YtoopoglkeeoamaaGreatDoor
open Go.RowKit Go.Sort Go.ChangeShapes Go.WideShapes Go.ChangeAt
open Idn (L B Bs)
section
variable {H : Type}
theorem bk_one (d : DataW H) : 1 ≤ Rows.uptoBulk d := by
 cases d with
 | lit l => cases l <;> simp [Rows.uptoBulk]
 | nil => simp [Rows.uptoBulk]
 | ptr d => simp [Rows.uptoBulk]
 | slice elems spare => simp [Rows.uptoBulk]
 | agg parts => simp [Rows.uptoBulk]
 | iface t d => simp [Rows.uptoBulk]
 | map entries => simp [Rows.uptoBulk]
 | held h => simp [Rows.uptoBulk]
theorem bk_part {d : DataW H} {l : List (DataW H)} (h : d ∈ l) : Rows.uptoBulk d ≤ Rows.uptoBulkAll l := by
  induction l with
  | nil => cases h
  | cons x r ih =>
    simp only [Rows.uptoBulkAll]
    cases List.mem_cons.1 h with
    | inl e => subst e; omega
    | inr e => have := ih e; omega
theorem bk_len (l : List (DataW H)) : l.length ≤ Rows.uptoBulkAll l := by
 induction l with
 | nil => simp [Rows.uptoBulkAll]
 | cons x r ih => have := bk_one x; simp only [Rows.uptoBulkAll, List.length_cons]; omega
theorem bk_slice (elems spare : List (DataW H)) : Rows.uptoBulkAll elems ≤ Rows.uptoBulk (.slice elems spare) := by
 simp only [Rows.uptoBulk]; omega
theorem bk_str (bytes : List UInt8) : bytes.length ≤ Rows.uptoBulk (DataW.lit (H := H) (.string bytes)) := by
 simp [Rows.uptoBulk]
theorem bk_agg {d : DataW H} {parts : List (DataW H)} (h : d ∈ parts) : Rows.uptoBulk d ≤ Rows.uptoBulk (.agg parts) := by
 have := bk_part h
 simp only [Rows.uptoBulk]; omega
theorem bk_bound {l : List (DataW H)} (hk : Rows.uptoSmall H l = true) : ∀ d ∈ l, Rows.uptoBulk d ≤ 1048576 := by
 have h : Rows.uptoBulkAll l ≤ 1048576 := of_decide_eq_true hk
 intro d hd
 exact Nat.le_trans (bk_part hd) h
end
def GS (l : List Bs) (n : Nat) : Prop := l.length ≤ n ∧ ∀ x ∈ l, x.length ≤ n
theorem GS.mono {l : List Bs} {n m : Nat} (h : GS l n) (hn : n ≤ m) : GS l m := ⟨Nat.le_trans h.1 hn, fun x hx => Nat.le_trans (h.2 x hx) hn⟩
def GA (a : Idn.Att) (n : Nat) : Prop := a.name.length ≤ n ∧ GS a.vals n
def GM (a : Md) (n : Nat) : Prop := a.name.length ≤ n ∧ GS a.vals n
def GC (c : Idn.Cl) (n : Nat) : Prop := c.name.length ≤ n ∧ c.super.length ≤ n ∧ GS c.must n ∧ GS c.may n
def GAs (l : List Idn.Att) (n : Nat) : Prop := l.length ≤ n ∧ ∀ a ∈ l, GA a n
def GMs (l : List Md) (n : Nat) : Prop := l.length ≤ n ∧ ∀ a ∈ l, GM a n
def GSch (s : Idn.Sch) (n : Nat) : Prop := (s.types.length ≤ n ∧ ∀ t ∈ s.types, t.name.length ≤ n) ∧ s.classes.length ≤ n ∧ ∀ c ∈ s.classes, GC c n
theorem GA.mono {a : Idn.Att} {n m : Nat} (h : GA a n) (hn : n ≤ m) : GA a m := ⟨Nat.le_trans h.1 hn, h.2.mono hn⟩
theorem GM.mono {a : Md} {n m : Nat} (h : GM a n) (hn : n ≤ m) : GM a m := ⟨Nat.le_trans h.1 hn, h.2.mono hn⟩
theorem GC.mono {a : Idn.Cl} {n m : Nat} (h : GC a n) (hn : n ≤ m) : GC a m := ⟨Nat.le_trans h.1 hn, Nat.le_trans h.2.1 hn, h.2.2.1.mono hn, h.2.2.2.mono hn⟩
theorem GAs.mono {a : List Idn.Att} {n m : Nat} (h : GAs a n) (hn : n ≤ m) : GAs a m := ⟨Nat.le_trans h.1 hn, fun x hx => (h.2 x hx).mono hn⟩
theorem GMs.mono {a : List Md} {n m : Nat} (h : GMs a n) (hn : n ≤ m) : GMs a m := ⟨Nat.le_trans h.1 hn, fun x hx => (h.2 x hx).mono hn⟩
theorem GSch.mono {s : Idn.Sch} {n m : Nat} (h : GSch s n) (hn : n ≤ m) : GSch s m := ⟨⟨Nat.le_trans h.1.1 hn, fun x hx => Nat.le_trans (h.1.2 x hx) hn⟩, Nat.le_trans h.2.1 hn, fun x hx => (h.2.2 x hx).mono hn⟩
theorem GSch.ssm {s : Idn.Sch} {n : Nat} (h : GSch s n) (hn : n ≤ 1000000000) : SSm s := by
 obtain ⟨⟨h1, h2⟩, h3, h4⟩ := h
 refine ⟨⟨by omega, fun t ht => by have := h2 t ht; omega⟩, ⟨by omega, fun c hc => ?_⟩⟩
 obtain ⟨g1, g2, g3, g4⟩ := h4 c hc
 exact ⟨by omega, by omega, ⟨by have := g3.1; omega, fun x hx => by have := g3.2 x hx; omega⟩, ⟨by have := g4.1; omega, fun x hx => by have := g4.2 x hx; omega⟩⟩
theorem GAs.asm {l : List Idn.Att} {n : Nat} (h : GAs l n) (hn : n ≤ 1048576) : ASm l ∧ ASm5 l := by
 refine ⟨⟨by have := h.1; omega, fun a ha => ?_⟩, fun a ha => ?_⟩
 all_goals obtain ⟨h1, h2, h3⟩ := h.2 a ha
 ·exact ⟨by omega, by omega, fun x hx => by have := h3 x hx; omega⟩
 ·exact ⟨by omega, fun x hx => by have := h3 x hx; omega⟩
section
variable {H : Type} {enc : TypeId × Value → H} {W : World}
theorem strs_openB {fuel : Nat} {v : Value} {x : DataW H × List MemPlace} (h : DataW.trod enc Tryz.prog W 0 (fun _ => true) true fuel 45 [v] = some x) : ∃ l, StrsV W W.heap.size v l ∧ GS l (Rows.uptoBulk x.1) := by
  rcases open_strings Tryz.underlying45 Tryz.underlying9 cellsOf_string h with ⟨hcs, hx⟩ | ⟨a, len, cap, ss, hcs, _, hl, hm, hz, hx, hcell, _⟩
  · simp at hcs
    subst hcs
    exact ⟨[], SlV.nil _ _ _ _, by simp, by simp⟩
  · simp at hcs
    subst hcs
    simp only [if_true] at hz
    obtain ⟨b, off, spot⟩ := a
    have hlen : ((ss.take len).map L).length = len := by simp; omega
    refine ⟨(ss.take len).map L, ?_, ?_⟩
    case refine_2 =>
      subst hx
      have k1 := bk_slice (H := H) (strs (ss.take len)) (strs (ss.drop len))
      refine ⟨?_, fun y hy => ?_⟩
      · have k2 := bk_len (H := H) (strs (ss.take len))
        rw [List.length_map]
        simp only [strs, List.length_map] at k2
        exact Nat.le_trans k2 k1
      · obtain ⟨t, ht, rfl⟩ := List.mem_map.1 hy
        have k3 : (DataW.lit (.string t.data.toList) : DataW H) ∈ strs (ss.take len) := List.mem_map.2 ⟨t, ht, rfl⟩
        exact Nat.le_trans (bk_str (H := H) _) (Nat.le_trans (bk_part k3) k1)
    refine ⟨some ⟨b, off, spot⟩, cap, by rw [hlen], by rw [hlen]; exact hl, fun hp => ?_⟩
    rw [hlen] at hp
    have hspot : spot = none := by simpa [Addr.add] using World.cell?_spot (hcell 0 (by omega))
    subst hspot
    refine ⟨b, off, rfl, World.block_lt_of_cell? _ _ (hcell 0 (by omega)), fun i y hy => ?_⟩
    rw [List.getElem?_map] at hy
    obtain ⟨t, ht, rfl⟩ := Option.map_eq_some_iff.1 hy
    refine ⟨[sv (L t)], rfl, rfl, fun j u hj => ?_⟩
    match j, hj with
    | 0, hj =>
      simp at hj; subst hj
      have hil : i < len := by
        have := (List.getElem?_eq_some_iff.1 ht).1
        simp at this; omega
      have := hcell i (by omega)
      rw [add_plain] at this
      rw [Nat.mul_one, Nat.add_zero, this]
      rw [List.getElem?_take_of_lt hil] at ht
      simp [sv, Idn.B_L, List.getD, ht]
theorem sl_openB {α : Type} {E : α → List Value → Prop} {G : α → Nat → Prop} (hG : ∀ z n m, G z n → n ≤ m → G z m) {size : Nat} {t e : TypeId} {fuel : Nat} {v : Value} {x : DataW H × List MemPlace} (ht : Tryz.prog.underlying t = some (.slice e)) (hsz : Tryz.prog.cellsOf e = size) (hpos : 0 < size)
  (h : DataW.trod enc Tryz.prog W 0 (fun _ => true) true fuel t [v] = some x)
  (hE : ∀ (cs : List Value) (n : Nat) (y : DataW H × List MemPlace), DataW.trod enc Tryz.prog W 0 (fun _ => true) true n e cs = some y → ∃ z : α, cs.length = size ∧ E z cs ∧ G z (Rows.uptoBulk y.1)) : ∃ l, SlV E W W.heap.size size v l ∧ l.length ≤ Rows.uptoBulk x.1 ∧ ∀ z ∈ l, G z (Rows.uptoBulk x.1) := by
 rcases Go.Deep.open_slice ht h with ⟨hcs, hx⟩ | ⟨a, len, cap, m, n, D, Pl, hcs, _, hl, hm, hmm, hx, hel⟩
 ·simp at hcs
  subst hcs
  exact ⟨[], SlV.nil _ _ _ _, by simp, by simp⟩
 ·simp at hcs
  subst hcs
  simp only [if_true] at hmm
  have k1 := bk_slice (H := H) ((List.range len).map D) ((List.range (m - len)).map fun j => D (len + j))
  obtain ⟨l, hl1, hl2⟩ := exList (fun i (z : α) => (∃ cs, W.cells? 0 (a.add (i * size)) size = some cs ∧ cs.length = size ∧ E z cs) ∧ G z (Rows.uptoBulk (.slice ((List.range len).map D) ((List.range (m - len)).map fun j => D (len + j)) : DataW H))) len fun i hi => by
   obtain ⟨cs, h1, h2⟩ := hel i (by omega)
   rw [hsz] at h1
   obtain ⟨z, h3, h4, h5⟩ := hE cs n _ h2
   refine ⟨z, ⟨cs, h1, h3, h4⟩, hG _ _ _ h5 (Nat.le_trans (bk_part ?_) k1)⟩
   exact List.mem_map.2 ⟨i, List.mem_range.2 hi, rfl⟩
  refine ⟨l, ⟨some a, cap, by rw [hl1], by rw [hl1]; exact hl, fun hp => ?_⟩, ?_, ?_⟩
  case refine_2 =>
   subst hx
   have k2 := bk_len (H := H) ((List.range len).map D)
   rw [List.length_map, List.length_range] at k2
   rw [hl1]
   exact Nat.le_trans k2 k1
  case refine_3 =>
   subst hx
   intro z hz
   obtain ⟨i, hi, rfl⟩ := List.getElem_of_mem hz
   exact (hl2 i _ (List.getElem?_eq_getElem hi)).2
  obtain ⟨b, off, spot⟩ := a
  obtain ⟨z0, hz0⟩ : ∃ z, l[0]? = some z := ⟨_, List.getElem?_eq_getElem hp⟩
  obtain ⟨⟨cs0, h0, h0l, _⟩, _⟩ := hl2 0 z0 hz0
  have hc0 := (World.cells?_some h0).2.2 0 (by omega)
  have hv0 : ∃ u, cs0[0]? = some u := ⟨_, List.getElem?_eq_getElem (by omega)⟩
  obtain ⟨u0, hu0⟩ := hv0
  rw [hu0] at hc0
  have hspot : spot = none := by simpa [Addr.add] using World.cell?_spot hc0
  subst hspot
  rw [add_plain, add_plain] at hc0
  refine ⟨b, off, rfl, World.block_lt_of_cell? _ _ hc0, fun i z hz => ?_⟩
  obtain ⟨⟨cs, h1, h2, h3⟩, _⟩ := hl2 i z hz
  refine ⟨cs, h2, h3, fun j u hj => ?_⟩
  have hjl := (List.getElem?_eq_some_iff.1 hj).1
  have := (World.cells?_some h1).2.2 j (by omega)
  rw [hj, add_plain, add_plain] at this
  rw [← Nat.add_assoc]; exact this
theorem bk_a2 (a b : DataW H) : Rows.uptoBulk a ≤ Rows.uptoBulk (.agg [a, b]) ∧ Rows.uptoBulk b ≤ Rows.uptoBulk (.agg [a, b]) := ⟨bk_agg (by simp), bk_agg (by simp)⟩
theorem bk_a3 (a b c : DataW H) : Rows.uptoBulk a ≤ Rows.uptoBulk (.agg [a, b, c]) ∧ Rows.uptoBulk b ≤ Rows.uptoBulk (.agg [a, b, c]) ∧ Rows.uptoBulk c ≤ Rows.uptoBulk (.agg [a, b, c]) := ⟨bk_agg (by simp), bk_agg (by simp), bk_agg (by simp)⟩
theorem bk_a4 (a b c d : DataW H) : Rows.uptoBulk a ≤ Rows.uptoBulk (.agg [a, b, c, d]) ∧ Rows.uptoBulk b ≤ Rows.uptoBulk (.agg [a, b, c, d]) ∧ Rows.uptoBulk c ≤ Rows.uptoBulk (.agg [a, b, c, d]) ∧ Rows.uptoBulk d ≤ Rows.uptoBulk (.agg [a, b, c, d]) := ⟨bk_agg (by simp), bk_agg (by simp), bk_agg (by simp), bk_agg (by simp)⟩
theorem bk_of {x : ByteArray} {y : DataW H × List MemPlace} (h : y = (.lit (.string x.data.toList), [])) : (L x).length ≤ Rows.uptoBulk y.1 := by
 subst h
 exact bk_str (H := H) _
theorem types_openB {fuel : Nat} {v : Value} {x : DataW H × List MemPlace} (h : DataW.trod enc Tryz.prog W 0 (fun _ => true) true fuel 29 [v] = some x) : ∃ l, TypesV W W.heap.size v l ∧ l.length ≤ Rows.uptoBulk x.1 ∧ ∀ t ∈ l, t.name.length ≤ Rows.uptoBulk x.1 := by
  refine sl_openB (E := ET) (G := fun t n => t.name.length ≤ n) (fun _ _ _ h1 h2 => Nat.le_trans h1 h2) Tryz.underlying29 cellsOf_AT (by decide) h fun cs n y hy => ?_
  obtain ⟨y0, y1, y2, m, hyy, hl, h0, h1, h2⟩ := Go.Deep.trod_struct3 Tryz.underlying65 hy
  rw [cellsOf_AT] at hl
  match cs, hl with
  | [a, b, c], _ =>
    obtain ⟨s, e0, f0, _⟩ := DataW.trod_string Tryz.underlying9 h0
    obtain ⟨k, e1, _, _⟩ := DataW.trod_int Tryz.underlying63 h1
    obtain ⟨d, e2, _⟩ := DataW.trod_bool Tryz.underlying4 h2
    simp [cellsOf_string] at e0
    simp [cellsOf_syn] at e1
    simp [cellsOf_bool] at e2
    subst e0 e1 e2
    refine ⟨⟨L s, k, d⟩, rfl, by simp [ET, sv, Idn.B_L], ?_⟩
    subst hyy
    exact Nat.le_trans (bk_of f0) (bk_a3 _ _ _).1
theorem classes_openB {fuel : Nat} {v : Value} {x : DataW H × List MemPlace} (h : DataW.trod enc Tryz.prog W 0 (fun _ => true) true fuel 30 [v] = some x) : ∃ l, ClassesV W W.heap.size v l ∧ l.length ≤ Rows.uptoBulk x.1 ∧ ∀ c ∈ l, GC c (Rows.uptoBulk x.1) := by
  refine sl_openB (E := EC W W.heap.size) (G := GC) (fun _ _ _ h1 h2 => h1.mono h2) Tryz.underlying30 cellsOf_CL (by decide) h fun cs n y hy => ?_
  obtain ⟨y0, y1, y2, y3, m, hyy, hl, h0, h1, h2, h3⟩ := Go.Joins.trod_struct4 Tryz.underlying67 hy
  rw [cellsOf_CL] at hl
  match cs, hl with
  | [a, b, c, d], _ =>
    obtain ⟨s, e0, f0, _⟩ := DataW.trod_string Tryz.underlying9 h0
    obtain ⟨t, e1, f1, _⟩ := DataW.trod_string Tryz.underlying9 h1
    simp [cellsOf_string] at e0 e1
    subst e0 e1
    have h2' : DataW.trod enc Tryz.prog W 0 (fun _ => true) true m 45 [c] = some y2 := by simpa [cellsOf_strs] using h2
    have h3' : DataW.trod enc Tryz.prog W 0 (fun _ => true) true m 45 [d] = some y3 := by simpa [cellsOf_strs] using h3
    obtain ⟨l2, a1, a2⟩ := strs_openB h2'
    obtain ⟨l3, b1, b2⟩ := strs_openB h3'
    subst hyy
    obtain ⟨k0, k1, k2, k3⟩ := bk_a4 y0.1 y1.1 y2.1 y3.1
    exact ⟨⟨L s, L t, l2, l3⟩, rfl, ⟨c, d, by simp [sv, Idn.B_L], a1, b1⟩, Nat.le_trans (bk_of f0) k0, Nat.le_trans (bk_of f1) k1, a2.mono k2, b2.mono k3⟩
theorem schema_openB {r : Reach} {b0 : Nat} {v : Value} {d : DataW H} {p : List MemPlace} (hv : Value.okWide Tryz.prog W r b0 32 v) (h : DataW.Trod enc Tryz.prog W 0 (fun _ => true) true 32 v d p) : ∃ s, SchV W W.heap.size v s ∧ GSch s (Rows.uptoBulk d) := by
 obtain ⟨v0, v1, y0, y1, n, rfl, rfl, _, h0, h1⟩ := Go.Joins.open_agg2 Tryz.underlying32 (by kernel_rfl) (by kernel_rfl) hv h
 obtain ⟨l0, a1, a2, a3⟩ := types_openB h0
 obtain ⟨l1, b1, b2, b3⟩ := classes_openB h1
 obtain ⟨k0, k1⟩ := bk_a2 y0.1 y1.1
 exact ⟨⟨l0, l1⟩, ⟨v0, v1, rfl, a1, b1⟩, ⟨Nat.le_trans a2 k0, fun t ht => Nat.le_trans (a3 t ht) k0⟩, Nat.le_trans b2 k1, fun c hc => by
  obtain ⟨g1, g2, g3, g4⟩ := b3 c hc
  exact ⟨Nat.le_trans g1 k1, Nat.le_trans g2 k1, g3.mono k1, g4.mono k1⟩⟩
theorem atts_openB {fuel : Nat} {v : Value} {x : DataW H × List MemPlace} (h : DataW.trod enc Tryz.prog W 0 (fun _ => true) true fuel 22 [v] = some x) : ∃ l, AttsV W W.heap.size v l ∧ GAs l (Rows.uptoBulk x.1) := by
  refine sl_openB (E := EA W W.heap.size) (G := GA) (fun _ _ _ h1 h2 => h1.mono h2) Tryz.underlying22 cellsOf_Att (by decide) h fun cs n y hy => ?_
  obtain ⟨y0, y1, m, hyy, hl, h0, h1⟩ := trod_struct2 Tryz.underlying48 hy
  rw [cellsOf_Att] at hl
  match cs, hl with
  | [a, b], _ =>
    obtain ⟨s, e0, f0, _⟩ := DataW.trod_string Tryz.underlying9 h0
    simp [cellsOf_string] at e0
    subst e0
    have h1' : DataW.trod enc Tryz.prog W 0 (fun _ => true) true m 45 [b] = some y1 := by simpa [cellsOf_string, cellsOf_strs] using h1
    obtain ⟨l2, a1, a2⟩ := strs_openB h1'
    subst hyy
    obtain ⟨k0, k1⟩ := bk_a2 y0.1 y1.1
    exact ⟨⟨L s, l2⟩, rfl, ⟨b, by simp [sv, Idn.B_L], a1⟩, Nat.le_trans (bk_of f0) k0, a2.mono k1⟩
theorem cellsOf_Mod : Tryz.prog.cellsOf 59 = 3 := by kernel_rfl
theorem cellsOf_ModOp : Tryz.prog.cellsOf 57 = 1 := by kernel_rfl
theorem mods_openB {fuel : Nat} {v : Value} {x : DataW H × List MemPlace} (h : DataW.trod enc Tryz.prog W 0 (fun _ => true) true fuel 38 [v] = some x) : ∃ l, ModsV W W.heap.size v l ∧ GMs l (Rows.uptoBulk x.1) := by
  refine sl_openB (E := EMd W W.heap.size) (G := GM) (fun _ _ _ h1 h2 => h1.mono h2) Tryz.underlying38 cellsOf_Mod (by decide) h fun cs n y hy => ?_
  obtain ⟨y0, y1, y2, m, hyy, hl, h0, h1, h2⟩ := Go.Deep.trod_struct3 Tryz.underlying59 hy
  rw [cellsOf_Mod] at hl
  match cs, hl with
  | [a, b, c], _ =>
    obtain ⟨k, e0, _, _⟩ := DataW.trod_int Tryz.underlying57 h0
    obtain ⟨s, e1, f1, _⟩ := DataW.trod_string Tryz.underlying9 h1
    simp [cellsOf_ModOp] at e0
    simp [cellsOf_string] at e1
    subst e0 e1
    have h2' : DataW.trod enc Tryz.prog W 0 (fun _ => true) true m 45 [c] = some y2 := by simpa [cellsOf_strs] using h2
    obtain ⟨l2, a1, a2⟩ := strs_openB h2'
    subst hyy
    obtain ⟨k0, k1, k2⟩ := bk_a3 y0.1 y1.1 y2.1
    exact ⟨⟨k, L s, l2⟩, rfl, ⟨c, by simp [sv, Idn.B_L], a1⟩, Nat.le_trans (bk_of f1) k1, a2.mono k2⟩
theorem entry_openB {r : Reach} {b0 : Nat} {v : Value} {d : DataW H} {p : List MemPlace} (hv : Value.okWide Tryz.prog W r b0 24 v) (h : DataW.Trod enc Tryz.prog W 0 (fun _ => true) true 24 v d p) : ∃ n a l, v = .agg #[.string n, a] ∧ AttsV W W.heap.size a l ∧ GAs l (Rows.uptoBulk d) ∧ n.size ≤ Rows.uptoBulk d := by
 obtain ⟨v0, v1, y0, y1, n, rfl, rfl, _, h0, h1⟩ := Go.Joins.open_agg2 Tryz.underlying24 (by kernel_rfl) (by kernel_rfl) hv h
 obtain ⟨s, e0, f0, hs⟩ := DataW.trod_string Tryz.underlying9 h0
 simp only [List.cons.injEq, and_true] at e0
 subst e0
 obtain ⟨l, a1, a2⟩ := atts_openB h1
 obtain ⟨k0, k1⟩ := bk_a2 y0.1 y1.1
 exact ⟨s, v1, l, rfl, a1, ⟨Nat.le_trans a2.1 k1, fun a ha => ⟨Nat.le_trans (a2.2 a ha).1 k1, (a2.2 a ha).2.mono k1⟩⟩, by rw [Idn.size_L]; exact Nat.le_trans (bk_of f0) k0⟩
theorem slice_openB {t : TypeId} {r : Reach} {b0 : Nat} {v : Value} {d : DataW H} {p : List MemPlace} (h : DataW.Trod enc Tryz.prog W 0 (fun _ => true) true t v d p) (ht : Tryz.prog.underlying t = some (.slice 59) ∨ Tryz.prog.underlying t = some (.slice 48)) (hv : Value.okWide Tryz.prog W r b0 t v) : ∃ fuel, DataW.trod enc Tryz.prog W 0 (fun _ => true) true fuel t [v] = some (d, p) := by
 obtain ⟨fuel, hf⟩ := h
 rcases ht with ht | ht
 ·obtain ⟨A, n, c, rfl⟩ := okWide_slice ht hv
  exact ⟨fuel, hf⟩
 ·obtain ⟨A, n, c, rfl⟩ := okWide_slice ht hv
  exact ⟨fuel, hf⟩
end
end Go.Proofs.YtoopoglkeeoamaaGreatDoor
/- law08: EntryStable, walked. -/
namespace Go.Proofs.YtoopoglkeeoamaaGreatDoor
open Go.RowKit Go.Sort
open Idn (L B Bs drop_L take_L size_L)
theorem nf_sm {s : Idn.Sch} {n : Bs} {l : List Idn.Att} {x : En} (h : eNormal s n l = (x, 0)) : (ASm x.2 ∧ ASm5 x.2) ∧ Idn.ASm7 x.2 ∧ x.2.length ≤ 32 ∧ ∀ a ∈ x.2, a.vals.length ≤ 16 := by
 have hf := fit_start h
 exact ⟨hf.asm (by decide), hf.asm7 (by decide), hf.2.1, fun a ha => (hf.2.2 a ha).2.1⟩
end Go.Proofs.YtoopoglkeeoamaaGreatDoor
/- law08: EntryApplies, walked. -/
namespace Go.Proofs.YtoopoglkeeoamaaGreatDoor
open Go.RowKit Go.Sort
open Idn (L B Bs drop_L take_L size_L)
theorem eApply_small {s : Idn.Sch} {n : Bs} {l : List Idn.Att} {ms : List Md} : (eApply s n l ms).1.2.length ≤ 32 ∧ ∀ a ∈ (eApply s n l ms).1.2, a.vals.length ≤ 16 := by
 by_cases h : (eApply s n l ms).2 = 0
 ·have hx : eApply s n l ms = ((eApply s n l ms).1, 0) := Prod.ext rfl h
  have := nf_sm (apply_nf hx).1
  exact ⟨this.2.2.1, this.2.2.2⟩
 ·rw [apply_err h]; simp
theorem GMs.big {ms : List Md} (h : GMs ms 1048576) : MBig ms := fun m hm => ⟨by have := (h.2 m hm).1; omega, by have := (h.2 m hm).2.1; omega, fun x hx => by have := (h.2 m hm).2.2 x hx; omega⟩
theorem entryApplies_any (u : Value) (s : Idn.Sch) (n : ByteArray) (a : Value) (l : List Idn.Att) (mv : Value) (ms : List Md) (w : World) (hu : SchV w w.heap.size u s) (hg : GSch s 1048576) (hv : AttsV w w.heap.size a l) (hga : GAs l 1048576) (hn : n.size ≤ 1048576) (hm : ModsV w w.heap.size mv ms) (hgm : GMs ms 1048576) (hE : Env w) (hU : EnvU w) :
  Calls Tryz.prog 5 #[u, .agg #[.string n, a], mv] w fun e w' => e = .returned (.bool true) ∧ Below w.heap.size w w' := by
 have hs := hg.ssm (by decide)
 have hasm := hga.asm (Nat.le_refl _)
 have hV := fun W (hW : Below w.heap.size w W) => SchV.mono (SchV.keep hu hW) hW.size
 have hA := fun W (hW : Below w.heap.size w W) => AttsV.mono (AttsV.keep hv hW) hW.size
 have hSh := fun W (hW : Below w.heap.size w W) => short8_any n a l W (hA W hW) ⟨by have := hga.1; omega, fun x hx => by have := (hga.2 x hx).2.1; omega⟩ (by omega)
 have hSS := fun W (hW : Below w.heap.size w W) => smallSch_any u s W (hV W hW) hs
 have hMB := hgm.big
 have hFw := fun W (hW : Below w.heap.size w W) => few8_any mv ms W (ModsV.mono (ModsV.keep hm hW) hW.size) ⟨by have := hgm.1; omega, fun x hx => by have := (hgm.2 x hx).2.1; omega⟩
 have k1 := fun hl6 W (hW : Below w.heap.size w W) => apply_any u s n a l mv ms W (hV W hW) hs (hE.keep hW) (hU.keep hW) (hA W hW) (by omega) hasm.1 hasm.2 hl6 (ModsV.mono (ModsV.keep hm hW) hW.size) hMB
 have k2 := fun hl6 W (hW : Below w.heap.size w W) => r8_Apply_any u s n a l mv ms W (hV W hW) hs (hA W hW) (by omega) hasm.1 hasm.2 hl6 (ModsV.mono (ModsV.keep hm hW) hW.size) hMB
 have hEx := fun W (hW : Below w.heap.size w W) => example_any W (hE.keep hW) (hU.keep hW)
 have hes := eApply_small (s := s) (n := L n) (l := l) (ms := ms)
 obtain ⟨au, bu, rfl, hT, hC⟩ := hu
 obtain ⟨AT, cT, rfl, _⟩ := SlV.shape hT
 obtain ⟨AC, cC, rfl, _⟩ := SlV.shape hC
 obtain ⟨A, c, rfl, hc⟩ := SlV.shape hv
 obtain ⟨Am, cm, rfl, _⟩ := SlV.shape hm
 generalize eApply s (L n) l ms = r at *
 obtain ⟨⟨rN, rL⟩, x⟩ := r
 dsimp only at hes
 obtain ⟨hes1, hes2⟩ := hes
 have HES := Lib.hid hes2
 clear hT hC hE hU hv hga hg hV hA hes2 hm hgm hMB
 go_enter Tryz.func5, Tryz.ntmps5
 go_upto_region 1 with fail
 with_reducible refine gen2 (R := fun W => Code.wp Tryz.prog _ _ _ W) ?_
 intro W hbW hszW hc1 hc2
 have q0 : W.cell? ⟨w.heap.size, 0, none⟩ = some (.slice AT s.types.length cT) := hc1 0 _ rfl
 have q1 : W.cell? ⟨w.heap.size, 1, none⟩ = some (.slice AC s.classes.length cC) := hc1 1 _ rfl
 have e0 : W.cell? ⟨w.heap.size + 1, 0, none⟩ = some (.string n) := hc2 0 _ rfl
 have e1 : W.cell? ⟨w.heap.size + 1, 1, none⟩ = some (.slice A l.length c) := hc2 1 _ rfl
 clear hc1 hc2 hszW
 go_wp2_with fail
 refine (hSh W hbW).mono ?_
 rintro e w1 ⟨b1, rfl, hr1, hb1⟩
 have HR1 := Lib.hid hr1
 replace q0 := cell_later hb1 q0
 replace q1 := cell_later hb1 q1
 replace e0 := cell_later hb1 e0
 replace e1 := cell_later hb1 e1
 have hbw1 := hbW.trans (hb1.mono hbW.size)
 clear hSh hb1 hbW hr1
 cases b1
 ·have hex := hEx w1 hbw1
  clear k1 k2 hSS hFw HR1
  go_wp2_with fail
  refine hex.mono ?_
  rintro e w2 ⟨rfl, hb2⟩
  go_wp2_with fail
  go_ret
  exact ⟨rfl, hbw1.trans (hb2.mono hbw1.size)⟩
 go_wp2_with fail
 refine (hSS w1 hbw1).mono ?_
 rintro e w2 ⟨b2, rfl, _, hb2⟩
 replace q0 := cell_later hb2 q0
 replace q1 := cell_later hb2 q1
 replace e0 := cell_later hb2 e0
 replace e1 := cell_later hb2 e1
 have hbw2 := hbw1.trans (hb2.mono hbw1.size)
 clear hSS hb2 hbw1
 have hl6 : l.length ≤ 1000000 := by have := (HR1.out (by first | rfl | trivial)).2.1; omega
 replace k1 := k1 hl6
 replace k2 := k2 hl6
 clear HR1 hl6
 cases b2
 ·have hex := hEx w2 hbw2
  clear k1 k2 hFw
  go_wp2_with fail
  refine hex.mono ?_
  rintro e w3 ⟨rfl, hb3⟩
  go_wp2_with fail
  go_ret
  exact ⟨rfl, hbw2.trans (hb3.mono hbw2.size)⟩
 go_wp2_with fail
 refine (hFw w2 hbw2).mono ?_
 rintro e w3 ⟨b3, rfl, _, hb3⟩
 replace q0 := cell_later hb3 q0
 replace q1 := cell_later hb3 q1
 replace e0 := cell_later hb3 e0
 replace e1 := cell_later hb3 e1
 have hbw3 := hbw2.trans (hb3.mono hbw2.size)
 clear hFw hb3 hbw2
 cases b3
 ·have hex := hEx w3 hbw3
  clear k1 k2
  go_wp2_with fail
  refine hex.mono ?_
  rintro e w4 ⟨rfl, hb4⟩
  go_wp2_with fail
  go_ret
  exact ⟨rfl, hbw3.trans (hb4.mono hbw3.size)⟩
 obtain ⟨w2, hw2⟩ : ∃ w2 : World, w2 = w3 := ⟨_, rfl⟩
 subst hw2
 have hbw2 := hbw3
 clear hbw3
 go_wp2_with fail
 refine (k1 w2 hbw2).mono ?_
 rintro e w3 ⟨v3, ps3, rfl, hown3, hps3, hb3⟩
 obtain ⟨A3, c3, hv3⟩ := own_shape hown3.1
 subst hv3
 have hats3 := hown3.atts hps3
 replace q0 := cell_later hb3 q0
 replace q1 := cell_later hb3 q1
 replace e0 := cell_later hb3 e0
 replace e1 := cell_later hb3 e1
 have hbw3 := hbw2.trans (hb3.mono hbw2.size)
 clear k1 hps3 hown3 hb3 hbw2
 dsimp only at hats3
 go_upto_region 4 with fail
 with_reducible refine gen1 (R := fun W => Code.wp Tryz.prog _ _ _ W) ?_
 intro W4 hbW4 hszW4 hc4 _
 have a0 : W4.cell? ⟨w3.heap.size, 0, none⟩ = some (.string (B rN)) := hc4 0 _ rfl
 have a1 : W4.cell? ⟨w3.heap.size, 1, none⟩ = some (.slice A3 ps3.length c3) := hc4 1 _ rfl
 replace q0 := cell_later hbW4 q0
 replace q1 := cell_later hbW4 q1
 replace e0 := cell_later hbW4 e0
 replace e1 := cell_later hbW4 e1
 have hats4 := AttsV.mono (AttsV.keep hats3 hbW4) hbW4.size
 have hbw4 := hbw3.trans (hbW4.mono hbw3.size)
 clear hc4 hszW4 hbW4 hats3 hbw3
 go_wp2_with fail
 refine (k2 W4 hbw4).mono ?_
 rintro e w5 ⟨v5, ps5, rfl, hrow5, hps5, hb5⟩
 have hats5 := hrow5.atts hps5
 clear hrow5 hps5
 dsimp only at hats5
 obtain ⟨A5, c5, hv5, _⟩ := SlV.shape hats5
 subst hv5
 replace a0 := cell_later hb5 a0
 replace a1 := cell_later hb5 a1
 have hatsA5 := AttsV.mono (AttsV.keep hats4 hb5) hb5.size
 have hbw5 := hbw4.trans (hb5.mono hbw4.size)
 clear k2 hb5 hats4 hbw4 q0 q1 e0 e1
 go_upto_region 5 with fail
 with_reducible refine gen1 (R := fun W => Code.wp Tryz.prog _ _ _ W) ?_
 intro W6 hbW6 hszW6 hc6 _
 have b0 : W6.cell? ⟨w5.heap.size, 0, none⟩ = some (.string (B rN)) := hc6 0 _ rfl
 have b1 : W6.cell? ⟨w5.heap.size, 1, none⟩ = some (.slice A5 rL.length c5) := hc6 1 _ rfl
 replace a0 := cell_later hbW6 a0
 replace a1 := cell_later hbW6 a1
 have hatsA6 := AttsV.mono (AttsV.keep hatsA5 hbW6) hbW6.size
 have hatsB6 := AttsV.mono (AttsV.keep hats5 hbW6) hbW6.size
 have hbw6 := hbw5.trans (hbW6.mono hbw5.size)
 have hSa := r8_Same_any (B rN) (B rN) _ _ rL rL true ⟨fun _ => ⟨rfl, rfl⟩, fun _ => rfl⟩ W6 hatsA6 hatsB6 (by omega) (by omega) (fun y hy => by have := HES.out y hy; omega) (fun y hy => by have := HES.out y hy; omega)
 have t1 : (x == x) = true := by simp
 clear hc6 hszW6 hbW6 hatsA5 hats5 hbw5 hatsA6 hatsB6
 go_wp2_with fail
 refine hSa.mono ?_
 rintro e w7 ⟨rfl, hb7⟩
 have hbw7 := hbw6.trans (hb7.mono hbw6.size)
 have hex := hEx w7 hbw7
 clear hSa hEx a0 a1 b0 b1
 go_wp2_with fail
 refine hex.mono ?_
 rintro e w8 ⟨rfl, hb8⟩
 go_wp2_with fail
 go_ret
 exact ⟨rfl, hbw7.trans (hb8.mono hbw7.size)⟩
end Go.Proofs.YtoopoglkeeoamaaGreatDoor
/- EntryApplies: the contract as the row asks it, the statement, the card. -/
namespace Go.Proofs.YtoopoglkeeoamaaGreatDoor
open Go.RowKit Go.Sort Go.Shelf Go.ChangeShapes Go.WideShapes Go.ChangeAt Go.ChangeMaps
theorem laid_eqEA : Rows.entryAppliesUptoRow.laid = laidL := by
 unfold laidL
 rw [← pow_eq, ← acc_eq, ← first_eq, ← case_eq]
 rfl
theorem cEA_contract (F : Stop.Interp) (H : Type) (enc : TypeId × Value → H) (W : World) (base : Nat) (args : Array Value) (ds gs : List (DataW H)) (before : List MemPlace)
  (hval : ∀ (j : Nat) t v, Tryz.f5.params[j]? = some t → args[j]? = some v → Value.okWide Tryz.prog W .any base t v)
  (hW : DataW.Whole enc Tryz.prog Tryz.f5.params.toList Rows.entryAppliesSpec.vars false W args.toList ds gs before) (hL : laidMet Tryz.prog laidL W) (hsh : W.ShapedOpen Tryz.prog) (hk : Rows.uptoSmall H (ds ++ gs) = true) :
  Calls Tryz.prog 5 args W fun e W' => ∃ v, e = .returned v ∧ ((Rows.OpenSpec.upto Rows.entryAppliesSpec).at F).post enc Tryz.prog Tryz.f5 false true false false W args v W' := by
 have hW' := hW
 obtain ⟨p, q, hA0, hV0, rfl, _, _⟩ := hW
 have hA : DataW.TrodAll enc Tryz.prog W 0 (fun _ => true) true Tryz.f5.params.toList args.toList ds p := hA0
 rw [Tryz.params5] at hA hval
 obtain ⟨v0, v1, v2, d0, d1, d2, p0, p1, p2, rfl, rfl, rfl, h0, h1, h2⟩ := trodAll_three hA
 obtain ⟨rfl, rfl⟩ := trodVars_none hV0
 have hB := bk_bound hk
 have hb0 := hB d0 (by simp)
 have hb1 := hB d1 (by simp)
 have hb2 := hB d2 (by simp)
 obtain ⟨s0, hS0, hg0⟩ := schema_openB (hval 0 32 v0 rfl rfl) h0
 obtain ⟨n1, a1, l1, rfl, hA1, hg1, hn1⟩ := entry_openB (hval 1 24 v1 rfl rfl) h1
 obtain ⟨f2, hf2⟩ := slice_openB h2 (.inl Tryz.underlying38) (hval 2 38 v2 rfl rfl)
 obtain ⟨m2, hM2, hg2⟩ := mods_openB hf2
 clear hA0 hV0 hval
 simp only [List.append_nil] at hW'
 have hlt : ∀ x ∈ p0 ++ (p1 ++ p2), x.block < W.heap.size := fun x hx => by simpa using hW'.lt x (by simpa using hx)
 obtain ⟨hE, hU⟩ := env_of hL hsh
 refine (entryApplies_any v0 s0 n1 a1 l1 v2 m2 W hS0 (hg0.mono hb0) hA1 (hg1.mono hb1) (Nat.le_trans hn1 hb1) hM2 (hg2.mono hb2) hE hU).mono ?_
 rintro e W' ⟨rfl, bel⟩
 have e1 : ((Rows.OpenSpec.upto Rows.entryAppliesSpec).at F).fn H ([d0, d1, d2] ++ []) = { results := [.lit (.bool true)], args := [d0, d1, d2] } := rfl
 refine ⟨_, rfl, _, _, _, [], (p0 ++ (p1 ++ p2)), [], hW', ?_, ?_, ?_, bel.frame _, fun h => by cases h⟩
 ·rw [e1]; exact trodAll_mk1 (shut_bool Tryz.underlying4 _)
 ·rw [e1]; exact trodAll_mk3 (Below.trod laidOut (by kernel_rfl) (of_decide_eq_true (by kernel_rfl)) h0 bel (fun x hx => hlt x (List.mem_append_left _ hx))) (Below.trod laidOut (by kernel_rfl) (of_decide_eq_true (by kernel_rfl)) h1 bel (fun x hx => hlt x (List.mem_append_right _ (List.mem_append_left _ hx)))) (Below.trod laidOut (by kernel_rfl) (of_decide_eq_true (by kernel_rfl)) h2 bel (fun x hx => hlt x (List.mem_append_right _ (List.mem_append_right _ hx))))
 ·rw [e1]; rfl
theorem noHandleEA {W : World} (h : laidMetH Tryz.prog Rows.entryAppliesUptoRow.laid W) : laidMet Tryz.prog laidL W := by
 have e : (Rows.entryAppliesUptoRow.laid.filter fun x => x.2.handleName?.isSome) = [] := by kernel_rfl
 unfold laidMetH at h
 rw [e] at h
 rw [← laid_eqEA]
 exact h
theorem laid_metEA (os : Os) (args : Array Value) : laidMet Tryz.prog Rows.entryAppliesUptoRow.laid ((laidWorld os).forCall (fun _ _ => 0) ⟨#[], args, []⟩).memory := by
 rw [laid_eqEA]
 exact laid_metW os args
theorem witness_rowEA (os : Os) {H : Type} (enc : TypeId × Value → H) :
  (Rows.OpenSpec.upto Rows.entryAppliesSpec).preRow enc Tryz.prog Tryz.f5 Rows.entryAppliesUptoRow.domain false Rows.entryAppliesUptoRow.laid ((laidWorld os).forCall (fun _ _ => 0) ⟨#[], #[.agg #[.slice none 0 0, .slice none 0 0], .agg #[.string ⟨#[]⟩, .slice none 0 0], .slice none 0 0], []⟩).memory #[.agg #[.slice none 0 0, .slice none 0 0], .agg #[.string ⟨#[]⟩, .slice none 0 0], .slice none 0 0] := by
 have hw : (DataW.whole enc Tryz.prog ((laidWorld os).forCall (fun _ _ => 0) ⟨#[], #[.agg #[.slice none 0 0, .slice none 0 0], .agg #[.string ⟨#[]⟩, .slice none 0 0], .slice none 0 0], []⟩).memory Tryz.f5.params.toList (Rows.OpenSpec.upto Rows.entryAppliesSpec).vars false #[Value.agg #[.slice none 0 0, .slice none 0 0], .agg #[.string ⟨#[]⟩, .slice none 0 0], .slice none 0 0].toList 8).map (fun x => (x.1, x.2.1)) =
   some ([.agg [.nil, .nil], .agg [.lit (.string []), .nil], .nil], []) := by kernel_rfl
 obtain ⟨⟨x1, x2, x3⟩, hx, hx1⟩ := Option.map_eq_some_iff.1 hw
 simp only [Prod.mk.injEq] at hx1
 obtain ⟨rfl, rfl⟩ := hx1
 exact OpenSpec.preRow_of_cond 8 hx (by kernel_rfl) (fun k hk => by cases hk; kernel_rfl) (by kernel_rfl) (laid_metEA os _)
theorem liftedEA (os : Os) (started : os.Started) (H : Type) (enc : TypeId × Value → H) (F : Stop.Interp) :
  ReturnsInHanded {} Tryz.checked os 5 .any ((Rows.OpenSpec.upto Rows.entryAppliesSpec).preRow enc Tryz.prog Tryz.f5 Rows.entryAppliesUptoRow.domain false Rows.entryAppliesUptoRow.laid) (((Rows.OpenSpec.upto Rows.entryAppliesSpec).at F).post enc Tryz.prog Tryz.f5 false true false false) := by
 refine returnsInHanded_of_row (C := Tryz.checked) (s := (Rows.OpenSpec.upto Rows.entryAppliesSpec)) own started (by kernel_rfl) Tryz.func5
  (witness_row_atRef (enc := enc) (C := Tryz.checked) false (laidWorld os) #[.agg #[.slice none 0 0, .slice none 0 0], .agg #[.string ⟨#[]⟩, .slice none 0 0], .slice none 0 0] rfl (by kernel_rfl) (by kernel_rfl) (by kernel_rfl) (witness_rowEA os enc)) ?_
 intro W base args ds gs before hval hW _ hcond _ hL hsh _
 exact cEA_contract F H enc W base args ds gs before hval hW (noHandleEA hL) hsh (hcond _ rfl)
end Go.Proofs.YtoopoglkeeoamaaGreatDoor
/- EntryApplies: the statement. -/
namespace Go.Proofs.YtoopoglkeeoamaaGreatDoor
open Go.RowKit Go.Sort Go.Shelf Go.ChangeShapes Go.WideShapes Go.ChangeAt Go.ChangeMaps
theorem closedEA : joinedFacts Tryz.pinned.checked.prog 5 Tryz.f5 (Rows.OpenSpec.upto Rows.entryAppliesSpec).bare Rows.entryAppliesUptoRow = true := by
 unfold joinedFacts
 simp only [Bool.and_eq_true]
 repeat' with_reducible apply And.intro
 all_goals (as_aux_lemma => kernel_rfl)
theorem saidEA : Rows.EntryAppliesUptoSaid :=
 OpenClaim.holds_of_cond 5 Tryz.f5 rfl rfl rfl rfl rfl rfl rfl ⟨rfl, rfl, rfl, rfl, rfl⟩ rfl rfl rfl rfl rfl (by kernel_rfl) Tryz.func5 closedEA
  (of_decide_eq_true (by kernel_rfl)) (by unfold Func.isWrapper; first | (rw [if_pos (by decide +kernel)]; kernel_rfl) | (rw [if_neg (by decide +kernel)]; exact ⟨rfl, rfl⟩))
  (fun os started H enc _ F => by rw [OpenClaim.pre_eq_preRow]; exact liftedEA os started H enc F)
end Go.Proofs.YtoopoglkeeoamaaGreatDoor
/- EntryApplies: the card. -/
namespace Go.Proofs.YtoopoglkeeoamaaGreatDoor
open Go.RowKit Go.Sort Go.Shelf Go.ChangeShapes Go.WideShapes Go.ChangeAt Go.ChangeMaps
theorem plainEA (f : FuncId) (fn : Func) (hf : Tryz.pinned.checked.prog.funcNamed "identity/identitylaw08.EntryApplies" = some f) (hfn : Tryz.pinned.checked.prog.funcs[f]? = some fn) :
  true = Tryz.pinned.checked.prog.looks [] ∧ ∀ (j : Nat) t, fn.params[j]? = some t → Tryz.pinned.checked.prog.wantsStandIn t = false := by
 obtain rfl : f = 5 := Option.some.inj ((show Tryz.prog.funcNamed "identity/identitylaw08.EntryApplies" = some 5 by kernel_rfl).symm.trans hf) |>.symm
 obtain rfl : fn = Tryz.f5 := (Option.some.inj (Tryz.func5.symm.trans hfn)).symm
 refine ⟨by kernel_rfl, fun j t ht => ?_⟩
 rw [Tryz.params5] at ht
 have hm := Array.mem_of_getElem? ht
 simp at hm
 rcases hm with rfl | rfl | rfl
 ·exact (show Tryz.prog.wantsStandIn 32 = false by kernel_rfl)
 ·exact (show Tryz.prog.wantsStandIn 24 = false by kernel_rfl)
 ·exact (show Tryz.prog.wantsStandIn 38 = false by kernel_rfl)
theorem entryApplies_card : Rows.EntryAppliesUptoCardSaid :=
 Claim7.holds_tied_plain_at .later [] _ _ _ _ saidEA (fun _ h => by cases h) (by kernel_rfl) (fun _ h => by cases h) entryAppliesUpto_row_tie rfl ⟨rfl, rfl⟩ (by kernel_rfl) rfl plainEA (by kernel_rfl)
#print axioms entryApplies_card
end Go.Proofs.YtoopoglkeeoamaaGreatDoor
