/- Part 50 of the proof that EntryTurns: the package variables hold what the program lays; nothing else is asked. -/
import Derived.Test.YtoopoglkeeoamaaGreatDoorEtu33
import Derived.Test.YtoopoglkeeoamaaGreatDoorEtu36
import Derived.Test.YtoopoglkeeoamaaGreatDoorEtu47
import Derived.Test.YtoopoglkeeoamaaGreatDoorEtu49
import Derived.ChangeMaps5
set_option linter.unusedVariables false
set_option linter.unusedSimpArgs false
/- What the rows of identitylaw08 share: entries, strings handed over. -/
namespace Go.Proofs.YtoopoglkeeoamaaGreatDoor
open Go.RowKit Go.Sort Go.ChangeShapes Go.WideShapes Go.ChangeAt
open Idn (L B Bs)
section
variable {H : Type} {enc : TypeId × Value → H} {W : World}
end
end Go.Proofs.YtoopoglkeeoamaaGreatDoor
/- What the second form's bound gives: arguments of small bulk read as short lists of short strings. -/
namespace Go.Proofs.YtoopoglkeeoamaaGreatDoor
open Go.RowKit Go.Sort Go.ChangeShapes Go.WideShapes Go.ChangeAt
open Idn (L B Bs)
section
variable {H : Type}
theorem bk_one (d : DataW H) : 1 ≤ Rows.uptoBulk d := by
  cases d with
  | lit l => cases l <;> simp [Rows.uptoBulk]
  | nil => simp [Rows.uptoBulk]
  | ptr d => simp [Rows.uptoBulk]
  | slice elems spare => simp [Rows.uptoBulk]
  | agg parts => simp [Rows.uptoBulk]
  | iface t d => simp [Rows.uptoBulk]
  | map entries => simp [Rows.uptoBulk]
  | held h => simp [Rows.uptoBulk]
theorem bk_part {d : DataW H} {l : List (DataW H)} (h : d ∈ l) : Rows.uptoBulk d ≤ Rows.uptoBulkAll l := by
  induction l with
  | nil => cases h
  | cons x r ih =>
    simp only [Rows.uptoBulkAll]
    cases List.mem_cons.1 h with
    | inl e => subst e; omega
    | inr e => have := ih e; omega
theorem bk_len (l : List (DataW H)) : l.length ≤ Rows.uptoBulkAll l := by
  induction l with
  | nil => simp [Rows.uptoBulkAll]
  | cons x r ih => have := bk_one x; simp only [Rows.uptoBulkAll, List.length_cons]; omega
theorem bk_slice (elems spare : List (DataW H)) : Rows.uptoBulkAll elems ≤ Rows.uptoBulk (.slice elems spare) := by
  simp only [Rows.uptoBulk]; omega
theorem bk_str (bytes : List UInt8) : bytes.length ≤ Rows.uptoBulk (DataW.lit (H := H) (.string bytes)) := by
  simp [Rows.uptoBulk]
theorem bk_agg {d : DataW H} {parts : List (DataW H)} (h : d ∈ parts) : Rows.uptoBulk d ≤ Rows.uptoBulk (.agg parts) := by
  have := bk_part h
  simp only [Rows.uptoBulk]; omega
/-- the bound of each argument -/
theorem bk_bound {l : List (DataW H)} (hk : Rows.uptoSmall H l = true) : ∀ d ∈ l, Rows.uptoBulk d ≤ 1048576 := by
  have h : Rows.uptoBulkAll l ≤ 1048576 := of_decide_eq_true hk
  intro d hd
  exact Nat.le_trans (bk_part hd) h
end
/-- a list of strings within a bound; attributes, modifications, a schema within it -/
def GS (l : List Bs) (n : Nat) : Prop := l.length ≤ n ∧ ∀ x ∈ l, x.length ≤ n
theorem GS.mono {l : List Bs} {n m : Nat} (h : GS l n) (hn : n ≤ m) : GS l m := ⟨Nat.le_trans h.1 hn, fun x hx => Nat.le_trans (h.2 x hx) hn⟩
def GA (a : Idn.Att) (n : Nat) : Prop := a.name.length ≤ n ∧ GS a.vals n
def GM (a : Md) (n : Nat) : Prop := a.name.length ≤ n ∧ GS a.vals n
def GC (c : Idn.Cl) (n : Nat) : Prop := c.name.length ≤ n ∧ c.super.length ≤ n ∧ GS c.must n ∧ GS c.may n
def GAs (l : List Idn.Att) (n : Nat) : Prop := l.length ≤ n ∧ ∀ a ∈ l, GA a n
def GMs (l : List Md) (n : Nat) : Prop := l.length ≤ n ∧ ∀ a ∈ l, GM a n
def GSch (s : Idn.Sch) (n : Nat) : Prop := (s.types.length ≤ n ∧ ∀ t ∈ s.types, t.name.length ≤ n) ∧ s.classes.length ≤ n ∧ ∀ c ∈ s.classes, GC c n
theorem GA.mono {a : Idn.Att} {n m : Nat} (h : GA a n) (hn : n ≤ m) : GA a m := ⟨Nat.le_trans h.1 hn, h.2.mono hn⟩
theorem GM.mono {a : Md} {n m : Nat} (h : GM a n) (hn : n ≤ m) : GM a m := ⟨Nat.le_trans h.1 hn, h.2.mono hn⟩
theorem GC.mono {a : Idn.Cl} {n m : Nat} (h : GC a n) (hn : n ≤ m) : GC a m := ⟨Nat.le_trans h.1 hn, Nat.le_trans h.2.1 hn, h.2.2.1.mono hn, h.2.2.2.mono hn⟩
theorem GAs.mono {a : List Idn.Att} {n m : Nat} (h : GAs a n) (hn : n ≤ m) : GAs a m := ⟨Nat.le_trans h.1 hn, fun x hx => (h.2 x hx).mono hn⟩
theorem GMs.mono {a : List Md} {n m : Nat} (h : GMs a n) (hn : n ≤ m) : GMs a m := ⟨Nat.le_trans h.1 hn, fun x hx => (h.2 x hx).mono hn⟩
theorem GSch.mono {s : Idn.Sch} {n m : Nat} (h : GSch s n) (hn : n ≤ m) : GSch s m := ⟨⟨Nat.le_trans h.1.1 hn, fun x hx => Nat.le_trans (h.1.2 x hx) hn⟩, Nat.le_trans h.2.1 hn, fun x hx => (h.2.2 x hx).mono hn⟩
theorem GSch.ssm {s : Idn.Sch} {n : Nat} (h : GSch s n) (hn : n ≤ 1000000000) : SSm s := by
  obtain ⟨⟨h1, h2⟩, h3, h4⟩ := h
  refine ⟨⟨by omega, fun t ht => by have := h2 t ht; omega⟩, ⟨by omega, fun c hc => ?_⟩⟩
  obtain ⟨g1, g2, g3, g4⟩ := h4 c hc
  exact ⟨by omega, by omega, ⟨by have := g3.1; omega, fun x hx => by have := g3.2 x hx; omega⟩, ⟨by have := g4.1; omega, fun x hx => by have := g4.2 x hx; omega⟩⟩
theorem GAs.asm {l : List Idn.Att} {n : Nat} (h : GAs l n) (hn : n ≤ 1048576) : ASm l ∧ ASm5 l := by
  refine ⟨⟨by have := h.1; omega, fun a ha => ?_⟩, fun a ha => ?_⟩
  all_goals obtain ⟨h1, h2, h3⟩ := h.2 a ha
  · exact ⟨by omega, by omega, fun x hx => by have := h3 x hx; omega⟩
  · exact ⟨by omega, fun x hx => by have := h3 x hx; omega⟩
section
variable {H : Type} {enc : TypeId × Value → H} {W : World}
theorem strs_openB {fuel : Nat} {v : Value} {x : DataW H × List MemPlace} (h : DataW.trod enc Tryz.prog W 0 (fun _ => true) true fuel 45 [v] = some x) : ∃ l, StrsV W W.heap.size v l ∧ GS l (Rows.uptoBulk x.1) := by
  rcases open_strings Tryz.underlying45 Tryz.underlying9 cellsOf_string h with ⟨hcs, hx⟩ | ⟨a, len, cap, ss, hcs, _, hl, hm, hz, hx, hcell, _⟩
  · simp at hcs
    subst hcs
    exact ⟨[], SlV.nil _ _ _ _, by simp, by simp⟩
  · simp at hcs
    subst hcs
    simp only [if_true] at hz
    obtain ⟨b, off, spot⟩ := a
    have hlen : ((ss.take len).map L).length = len := by simp; omega
    refine ⟨(ss.take len).map L, ?_, ?_⟩
    case refine_2 =>
      subst hx
      have k1 := bk_slice (H := H) (strs (ss.take len)) (strs (ss.drop len))
      refine ⟨?_, fun y hy => ?_⟩
      · have k2 := bk_len (H := H) (strs (ss.take len))
        rw [List.length_map]
        simp only [strs, List.length_map] at k2
        exact Nat.le_trans k2 k1
      · obtain ⟨t, ht, rfl⟩ := List.mem_map.1 hy
        have k3 : (DataW.lit (.string t.data.toList) : DataW H) ∈ strs (ss.take len) := List.mem_map.2 ⟨t, ht, rfl⟩
        exact Nat.le_trans (bk_str (H := H) _) (Nat.le_trans (bk_part k3) k1)
    refine ⟨some ⟨b, off, spot⟩, cap, by rw [hlen], by rw [hlen]; exact hl, fun hp => ?_⟩
    rw [hlen] at hp
    have hspot : spot = none := by simpa [Addr.add] using World.cell?_spot (hcell 0 (by omega))
    subst hspot
    refine ⟨b, off, rfl, World.block_lt_of_cell? _ _ (hcell 0 (by omega)), fun i y hy => ?_⟩
    rw [List.getElem?_map] at hy
    obtain ⟨t, ht, rfl⟩ := Option.map_eq_some_iff.1 hy
    refine ⟨[sv (L t)], rfl, rfl, fun j u hj => ?_⟩
    match j, hj with
    | 0, hj =>
      simp at hj; subst hj
      have hil : i < len := by
        have := (List.getElem?_eq_some_iff.1 ht).1
        simp at this; omega
      have := hcell i (by omega)
      rw [add_plain] at this
      rw [Nat.mul_one, Nat.add_zero, this]
      rw [List.getElem?_take_of_lt hil] at ht
      simp [sv, Idn.B_L, List.getD, ht]
theorem sl_openB {α : Type} {E : α → List Value → Prop} {G : α → Nat → Prop} (hG : ∀ z n m, G z n → n ≤ m → G z m) {size : Nat} {t e : TypeId} {fuel : Nat} {v : Value} {x : DataW H × List MemPlace} (ht : Tryz.prog.underlying t = some (.slice e)) (hsz : Tryz.prog.cellsOf e = size) (hpos : 0 < size)
    (h : DataW.trod enc Tryz.prog W 0 (fun _ => true) true fuel t [v] = some x)
    (hE : ∀ (cs : List Value) (n : Nat) (y : DataW H × List MemPlace), DataW.trod enc Tryz.prog W 0 (fun _ => true) true n e cs = some y → ∃ z : α, cs.length = size ∧ E z cs ∧ G z (Rows.uptoBulk y.1)) : ∃ l, SlV E W W.heap.size size v l ∧ l.length ≤ Rows.uptoBulk x.1 ∧ ∀ z ∈ l, G z (Rows.uptoBulk x.1) := by
  rcases Go.Deep.open_slice ht h with ⟨hcs, hx⟩ | ⟨a, len, cap, m, n, D, Pl, hcs, _, hl, hm, hmm, hx, hel⟩
  · simp at hcs
    subst hcs
    exact ⟨[], SlV.nil _ _ _ _, by simp, by simp⟩
  · simp at hcs
    subst hcs
    simp only [if_true] at hmm
    have k1 := bk_slice (H := H) ((List.range len).map D) ((List.range (m - len)).map fun j => D (len + j))
    obtain ⟨l, hl1, hl2⟩ := exList (fun i (z : α) => (∃ cs, W.cells? 0 (a.add (i * size)) size = some cs ∧ cs.length = size ∧ E z cs) ∧ G z (Rows.uptoBulk (.slice ((List.range len).map D) ((List.range (m - len)).map fun j => D (len + j)) : DataW H))) len fun i hi => by
      obtain ⟨cs, h1, h2⟩ := hel i (by omega)
      rw [hsz] at h1
      obtain ⟨z, h3, h4, h5⟩ := hE cs n _ h2
      refine ⟨z, ⟨cs, h1, h3, h4⟩, hG _ _ _ h5 (Nat.le_trans (bk_part ?_) k1)⟩
      exact List.mem_map.2 ⟨i, List.mem_range.2 hi, rfl⟩
    refine ⟨l, ⟨some a, cap, by rw [hl1], by rw [hl1]; exact hl, fun hp => ?_⟩, ?_, ?_⟩
    case refine_2 =>
      subst hx
      have k2 := bk_len (H := H) ((List.range len).map D)
      rw [List.length_map, List.length_range] at k2
      rw [hl1]
      exact Nat.le_trans k2 k1
    case refine_3 =>
      subst hx
      intro z hz
      obtain ⟨i, hi, rfl⟩ := List.getElem_of_mem hz
      exact (hl2 i _ (List.getElem?_eq_getElem hi)).2
    obtain ⟨b, off, spot⟩ := a
    obtain ⟨z0, hz0⟩ : ∃ z, l[0]? = some z := ⟨_, List.getElem?_eq_getElem hp⟩
    obtain ⟨⟨cs0, h0, h0l, _⟩, _⟩ := hl2 0 z0 hz0
    have hc0 := (World.cells?_some h0).2.2 0 (by omega)
    have hv0 : ∃ u, cs0[0]? = some u := ⟨_, List.getElem?_eq_getElem (by omega)⟩
    obtain ⟨u0, hu0⟩ := hv0
    rw [hu0] at hc0
    have hspot : spot = none := by simpa [Addr.add] using World.cell?_spot hc0
    subst hspot
    rw [add_plain, add_plain] at hc0
    refine ⟨b, off, rfl, World.block_lt_of_cell? _ _ hc0, fun i z hz => ?_⟩
    obtain ⟨⟨cs, h1, h2, h3⟩, _⟩ := hl2 i z hz
    refine ⟨cs, h2, h3, fun j u hj => ?_⟩
    have hjl := (List.getElem?_eq_some_iff.1 hj).1
    have := (World.cells?_some h1).2.2 j (by omega)
    rw [hj, add_plain, add_plain] at this
    rw [← Nat.add_assoc]; exact this
theorem bk_a2 (a b : DataW H) : Rows.uptoBulk a ≤ Rows.uptoBulk (.agg [a, b]) ∧ Rows.uptoBulk b ≤ Rows.uptoBulk (.agg [a, b]) := ⟨bk_agg (by simp), bk_agg (by simp)⟩
theorem bk_a3 (a b c : DataW H) : Rows.uptoBulk a ≤ Rows.uptoBulk (.agg [a, b, c]) ∧ Rows.uptoBulk b ≤ Rows.uptoBulk (.agg [a, b, c]) ∧ Rows.uptoBulk c ≤ Rows.uptoBulk (.agg [a, b, c]) := ⟨bk_agg (by simp), bk_agg (by simp), bk_agg (by simp)⟩
theorem bk_a4 (a b c d : DataW H) : Rows.uptoBulk a ≤ Rows.uptoBulk (.agg [a, b, c, d]) ∧ Rows.uptoBulk b ≤ Rows.uptoBulk (.agg [a, b, c, d]) ∧ Rows.uptoBulk c ≤ Rows.uptoBulk (.agg [a, b, c, d]) ∧ Rows.uptoBulk d ≤ Rows.uptoBulk (.agg [a, b, c, d]) := ⟨bk_agg (by simp), bk_agg (by simp), bk_agg (by simp), bk_agg (by simp)⟩
theorem bk_of {x : ByteArray} {y : DataW H × List MemPlace} (h : y = (.lit (.string x.data.toList), [])) : (L x).length ≤ Rows.uptoBulk y.1 := by
  subst h
  exact bk_str (H := H) _
set_option maxRecDepth 100000 in
theorem types_openB {fuel : Nat} {v : Value} {x : DataW H × List MemPlace} (h : DataW.trod enc Tryz.prog W 0 (fun _ => true) true fuel 29 [v] = some x) : ∃ l, TypesV W W.heap.size v l ∧ l.length ≤ Rows.uptoBulk x.1 ∧ ∀ t ∈ l, t.name.length ≤ Rows.uptoBulk x.1 := by
  refine sl_openB (E := ET) (G := fun t n => t.name.length ≤ n) (fun _ _ _ h1 h2 => Nat.le_trans h1 h2) Tryz.underlying29 cellsOf_AT (by decide) h fun cs n y hy => ?_
  obtain ⟨y0, y1, y2, m, hyy, hl, h0, h1, h2⟩ := Go.Deep.trod_struct3 Tryz.underlying65 hy
  rw [cellsOf_AT] at hl
  match cs, hl with
  | [a, b, c], _ =>
    obtain ⟨s, e0, f0, _⟩ := DataW.trod_string Tryz.underlying9 h0
    obtain ⟨k, e1, _, _⟩ := DataW.trod_int Tryz.underlying63 h1
    obtain ⟨d, e2, _⟩ := DataW.trod_bool Tryz.underlying4 h2
    simp [cellsOf_string] at e0
    simp [cellsOf_syn] at e1
    simp [cellsOf_bool] at e2
    subst e0 e1 e2
    refine ⟨⟨L s, k, d⟩, rfl, by simp [ET, sv, Idn.B_L], ?_⟩
    subst hyy
    exact Nat.le_trans (bk_of f0) (bk_a3 _ _ _).1
set_option maxRecDepth 100000 in
theorem classes_openB {fuel : Nat} {v : Value} {x : DataW H × List MemPlace} (h : DataW.trod enc Tryz.prog W 0 (fun _ => true) true fuel 30 [v] = some x) : ∃ l, ClassesV W W.heap.size v l ∧ l.length ≤ Rows.uptoBulk x.1 ∧ ∀ c ∈ l, GC c (Rows.uptoBulk x.1) := by
  refine sl_openB (E := EC W W.heap.size) (G := GC) (fun _ _ _ h1 h2 => h1.mono h2) Tryz.underlying30 cellsOf_CL (by decide) h fun cs n y hy => ?_
  obtain ⟨y0, y1, y2, y3, m, hyy, hl, h0, h1, h2, h3⟩ := Go.Joins.trod_struct4 Tryz.underlying67 hy
  rw [cellsOf_CL] at hl
  match cs, hl with
  | [a, b, c, d], _ =>
    obtain ⟨s, e0, f0, _⟩ := DataW.trod_string Tryz.underlying9 h0
    obtain ⟨t, e1, f1, _⟩ := DataW.trod_string Tryz.underlying9 h1
    simp [cellsOf_string] at e0 e1
    subst e0 e1
    have h2' : DataW.trod enc Tryz.prog W 0 (fun _ => true) true m 45 [c] = some y2 := by simpa [cellsOf_strs] using h2
    have h3' : DataW.trod enc Tryz.prog W 0 (fun _ => true) true m 45 [d] = some y3 := by simpa [cellsOf_strs] using h3
    obtain ⟨l2, a1, a2⟩ := strs_openB h2'
    obtain ⟨l3, b1, b2⟩ := strs_openB h3'
    subst hyy
    obtain ⟨k0, k1, k2, k3⟩ := bk_a4 y0.1 y1.1 y2.1 y3.1
    exact ⟨⟨L s, L t, l2, l3⟩, rfl, ⟨c, d, by simp [sv, Idn.B_L], a1, b1⟩, Nat.le_trans (bk_of f0) k0, Nat.le_trans (bk_of f1) k1, a2.mono k2, b2.mono k3⟩
set_option maxRecDepth 100000 in
theorem schema_openB {r : Reach} {b0 : Nat} {v : Value} {d : DataW H} {p : List MemPlace} (hv : Value.okWide Tryz.prog W r b0 32 v) (h : DataW.Trod enc Tryz.prog W 0 (fun _ => true) true 32 v d p) : ∃ s, SchV W W.heap.size v s ∧ GSch s (Rows.uptoBulk d) := by
  obtain ⟨v0, v1, y0, y1, n, rfl, rfl, _, h0, h1⟩ := Go.Joins.open_agg2 Tryz.underlying32 (by kernel_rfl) (by kernel_rfl) hv h
  obtain ⟨l0, a1, a2, a3⟩ := types_openB h0
  obtain ⟨l1, b1, b2, b3⟩ := classes_openB h1
  obtain ⟨k0, k1⟩ := bk_a2 y0.1 y1.1
  exact ⟨⟨l0, l1⟩, ⟨v0, v1, rfl, a1, b1⟩, ⟨Nat.le_trans a2 k0, fun t ht => Nat.le_trans (a3 t ht) k0⟩, Nat.le_trans b2 k1, fun c hc => by
    obtain ⟨g1, g2, g3, g4⟩ := b3 c hc
    exact ⟨Nat.le_trans g1 k1, Nat.le_trans g2 k1, g3.mono k1, g4.mono k1⟩⟩
set_option maxRecDepth 100000 in
theorem atts_openB {fuel : Nat} {v : Value} {x : DataW H × List MemPlace} (h : DataW.trod enc Tryz.prog W 0 (fun _ => true) true fuel 22 [v] = some x) : ∃ l, AttsV W W.heap.size v l ∧ GAs l (Rows.uptoBulk x.1) := by
  refine sl_openB (E := EA W W.heap.size) (G := GA) (fun _ _ _ h1 h2 => h1.mono h2) Tryz.underlying22 cellsOf_Att (by decide) h fun cs n y hy => ?_
  obtain ⟨y0, y1, m, hyy, hl, h0, h1⟩ := trod_struct2 Tryz.underlying48 hy
  rw [cellsOf_Att] at hl
  match cs, hl with
  | [a, b], _ =>
    obtain ⟨s, e0, f0, _⟩ := DataW.trod_string Tryz.underlying9 h0
    simp [cellsOf_string] at e0
    subst e0
    have h1' : DataW.trod enc Tryz.prog W 0 (fun _ => true) true m 45 [b] = some y1 := by simpa [cellsOf_string, cellsOf_strs] using h1
    obtain ⟨l2, a1, a2⟩ := strs_openB h1'
    subst hyy
    obtain ⟨k0, k1⟩ := bk_a2 y0.1 y1.1
    exact ⟨⟨L s, l2⟩, rfl, ⟨b, by simp [sv, Idn.B_L], a1⟩, Nat.le_trans (bk_of f0) k0, a2.mono k1⟩
set_option maxRecDepth 100000 in
theorem entry_openB {r : Reach} {b0 : Nat} {v : Value} {d : DataW H} {p : List MemPlace} (hv : Value.okWide Tryz.prog W r b0 24 v) (h : DataW.Trod enc Tryz.prog W 0 (fun _ => true) true 24 v d p) : ∃ n a l, v = .agg #[.string n, a] ∧ AttsV W W.heap.size a l ∧ GAs l (Rows.uptoBulk d) ∧ n.size ≤ Rows.uptoBulk d := by
  obtain ⟨v0, v1, y0, y1, n, rfl, rfl, _, h0, h1⟩ := Go.Joins.open_agg2 Tryz.underlying24 (by kernel_rfl) (by kernel_rfl) hv h
  obtain ⟨s, e0, f0, hs⟩ := DataW.trod_string Tryz.underlying9 h0
  simp only [List.cons.injEq, and_true] at e0
  subst e0
  obtain ⟨l, a1, a2⟩ := atts_openB h1
  obtain ⟨k0, k1⟩ := bk_a2 y0.1 y1.1
  exact ⟨s, v1, l, rfl, a1, ⟨Nat.le_trans a2.1 k1, fun a ha => ⟨Nat.le_trans (a2.2 a ha).1 k1, (a2.2 a ha).2.mono k1⟩⟩, by rw [Idn.size_L]; exact Nat.le_trans (bk_of f0) k0⟩
set_option maxRecDepth 100000 in
theorem slice_openB {t : TypeId} {r : Reach} {b0 : Nat} {v : Value} {d : DataW H} {p : List MemPlace} (h : DataW.Trod enc Tryz.prog W 0 (fun _ => true) true t v d p) (ht : Tryz.prog.underlying t = some (.slice 59) ∨ Tryz.prog.underlying t = some (.slice 48)) (hv : Value.okWide Tryz.prog W r b0 t v) : ∃ fuel, DataW.trod enc Tryz.prog W 0 (fun _ => true) true fuel t [v] = some (d, p) := by
  obtain ⟨fuel, hf⟩ := h
  rcases ht with ht | ht
  · obtain ⟨A, n, c, rfl⟩ := okWide_slice ht hv
    exact ⟨fuel, hf⟩
  · obtain ⟨A, n, c, rfl⟩ := okWide_slice ht hv
    exact ⟨fuel, hf⟩
end
end Go.Proofs.YtoopoglkeeoamaaGreatDoor
/- law08: EntryStable, walked. -/
namespace Go.Proofs.YtoopoglkeeoamaaGreatDoor
open Go.RowKit Go.Sort
open Idn (L B Bs drop_L take_L size_L)
theorem cleanN_len9 (s : Bs) : (Idn.cleanN s).1.length ≤ 5000 := by
  unfold Idn.cleanN
  split
  · simp
  · unfold Idn.format
    split
    · simp
    · rename_i h
      obtain ⟨h1, h2⟩ := check_zero (l := (Idn.parse s).1) (by simpa using h)
      have h3 := fmtK_len h2 (Idn.parse s).1.length (Nat.le_refl _)
      unfold fmtK at h3
      rw [List.take_length] at h3
      show (Idn.fmtJ _).length ≤ _
      omega
theorem nf_name_len {s : Idn.Sch} {n : Bs} {l : List Idn.Att} {x : En} (h : eNormal s n l = (x, 0)) : x.1.length ≤ 5000 := by
  have h1 := (nf_parts h).1
  have h2 := cleanN_len9 x.1
  rw [h1] at h2
  exact h2
/-- a normal entry is small -/
theorem nf_sm {s : Idn.Sch} {n : Bs} {l : List Idn.Att} {x : En} (h : eNormal s n l = (x, 0)) : (ASm x.2 ∧ ASm5 x.2) ∧ Idn.ASm7 x.2 ∧ x.2.length ≤ 32 ∧ ∀ a ∈ x.2, a.vals.length ≤ 16 := by
  have hf := fit_start h
  exact ⟨hf.asm (by decide), hf.asm7 (by decide), hf.2.1, fun a ha => (hf.2.2 a ha).2.1⟩
end Go.Proofs.YtoopoglkeeoamaaGreatDoor
/- law08: EntryTurns, walked. -/
namespace Go.Proofs.YtoopoglkeeoamaaGreatDoor
open Go.RowKit Go.Sort
open Idn (L B Bs drop_L take_L size_L)
theorem nf_name {s : Idn.Sch} {n : Bs} {l : List Idn.Att} {x : En} (h : eNormal s n l = (x, 0)) : x.1 = (Idn.cleanN n).1 := by
  unfold eNormal at h
  split at h
  · simp at h
  · split at h
    · rename_i h1; simp only [Prod.mk.injEq] at h; simp [h.2] at h1
    · split at h
      · rename_i h1; simp only [Prod.mk.injEq] at h; simp [h.2] at h1
      · unfold eOut at h
        split at h
        · rename_i h1; simp only [Prod.mk.injEq] at h; simp [h.2] at h1
        · simp only [Prod.mk.injEq] at h
          rw [← h.1]
theorem difs_in {n : Bs} {old new : List Bs} {m : Md} (h : m ∈ difs n old new) : m.name = n ∧ (m.vals = [] ∨ m.vals = new ∨ m.vals = minus old new ∨ m.vals = minus new old) := by
  unfold difs at h
  split at h
  · simp at h
  · split at h
    · rw [List.mem_singleton] at h; subst h; exact ⟨rfl, .inl rfl⟩
    · split at h
      · rw [List.mem_singleton] at h; subst h; exact ⟨rfl, .inr (.inl rfl)⟩
      · split at h
        · rw [List.mem_singleton] at h; subst h; exact ⟨rfl, .inr (.inl rfl)⟩
        · rcases List.mem_append.1 h with h | h
          · split at h
            · rw [List.mem_singleton] at h; subst h; exact ⟨rfl, .inr (.inr (.inl rfl))⟩
            · simp at h
          · split at h
            · rw [List.mem_singleton] at h; subst h; exact ⟨rfl, .inr (.inr (.inr rfl))⟩
            · simp at h
theorem difs_small {n : Bs} {old new : List Bs} {m : Md} (h : m ∈ difs n old new) (ho : old.length ≤ 16 ∧ ∀ x ∈ old, x.length ≤ 256) (hw : new.length ≤ 16 ∧ ∀ x ∈ new, x.length ≤ 256) : m.name = n ∧ m.vals.length ≤ 16 ∧ ∀ x ∈ m.vals, x.length ≤ 256 := by
  obtain ⟨h1, h2⟩ := difs_in h
  refine ⟨h1, ?_⟩
  rcases h2 with h2 | h2 | h2 | h2 <;> rw [h2]
  · exact ⟨by simp, by simp⟩
  · exact hw
  · exact ⟨Nat.le_trans (minus_len _ _) ho.1, fun x hx => ho.2 x (mem_minus.1 hx).1⟩
  · exact ⟨Nat.le_trans (minus_len _ _) hw.1, fun x hx => hw.2 x (mem_minus.1 hx).1⟩
theorem nf_check {s : Idn.Sch} {n : Bs} {A : List Idn.Att} (h : eNormal s n A = ((n, A), 0)) : eCheck n A = 0 := by
  obtain ⟨c1, c2, qA, vA⟩ := nf_parts h
  dsimp only at c1 c2 qA vA
  have hvn : validN n = true := by unfold validN; rw [c1]; simp
  unfold eCheck
  rw [hvn, sValid_check vA]
  simp [c2]
theorem diff_big {s : Idn.Sch} {n : Bs} {A T : List Idn.Att} (hA : eNormal s n A = ((n, A), 0)) (hT : eNormal s n T = ((n, T), 0)) : MBig (eDiff n A n T) := by
  have fA : Fit 32 A := fit_start hA
  have fT : Fit 32 T := fit_start hT
  intro m hm
  have kA := check_sm (nf_check hA) (nf_sm hA).1.1
  have kT := check_sm (nf_check hT) (nf_sm hT).1.1
  unfold eDiff at hm
  split at hm
  · simp at hm
  · obtain ⟨x, hx, hm⟩ := List.mem_flatMap.1 hm
    rw [← rGet_eq kA.2.1, ← rGet_eq kT.2.1] at hm
    obtain ⟨h1, h2, h3⟩ := difs_small hm (fA.get x) (fT.get x)
    refine ⟨?_, by omega, fun y hy => by have := h3 y hy; omega⟩
    rw [h1]
    rcases List.mem_append.1 (Idn.srt_mem (compact_mem hx)) with h | h
    · exact kA.2.2.1.2 x h
    · exact kT.2.2.1.2 x h
theorem moreN_take (A T : List Idn.Att) (k : Nat) (hk : k < T.length) : moreN A (T.take (k + 1)) = moreN A (T.take k) + if (rGet A T[k].name).length = 0 then 1 else 0 := by
  unfold moreN
  rw [List.take_succ_eq_append_getElem hk, List.filter_append, List.length_append]
  by_cases h : (rGet A T[k].name).length = 0
  · rw [if_pos h, List.filter_cons_of_pos (by simpa using h)]; rfl
  · rw [if_neg h, List.filter_cons_of_neg (by simpa using h)]; rfl
set_option maxHeartbeats 16000000 in
set_option maxRecDepth 100000 in
theorem entryTurns_any (u : Value) (s : Idn.Sch) (n : ByteArray) (a : Value) (l : List Idn.Att) (lv : Value) (l2 : List Idn.Att) (w : World) (hu : SchV w w.heap.size u s) (hg : GSch s 1048576) (hv : AttsV w w.heap.size a l) (hga : GAs l 1048576) (hn : n.size ≤ 1048576) (hv2 : AttsV w w.heap.size lv l2) (hga2 : GAs l2 1048576) (hE : Env w) (hU : EnvU w) :
    Calls Tryz.prog 8 #[u, .agg #[.string n, a], lv] w fun e w' => e = .returned (.bool true) ∧ Below w.heap.size w w' := by
  have hs := hg.ssm (by decide)
  have hasm := hga.asm (Nat.le_refl _)
  have hasm2 := hga2.asm (Nat.le_refl _)
  have hV := fun W (hW : Below w.heap.size w W) => SchV.mono (SchV.keep hu hW) hW.size
  have hN0 := fun W (hW : Below w.heap.size w W) => eNormal_any u s n a l W (hV W hW) hs (hE.keep hW) (hU.keep hW) (AttsV.mono (AttsV.keep hv hW) hW.size) (by omega) hasm.1 hasm.2
  have hN2 := fun W (hW : Below w.heap.size w W) => eNormal_any u s n lv l2 W (hV W hW) hs (hE.keep hW) (hU.keep hW) (AttsV.mono (AttsV.keep hv2 hW) hW.size) (by omega) hasm2.1 hasm2.2
  have hAp := fun W (hW : Below w.heap.size w W) (n : ByteArray) (a : Value) (l : List Idn.Att) (mv : Value) (ms : List Md) (ha : AttsV W W.heap.size a l) h1 h2 h3 h4 hm hmb => apply_any u s n a l mv ms W (hV W hW) hs (hE.keep hW) (hU.keep hW) ha h1 h2 h3 h4 hm hmb
  have hEx := fun W (hW : Below w.heap.size w W) => example_any W (hE.keep hW) (hU.keep hW)
  have hr1 := fun x h => (⟨nf_nf (s := s) (n := L n) (l := l) (x := x) h, nf_name h, nf_name_len h, nf_sm h⟩ : _ ∧ _ ∧ _ ∧ _)
  have hr2 := fun x h => (⟨nf_nf (s := s) (n := L n) (l := l2) (x := x) h, nf_name h, nf_name_len h, nf_sm h⟩ : _ ∧ _ ∧ _ ∧ _)
  obtain ⟨au, bu, rfl, hT, hC⟩ := hu
  obtain ⟨AT, cT, rfl, _⟩ := SlV.shape hT
  obtain ⟨AC, cC, rfl, _⟩ := SlV.shape hC
  obtain ⟨A, c, rfl, hc⟩ := SlV.shape hv
  obtain ⟨A0, c0, rfl, _⟩ := SlV.shape hv2
  generalize eNormal s (L n) l = r at *
  generalize eNormal s (L n) l2 = r2 at *
  generalize (Idn.cleanN (L n)).1 = cn at *
  obtain ⟨⟨rN, rL⟩, x⟩ := r
  obtain ⟨⟨tN, tL⟩, y⟩ := r2
  have HR1 := Lib.hid hr1
  have HR2 := Lib.hid hr2
  clear hr1 hr2 hT hC hE hU hv hv2 hga hga2 hg hV
  go_enter Tryz.func8, Tryz.ntmps8
  go_upto_region 1 with fail
  with_reducible refine gen2 (R := fun W => Code.wp Tryz.prog _ _ _ W) ?_
  intro W hbW hszW hc1 hc2
  have q0 : W.cell? ⟨w.heap.size, 0, none⟩ = some (.slice AT s.types.length cT) := hc1 0 _ rfl
  have q1 : W.cell? ⟨w.heap.size, 1, none⟩ = some (.slice AC s.classes.length cC) := hc1 1 _ rfl
  have e0 : W.cell? ⟨w.heap.size + 1, 0, none⟩ = some (.string n) := hc2 0 _ rfl
  have e1 : W.cell? ⟨w.heap.size + 1, 1, none⟩ = some (.slice A l.length c) := hc2 1 _ rfl
  clear hc1 hc2 hszW
  go_wp2_with fail
  refine (hN0 W hbW).mono ?_
  rintro e w1 ⟨v1, ps1, rfl, hown1, hps1, hb1⟩
  obtain ⟨A1, c1, hv1⟩ := own_shape hown1.1
  subst hv1
  have hats1 := hown1.atts hps1
  have HP1 := Lib.hid (show ps1.length = rL.length by have := congrArg List.length hps1; simpa using this)
  replace q0 := cell_later hb1 q0
  replace q1 := cell_later hb1 q1
  replace e0 := cell_later hb1 e0
  have hbw1 := hbW.trans (hb1.mono hbW.size)
  clear hN0 e1 hps1 hown1 hb1 hbW
  dsimp only at hats1
  go_upto_region 2 with fail
  with_reducible refine gen1 (R := fun W => Code.wp Tryz.prog _ _ _ W) ?_
  intro W2 hbW2 hszW2 hc2 _
  have a0 : W2.cell? ⟨w1.heap.size, 0, none⟩ = some (.string (B rN)) := hc2 0 _ rfl
  have a1 : W2.cell? ⟨w1.heap.size, 1, none⟩ = some (.slice A1 ps1.length c1) := hc2 1 _ rfl
  replace q0 := cell_later hbW2 q0
  replace q1 := cell_later hbW2 q1
  replace e0 := cell_later hbW2 e0
  have hats2 := AttsV.mono (AttsV.keep hats1 hbW2) hbW2.size
  have hbw2 := hbw1.trans (hbW2.mono hbw1.size)
  clear hc2 hszW2 hbW2 hats1 hbw1
  go_wp2_with fail
  refine (hN2 W2 hbw2).mono ?_
  rintro e w3 ⟨v3, ps3, rfl, hown3, hps3, hb3⟩
  obtain ⟨A3, c3, hv3⟩ := own_shape hown3.1
  subst hv3
  have hats3 := hown3.atts hps3
  have HP3 := Lib.hid (show ps3.length = tL.length by have := congrArg List.length hps3; simpa using this)
  have hatsA3 := AttsV.mono (AttsV.keep hats2 hb3) hb3.size
  replace q0 := cell_later hb3 q0
  replace q1 := cell_later hb3 q1
  replace a0 := cell_later hb3 a0
  replace a1 := cell_later hb3 a1
  have hbw3 := hbw2.trans (hb3.mono hbw2.size)
  clear hN2 hps3 hown3 hb3 hats2 hbw2 e0
  dsimp only at hats3
  go_upto_region 3 with fail
  with_reducible refine gen1 (R := fun W => Code.wp Tryz.prog _ _ _ W) ?_
  intro W4 hbW4 hszW4 hc4 _
  have b0 : W4.cell? ⟨w3.heap.size, 0, none⟩ = some (.string (B tN)) := hc4 0 _ rfl
  have b1 : W4.cell? ⟨w3.heap.size, 1, none⟩ = some (.slice A3 ps3.length c3) := hc4 1 _ rfl
  replace q0 := cell_later hbW4 q0
  replace q1 := cell_later hbW4 q1
  replace a0 := cell_later hbW4 a0
  replace a1 := cell_later hbW4 a1
  have hatsA4 := AttsV.mono (AttsV.keep hatsA3 hbW4) hbW4.size
  have hatsB4 := AttsV.mono (AttsV.keep hats3 hbW4) hbW4.size
  have hbw4 := hbw3.trans (hbW4.mono hbw3.size)
  clear hc4 hszW4 hbW4 hatsA3 hats3 hbw3
  by_cases hx : x = 0
  case neg =>
    have hI : (x != 0) = true := by simpa using hx
    have hex := hEx W4 hbw4
    clear hAp hEx hatsA4 hatsB4 HR1 HR2 HP1 HP3 hx
    go_wp2_with fail
    refine hex.mono ?_
    rintro e w5 ⟨rfl, hb5⟩
    go_wp2_with fail
    go_ret
    exact ⟨rfl, hbw4.trans (hb5.mono hbw4.size)⟩
  subst hx
  by_cases hy : y = 0
  case neg =>
    have hI : (y != 0) = true := by simpa using hy
    have hex := hEx W4 hbw4
    clear hAp hEx hatsA4 hatsB4 HR1 HR2 HP1 HP3 hy
    go_wp2_with fail
    refine hex.mono ?_
    rintro e w5 ⟨rfl, hb5⟩
    go_wp2_with fail
    go_ret
    exact ⟨rfl, hbw4.trans (hb5.mono hbw4.size)⟩
  subst hy
  obtain ⟨kA, nA, lA, ⟨sA1, sA2⟩, sA3, sA4, sA5⟩ := HR1.out _ rfl
  obtain ⟨kT, nT, lT, ⟨sT1, sT2⟩, sT3, sT4, sT5⟩ := HR2.out _ rfl
  dsimp only at kA nA lA sA1 sA2 sA3 sA4 sA5 kT nT lT sT1 sT2 sT3 sT4 sT5
  replace nA := nA.symm
  replace nT := nT.symm
  subst nA
  subst nT
  have hlB : (B cn).size ≤ 1000000000 := by rw [Idn.size_B]; omega
  have hD := diff_any (B cn) (B cn) _ _ rL tL W4 hatsA4 hatsB4 hlB hlB sA1 sT1
  rw [Idn.L_B] at hD
  have hbig := diff_big kA kT
  have htl := turns_law kA kT
  have hqA : Idn.rSorted rL = rL := (nf_parts kA).2.2.1.1
  have hqT : Idn.rSorted tL = tL := (nf_parts kT).2.2.1.1
  generalize eDiff cn rL cn tL = ms at *
  have HBIG := Lib.hid hbig
  have HTL := Lib.hid htl
  have HQA := Lib.hid hqA
  have HQT := Lib.hid hqT
  have HSA := Lib.hid sA5
  have HST := Lib.hid sT5
  clear HR1 HR2 hbig htl hqA hqT sA5 sT5 kA kT
  go_wp2_with fail
  refine hD.mono ?_
  rintro e w5 ⟨v5, ps5, rfl, hown5, hps5, hb5⟩
  obtain ⟨A5, c5, hv5⟩ := own_shape hown5.1
  subst hv5
  have hmods := hown5.mods hps5
  have HP5 := Lib.hid (show ps5.length = ms.length by have := congrArg List.length hps5; simpa using this)
  have hatsA5 := AttsV.mono (AttsV.keep hatsA4 hb5) hb5.size
  have hatsB5 := AttsV.mono (AttsV.keep hatsB4 hb5) hb5.size
  replace q0 := cell_later hb5 q0
  replace q1 := cell_later hb5 q1
  replace a0 := cell_later hb5 a0
  replace a1 := cell_later hb5 a1
  replace b0 := cell_later hb5 b0
  replace b1 := cell_later hb5 b1
  have hbw5 := hbw4.trans (hb5.mono hbw4.size)
  clear hD hps5 hown5 hb5 hatsA4 hatsB4 hbw4
  go_wp2_with fail
  go_loopw [12, 13] (fun mo i wr => ∃ (k m : Nat), k ≤ ps3.length ∧ mo = .int .i64 m ∧ i = .int .i64 k ∧ Below w5.heap.size w5 wr ∧ m ≤ k ∧ Hid (m = moreN rL (tL.take k))) (fun _ i _ => ps3.length - (intOf i).toNat)
  case atStart => exact ⟨0, 0, Nat.zero_le _, rfl, rfl, Below.refl _ _, Nat.le_refl _, rfl⟩
  case round =>
    obtain ⟨k, m, hk, rfl, rfl, hb, hmk, hinv⟩ := hrel
    obtain ⟨wo, hwo⟩ : ∃ wo : World, wo = wr := ⟨_, rfl⟩
    subst hwo
    have hbw := hbw5.trans (hb.mono hbw5.size)
    replace q0 := cell_later hb q0
    replace q1 := cell_later hb q1
    replace a0 := cell_later hb a0
    replace a1 := cell_later hb a1
    replace b0 := cell_later hb b0
    replace b1 := cell_later hb b1
    have hatsA := AttsV.mono (AttsV.keep hatsA5 hb) hb.size
    have hatsB := AttsV.mono (AttsV.keep hatsB5 hb) hb.size
    have hps32 : ps3.length ≤ 32 := by rw [HP3.out]; exact sT4
    by_cases hlt : k < ps3.length
    · have hltT : k < tL.length := by rw [← HP3.out]; exact hlt
      obtain ⟨bb, off, vk, hA3, hbk, d0, _, _⟩ := AttsV.cell hatsB hltT
      subst hA3
      have hltI : (k : Int) < (ps3.length : Int) := by omega
      have hdr : Below wo.heap.size wo wo.drew := (Below.refl _ _).drew
      have hG0 := r6_Get_any _ rL (B tL[k].name) wo.drew (AttsV.mono (AttsV.keep hatsA hdr) hdr.size) sA3 (by rw [Idn.size_B]; exact (sT1.2 _ (List.getElem_mem hltT)).1)
      rw [Idn.L_B] at hG0
      have hstep := moreN_take rL tL k hltT
      have hG : Calls Tryz.prog 26 _ wo.drew fun e w' => ∃ A c, e = .returned (.slice A (rGet rL tL[k].name).length c) ∧ Below wo.drew.heap.size wo.drew w' := hG0.mono (fun e w' h => by
        obtain ⟨A, kk, c, h1, h2, h3⟩ := h
        exact ⟨A, c, by rw [h1, SlV.len h2], h3⟩)
      have a1d : wo.drew.cell? ⟨w1.heap.size, 1, none⟩ = some (.slice A1 ps1.length c1) := a1
      have b1d : wo.drew.cell? ⟨w3.heap.size, 1, none⟩ = some (.slice (some ⟨bb, off, none⟩) ps3.length c3) := b1
      have d0d : wo.drew.cell? ⟨bb, off + k * 2, none⟩ = some (.string (B tL[k].name)) := d0
      have HSTEP := Lib.hid hstep
      clear hG0 hstep
      generalize (rGet rL tL[k].name).length = q at *
      generalize B tL[k].name = nk at *
      by_cases hq : q = 0
      · have hqI : ((q : Int) == 0) = true := by rw [beq_iff_eq]; omega
        have HM : Hid (m + 1 = moreN rL (tL.take (k + 1))) := by show _ = _; rw [HSTEP.out, ← hinv.out, if_pos hq]
        clear hinv HSTEP hq hatsA hatsB a0 b0 q0 q1
        go_wp2_with fail
        clear a1 b1 d0
        go_region_law (
          go_simp
          go_at_call 26
          refine hG.mono ?_
          rintro e w9 ⟨AG, cG, rfl, hb9⟩
          go_wp2_with fail)
        all_goals
          go_wp2_with fail
          go_roundw
          case rel => exact ⟨k + 1, m + 1, by omega, by congr 1, by go_num, hb.trans ((hdr.trans hb9).mono hb.size), by omega, HM⟩
          case measure => simp [intOf]; omega
      · have hqI : ((q : Int) == 0) = false := by rw [beq_eq_false_iff_ne]; omega
        have HM : Hid (m = moreN rL (tL.take (k + 1))) := by show _ = _; rw [HSTEP.out, ← hinv.out, if_neg hq]; rfl
        clear hinv HSTEP hq hatsA hatsB a0 b0 q0 q1
        go_wp2_with fail
        clear a1 b1 d0
        go_region_law (
          go_simp
          go_at_call 26
          refine hG.mono ?_
          rintro e w9 ⟨AG, cG, rfl, hb9⟩
          go_wp2_with fail)
        all_goals
          go_wp2_with fail
          go_roundw
          case rel => exact ⟨k + 1, m, by omega, rfl, by go_num, hb.trans ((hdr.trans hb9).mono hb.size), by omega, HM⟩
          case measure => simp [intOf]; omega
    · have hltI : ¬ (k : Int) < (ps3.length : Int) := by omega
      have HM : Hid (m = moreN rL tL) := by
        show _ = _
        rw [hinv.out, List.take_of_length_le (by have := HP3.out; omega)]
      have hmo := ModsV.mono (ModsV.keep hmods hb) hb.size
      clear hinv hatsA5 hatsB5 hmods
      by_cases h32 : 32 < ps5.length
      · have hI : (32 : Int) < (ps5.length : Int) := by omega
        have hex := hEx wo hbw
        clear hAp hEx hatsA hatsB HM HBIG HTL h32
        go_wp2_with fail
        refine hex.mono ?_
        rintro e w6 ⟨rfl, hb6⟩
        go_wp2_with fail
        go_ret
        exact ⟨rfl, hbw.trans (hb6.mono hbw.size)⟩
      have hI : ¬ (32 : Int) < (ps5.length : Int) := by omega
      have hpA := HP1.out
      have hwr : IntKind.i64.wrap ((ps1.length : Int) + (m : Int)) = (ps1.length : Int) + (m : Int) := IntWalk.i64_in _ (by omega)
      by_cases h33 : 32 < ps1.length + m
      · have hI3 : (32 : Int) < (ps1.length : Int) + (m : Int) := by omega
        have hex := hEx wo hbw
        clear hAp hEx hatsA hatsB HM HBIG HTL h32 h33 hpA
        go_wp2_with fail
        refine hex.mono ?_
        rintro e w6 ⟨rfl, hb6⟩
        go_wp2_with fail
        go_ret
        exact ⟨rfl, hbw.trans (hb6.mono hbw.size)⟩
      have hI3 : ¬ (32 : Int) < (ps1.length : Int) + (m : Int) := by omega
      have hturn := HTL.out.1 (by have := HP5.out; omega) (by have := HM.out; omega)
      have hA6 := hAp wo hbw (B cn) _ rL _ ms hatsA hlB sA1 sA2 (by omega) hmo HBIG.out
      rw [Idn.L_B, hturn] at hA6
      have H33 := Lib.hid h33
      clear hAp hmo hturn HM HBIG hpA h33
      go_wp2_with fail
      refine hA6.mono ?_
      rintro e w6 ⟨v6, ps6, rfl, hown6, hps6, hb6⟩
      obtain ⟨A6, c6, hv6⟩ := own_shape hown6.1
      subst hv6
      have hats6 := hown6.atts hps6
      replace a1 := cell_later hb6 a1
      replace b0 := cell_later hb6 b0
      replace b1 := cell_later hb6 b1
      have hatsA6 := AttsV.mono (AttsV.keep hatsA hb6) hb6.size
      have hatsB6 := AttsV.mono (AttsV.keep hatsB hb6) hb6.size
      have hbw6 := hbw.trans (hb6.mono hbw.size)
      clear hA6 hps6 hown6 hb6 hbw q0 q1 a0 hatsA hatsB hb
      dsimp only at hats6
      go_upto_region 15 with fail
      with_reducible refine gen1 (R := fun W => Code.wp Tryz.prog _ _ _ W) ?_
      intro W7 hbW7 hszW7 hc7 _
      have f0 : W7.cell? ⟨w6.heap.size, 0, none⟩ = some (.string (B cn)) := hc7 0 _ rfl
      have f1 : W7.cell? ⟨w6.heap.size, 1, none⟩ = some (.slice A6 ps6.length c6) := hc7 1 _ rfl
      replace a1 := cell_later hbW7 a1
      replace b0 := cell_later hbW7 b0
      replace b1 := cell_later hbW7 b1
      have hats7 := AttsV.mono (AttsV.keep hats6 hbW7) hbW7.size
      have hatsA7 := AttsV.mono (AttsV.keep hatsA6 hbW7) hbW7.size
      have hatsB7 := AttsV.mono (AttsV.keep hatsB6 hbW7) hbW7.size
      have hbw7 := hbw6.trans (hbW7.mono hbw6.size)
      clear hc7 hszW7 hbW7 hats6 hatsA6 hatsB6 hbw6
      have hSa := r8_Same_any (B cn) (B cn) _ _ tL tL true ⟨fun _ => ⟨rfl, rfl⟩, fun _ => rfl⟩ W7 hats7 hatsB7 (by omega) (by omega) (fun y hy => by have := HST.out y hy; omega) (fun y hy => by have := HST.out y hy; omega)
      go_wp2_with fail
      refine hSa.mono ?_
      rintro e w8 ⟨rfl, hb8⟩
      replace a1 := cell_later hb8 a1
      replace b1 := cell_later hb8 b1
      have hatsA8 := AttsV.mono (AttsV.keep hatsA7 hb8) hb8.size
      have hatsB8 := AttsV.mono (AttsV.keep hatsB7 hb8) hb8.size
      have hbw8 := hbw7.trans (hb8.mono hbw7.size)
      obtain ⟨bl, hbl⟩ : ∃ bl : Bool, bl = decide (ps5.length = 0) := ⟨_, rfl⟩
      have hbl2 : bl = true ↔ Idn.rSorted rL = Idn.rSorted tL := by rw [hbl, decide_eq_true_eq, HP5.out]; exact HTL.out.2
      have hEq := r6_Equal_any _ _ rL tL bl hbl2 w8 hatsA8 hatsB8 sA3 sT3 (by rw [HQA.out]; exact sA3) (by rw [HQT.out]; exact sT3)
      have hblI : ((ps5.length : Int) == 0) = bl := by
        rw [hbl]
        by_cases h : ps5.length = 0
        · rw [decide_eq_true h, beq_iff_eq]; omega
        · rw [decide_eq_false h, beq_eq_false_iff_ne]; omega
      have hbb : (bl == bl) = true := by simp
      clear hSa hats7 hatsA7 hatsB7 hatsA8 hatsB8 hbw7 hb8 b0 f0 f1 hbl hbl2
      go_wp2_with fail
      refine hEq.mono ?_
      rintro e w9 ⟨rfl, hb9⟩
      have hbw9 := hbw8.trans (hb9.mono hbw8.size)
      have hex := hEx w9 hbw9
      clear hEq hEx
      go_wp2_with fail
      refine hex.mono ?_
      rintro e w10 ⟨rfl, hb10⟩
      go_wp2_with fail
      go_ret
      exact ⟨rfl, hbw9.trans (hb10.mono hbw9.size)⟩
end Go.Proofs.YtoopoglkeeoamaaGreatDoor
/- EntryTurns: the contract as the row asks it, the statement, the card. -/
namespace Go.Proofs.YtoopoglkeeoamaaGreatDoor
open Go.RowKit Go.Sort Go.Shelf Go.ChangeShapes Go.WideShapes Go.ChangeAt Go.ChangeMaps
theorem laid_eqEU : Rows.entryTurnsUptoRow.laid = laidL := by
  unfold laidL
  rw [← pow_eq, ← acc_eq, ← first_eq, ← case_eq]
  rfl
set_option maxRecDepth 100000 in
theorem cEU_contract (F : Stop.Interp) (H : Type) (enc : TypeId × Value → H) (W : World) (base : Nat) (args : Array Value) (ds gs : List (DataW H)) (before : List MemPlace)
    (hval : ∀ (j : Nat) t v, Tryz.f8.params[j]? = some t → args[j]? = some v → Value.okWide Tryz.prog W .any base t v)
    (hW : DataW.Whole enc Tryz.prog Tryz.f8.params.toList Rows.entryTurnsSpec.vars false W args.toList ds gs before) (hL : laidMet Tryz.prog laidL W) (hsh : W.ShapedOpen Tryz.prog) (hk : Rows.uptoSmall H (ds ++ gs) = true) :
    Calls Tryz.prog 8 args W fun e W' => ∃ v, e = .returned v ∧ ((Rows.OpenSpec.upto Rows.entryTurnsSpec).at F).post enc Tryz.prog Tryz.f8 false true false false W args v W' := by
  have hW' := hW
  obtain ⟨p, q, hA0, hV0, rfl, _, _⟩ := hW
  have hA : DataW.TrodAll enc Tryz.prog W 0 (fun _ => true) true Tryz.f8.params.toList args.toList ds p := hA0
  rw [Tryz.params8] at hA hval
  obtain ⟨v0, v1, v2, d0, d1, d2, p0, p1, p2, rfl, rfl, rfl, h0, h1, h2⟩ := trodAll_three hA
  obtain ⟨rfl, rfl⟩ := trodVars_none hV0
  have hB := bk_bound hk
  have hb0 := hB d0 (by simp)
  have hb1 := hB d1 (by simp)
  have hb2 := hB d2 (by simp)
  obtain ⟨s0, hS0, hg0⟩ := schema_openB (hval 0 32 v0 rfl rfl) h0
  obtain ⟨n1, a1, l1, rfl, hA1, hg1, hn1⟩ := entry_openB (hval 1 24 v1 rfl rfl) h1
  obtain ⟨f2, hf2⟩ := slice_openB h2 (.inr Tryz.underlying22) (hval 2 22 v2 rfl rfl)
  obtain ⟨l2, hAt2, hg2⟩ := atts_openB hf2
  clear hA0 hV0 hval
  simp only [List.append_nil] at hW'
  have hlt : ∀ x ∈ p0 ++ (p1 ++ p2), x.block < W.heap.size := fun x hx => by simpa using hW'.lt x (by simpa using hx)
  obtain ⟨hE, hU⟩ := env_of hL hsh
  refine (entryTurns_any v0 s0 n1 a1 l1 v2 l2 W hS0 (hg0.mono hb0) hA1 (hg1.mono hb1) (Nat.le_trans hn1 hb1) hAt2 (hg2.mono hb2) hE hU).mono ?_
  rintro e W' ⟨rfl, bel⟩
  have e1 : ((Rows.OpenSpec.upto Rows.entryTurnsSpec).at F).fn H ([d0, d1, d2] ++ []) = { results := [.lit (.bool true)], args := [d0, d1, d2] } := rfl
  refine ⟨_, rfl, _, _, _, [], (p0 ++ (p1 ++ p2)), [], hW', ?_, ?_, ?_, bel.frame _, fun h => by cases h⟩
  · rw [e1]; exact trodAll_mk1 (shut_bool Tryz.underlying4 _)
  · rw [e1]; exact trodAll_mk3 (Below.trod laidOut (by kernel_rfl) (of_decide_eq_true (by kernel_rfl)) h0 bel (fun x hx => hlt x (List.mem_append_left _ hx))) (Below.trod laidOut (by kernel_rfl) (of_decide_eq_true (by kernel_rfl)) h1 bel (fun x hx => hlt x (List.mem_append_right _ (List.mem_append_left _ hx)))) (Below.trod laidOut (by kernel_rfl) (of_decide_eq_true (by kernel_rfl)) h2 bel (fun x hx => hlt x (List.mem_append_right _ (List.mem_append_right _ hx))))
  · rw [e1]; rfl
theorem noHandleEU {W : World} (h : laidMetH Tryz.prog Rows.entryTurnsUptoRow.laid W) : laidMet Tryz.prog laidL W := by
  have e : (Rows.entryTurnsUptoRow.laid.filter fun x => x.2.handleName?.isSome) = [] := by kernel_rfl
  unfold laidMetH at h
  rw [e] at h
  rw [← laid_eqEU]
  exact h
theorem laid_metEU (os : Os) (args : Array Value) : laidMet Tryz.prog Rows.entryTurnsUptoRow.laid ((laidWorld os).forCall (fun _ _ => 0) ⟨#[], args, []⟩).memory := by
  rw [laid_eqEU]
  exact laid_metW os args
theorem witness_rowEU (os : Os) {H : Type} (enc : TypeId × Value → H) :
    (Rows.OpenSpec.upto Rows.entryTurnsSpec).preRow enc Tryz.prog Tryz.f8 Rows.entryTurnsUptoRow.domain false Rows.entryTurnsUptoRow.laid ((laidWorld os).forCall (fun _ _ => 0) ⟨#[], #[.agg #[.slice none 0 0, .slice none 0 0], .agg #[.string ⟨#[]⟩, .slice none 0 0], .slice none 0 0], []⟩).memory #[.agg #[.slice none 0 0, .slice none 0 0], .agg #[.string ⟨#[]⟩, .slice none 0 0], .slice none 0 0] := by
  have hw : (DataW.whole enc Tryz.prog ((laidWorld os).forCall (fun _ _ => 0) ⟨#[], #[.agg #[.slice none 0 0, .slice none 0 0], .agg #[.string ⟨#[]⟩, .slice none 0 0], .slice none 0 0], []⟩).memory Tryz.f8.params.toList (Rows.OpenSpec.upto Rows.entryTurnsSpec).vars false #[Value.agg #[.slice none 0 0, .slice none 0 0], .agg #[.string ⟨#[]⟩, .slice none 0 0], .slice none 0 0].toList 8).map (fun x => (x.1, x.2.1)) =
      some ([.agg [.nil, .nil], .agg [.lit (.string []), .nil], .nil], []) := by kernel_rfl
  obtain ⟨⟨x1, x2, x3⟩, hx, hx1⟩ := Option.map_eq_some_iff.1 hw
  simp only [Prod.mk.injEq] at hx1
  obtain ⟨rfl, rfl⟩ := hx1
  exact OpenSpec.preRow_of_cond 8 hx (by kernel_rfl) (fun k hk => by cases hk; kernel_rfl) (by kernel_rfl) (laid_metEU os _)
set_option maxRecDepth 100000 in
theorem liftedEU (os : Os) (started : os.Started) (H : Type) (enc : TypeId × Value → H) (F : Stop.Interp) :
    ReturnsInHanded {} Tryz.checked os 8 .any ((Rows.OpenSpec.upto Rows.entryTurnsSpec).preRow enc Tryz.prog Tryz.f8 Rows.entryTurnsUptoRow.domain false Rows.entryTurnsUptoRow.laid) (((Rows.OpenSpec.upto Rows.entryTurnsSpec).at F).post enc Tryz.prog Tryz.f8 false true false false) := by
  refine returnsInHanded_of_row (C := Tryz.checked) (s := (Rows.OpenSpec.upto Rows.entryTurnsSpec)) own started (by kernel_rfl) Tryz.func8
    (witness_row_atRef (enc := enc) (C := Tryz.checked) false (laidWorld os) #[.agg #[.slice none 0 0, .slice none 0 0], .agg #[.string ⟨#[]⟩, .slice none 0 0], .slice none 0 0] rfl (by kernel_rfl) (by kernel_rfl) (by kernel_rfl) (witness_rowEU os enc)) ?_
  intro W base args ds gs before hval hW _ hcond _ hL hsh _
  exact cEU_contract F H enc W base args ds gs before hval hW (noHandleEU hL) hsh (hcond _ rfl)
end Go.Proofs.YtoopoglkeeoamaaGreatDoor
/- EntryTurns: the statement. -/
namespace Go.Proofs.YtoopoglkeeoamaaGreatDoor
open Go.RowKit Go.Sort Go.Shelf Go.ChangeShapes Go.WideShapes Go.ChangeAt Go.ChangeMaps
set_option maxHeartbeats 8000000 in
theorem closedEU : joinedFacts Tryz.pinned.checked.prog 8 Tryz.f8 (Rows.OpenSpec.upto Rows.entryTurnsSpec).bare Rows.entryTurnsUptoRow = true := by
  unfold joinedFacts
  simp only [Bool.and_eq_true]
  repeat' with_reducible apply And.intro
  all_goals (as_aux_lemma => kernel_rfl)
theorem saidEU : Rows.EntryTurnsUptoSaid :=
  OpenClaim.holds_of_cond 8 Tryz.f8 rfl rfl rfl rfl rfl rfl rfl ⟨rfl, rfl, rfl, rfl, rfl⟩ rfl rfl rfl rfl rfl (by kernel_rfl) Tryz.func8 closedEU
    (of_decide_eq_true (by kernel_rfl)) (by unfold Func.isWrapper; first | (rw [if_pos (by decide +kernel)]; kernel_rfl) | (rw [if_neg (by decide +kernel)]; exact ⟨rfl, rfl⟩))
    (fun os started H enc _ F => by rw [OpenClaim.pre_eq_preRow]; exact liftedEU os started H enc F)
end Go.Proofs.YtoopoglkeeoamaaGreatDoor
/- EntryTurns: the card. -/
namespace Go.Proofs.YtoopoglkeeoamaaGreatDoor
open Go.RowKit Go.Sort Go.Shelf Go.ChangeShapes Go.WideShapes Go.ChangeAt Go.ChangeMaps
theorem plainEU (f : FuncId) (fn : Func) (hf : Tryz.pinned.checked.prog.funcNamed "identity/identitylaw08.EntryTurns" = some f) (hfn : Tryz.pinned.checked.prog.funcs[f]? = some fn) :
    true = Tryz.pinned.checked.prog.looks [] ∧ ∀ (j : Nat) t, fn.params[j]? = some t → Tryz.pinned.checked.prog.wantsStandIn t = false := by
  obtain rfl : f = 8 := Option.some.inj ((show Tryz.prog.funcNamed "identity/identitylaw08.EntryTurns" = some 8 by kernel_rfl).symm.trans hf) |>.symm
  obtain rfl : fn = Tryz.f8 := (Option.some.inj (Tryz.func8.symm.trans hfn)).symm
  refine ⟨by kernel_rfl, fun j t ht => ?_⟩
  rw [Tryz.params8] at ht
  have hm := Array.mem_of_getElem? ht
  simp at hm
  rcases hm with rfl | rfl | rfl
  · exact (show Tryz.prog.wantsStandIn 32 = false by kernel_rfl)
  · exact (show Tryz.prog.wantsStandIn 24 = false by kernel_rfl)
  · exact (show Tryz.prog.wantsStandIn 22 = false by kernel_rfl)
theorem entryTurns_card : Rows.EntryTurnsUptoCardSaid :=
  Claim7.holds_tied_plain_at .later [] _ _ _ _ saidEU (fun _ h => by cases h) (by kernel_rfl) (fun _ h => by cases h) entryTurnsUpto_row_tie rfl ⟨rfl, rfl⟩ (by kernel_rfl) rfl plainEU (by kernel_rfl)
#print axioms entryTurns_card
end Go.Proofs.YtoopoglkeeoamaaGreatDoor
