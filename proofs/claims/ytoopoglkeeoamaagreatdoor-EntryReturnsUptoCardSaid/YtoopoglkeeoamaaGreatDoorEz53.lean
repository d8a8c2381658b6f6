/- Part 53 of the proof that identitylaw08.EntryParses and EntryReturns return true: the package variables hold what the program lays; nothing else is asked. -/
import Derived.Test.YtoopoglkeeoamaaGreatDoorEz41
import Derived.Test.YtoopoglkeeoamaaGreatDoorEz42
import Derived.Test.YtoopoglkeeoamaaGreatDoorEz43
import Derived.Test.YtoopoglkeeoamaaGreatDoorEz51
import Derived.Test.YtoopoglkeeoamaaGreatDoorEz52
import Derived.ChangeMaps5
set_option linter.unusedVariables false
set_option linter.unusedSimpArgs false
/- What the second form's bound gives: arguments of small bulk read as short lists of short strings. -/
namespace Go.Proofs.YtoopoglkeeoamaaGreatDoor
open Go.RowKit Go.Sort Go.ChangeShapes Go.WideShapes Go.ChangeAt
open Idn (L B Bs)
section
variable {H : Type}
theorem bk_one (d : DataW H) : 1 ≤ Rows.uptoBulk d := by
  cases d with
  | lit l => cases l <;> simp [Rows.uptoBulk]
  | nil => simp [Rows.uptoBulk]
  | ptr d => simp [Rows.uptoBulk]
  | slice elems spare => simp [Rows.uptoBulk]
  | agg parts => simp [Rows.uptoBulk]
  | iface t d => simp [Rows.uptoBulk]
  | map entries => simp [Rows.uptoBulk]
  | held h => simp [Rows.uptoBulk]
theorem bk_part {d : DataW H} {l : List (DataW H)} (h : d ∈ l) : Rows.uptoBulk d ≤ Rows.uptoBulkAll l := by
  induction l with
  | nil => cases h
  | cons x r ih =>
    simp only [Rows.uptoBulkAll]
    cases List.mem_cons.1 h with
    | inl e => subst e; omega
    | inr e => have := ih e; omega
theorem bk_len (l : List (DataW H)) : l.length ≤ Rows.uptoBulkAll l := by
  induction l with
  | nil => simp [Rows.uptoBulkAll]
  | cons x r ih => have := bk_one x; simp only [Rows.uptoBulkAll, List.length_cons]; omega
theorem bk_slice (elems spare : List (DataW H)) : Rows.uptoBulkAll elems ≤ Rows.uptoBulk (.slice elems spare) := by
  simp only [Rows.uptoBulk]; omega
theorem bk_str (bytes : List UInt8) : bytes.length ≤ Rows.uptoBulk (DataW.lit (H := H) (.string bytes)) := by
  simp [Rows.uptoBulk]
theorem bk_agg {d : DataW H} {parts : List (DataW H)} (h : d ∈ parts) : Rows.uptoBulk d ≤ Rows.uptoBulk (.agg parts) := by
  have := bk_part h
  simp only [Rows.uptoBulk]; omega
/-- the bound of each argument -/
theorem bk_bound {l : List (DataW H)} (hk : Rows.uptoSmall H l = true) : ∀ d ∈ l, Rows.uptoBulk d ≤ 1048576 := by
  have h : Rows.uptoBulkAll l ≤ 1048576 := of_decide_eq_true hk
  intro d hd
  exact Nat.le_trans (bk_part hd) h
end
/-- a list of strings within a bound; attributes, modifications, a schema within it -/
def GS (l : List Bs) (n : Nat) : Prop := l.length ≤ n ∧ ∀ x ∈ l, x.length ≤ n
theorem GS.mono {l : List Bs} {n m : Nat} (h : GS l n) (hn : n ≤ m) : GS l m := ⟨Nat.le_trans h.1 hn, fun x hx => Nat.le_trans (h.2 x hx) hn⟩
def GA (a : Idn.Att) (n : Nat) : Prop := a.name.length ≤ n ∧ GS a.vals n
def GM (a : Md) (n : Nat) : Prop := a.name.length ≤ n ∧ GS a.vals n
def GC (c : Idn.Cl) (n : Nat) : Prop := c.name.length ≤ n ∧ c.super.length ≤ n ∧ GS c.must n ∧ GS c.may n
def GAs (l : List Idn.Att) (n : Nat) : Prop := l.length ≤ n ∧ ∀ a ∈ l, GA a n
def GMs (l : List Md) (n : Nat) : Prop := l.length ≤ n ∧ ∀ a ∈ l, GM a n
def GSch (s : Idn.Sch) (n : Nat) : Prop := (s.types.length ≤ n ∧ ∀ t ∈ s.types, t.name.length ≤ n) ∧ s.classes.length ≤ n ∧ ∀ c ∈ s.classes, GC c n
theorem GA.mono {a : Idn.Att} {n m : Nat} (h : GA a n) (hn : n ≤ m) : GA a m := ⟨Nat.le_trans h.1 hn, h.2.mono hn⟩
theorem GM.mono {a : Md} {n m : Nat} (h : GM a n) (hn : n ≤ m) : GM a m := ⟨Nat.le_trans h.1 hn, h.2.mono hn⟩
theorem GC.mono {a : Idn.Cl} {n m : Nat} (h : GC a n) (hn : n ≤ m) : GC a m := ⟨Nat.le_trans h.1 hn, Nat.le_trans h.2.1 hn, h.2.2.1.mono hn, h.2.2.2.mono hn⟩
theorem GAs.mono {a : List Idn.Att} {n m : Nat} (h : GAs a n) (hn : n ≤ m) : GAs a m := ⟨Nat.le_trans h.1 hn, fun x hx => (h.2 x hx).mono hn⟩
theorem GMs.mono {a : List Md} {n m : Nat} (h : GMs a n) (hn : n ≤ m) : GMs a m := ⟨Nat.le_trans h.1 hn, fun x hx => (h.2 x hx).mono hn⟩
theorem GSch.mono {s : Idn.Sch} {n m : Nat} (h : GSch s n) (hn : n ≤ m) : GSch s m := ⟨⟨Nat.le_trans h.1.1 hn, fun x hx => Nat.le_trans (h.1.2 x hx) hn⟩, Nat.le_trans h.2.1 hn, fun x hx => (h.2.2 x hx).mono hn⟩
theorem GAs.asm {l : List Idn.Att} {n : Nat} (h : GAs l n) (hn : n ≤ 1048576) : ASm l ∧ ASm5 l := by
  refine ⟨⟨by have := h.1; omega, fun a ha => ?_⟩, fun a ha => ?_⟩
  all_goals obtain ⟨h1, h2, h3⟩ := h.2 a ha
  · exact ⟨by omega, by omega, fun x hx => by have := h3 x hx; omega⟩
  · exact ⟨by omega, fun x hx => by have := h3 x hx; omega⟩
section
variable {H : Type} {enc : TypeId × Value → H} {W : World}
theorem strs_openB {fuel : Nat} {v : Value} {x : DataW H × List MemPlace} (h : DataW.trod enc Tryz.prog W 0 (fun _ => true) true fuel 45 [v] = some x) : ∃ l, StrsV W W.heap.size v l ∧ GS l (Rows.uptoBulk x.1) := by
  rcases open_strings Tryz.underlying45 Tryz.underlying9 cellsOf_string h with ⟨hcs, hx⟩ | ⟨a, len, cap, ss, hcs, _, hl, hm, hz, hx, hcell, _⟩
  · simp at hcs
    subst hcs
    exact ⟨[], SlV.nil _ _ _ _, by simp, by simp⟩
  · simp at hcs
    subst hcs
    simp only [if_true] at hz
    obtain ⟨b, off, spot⟩ := a
    have hlen : ((ss.take len).map L).length = len := by simp; omega
    refine ⟨(ss.take len).map L, ?_, ?_⟩
    case refine_2 =>
      subst hx
      have k1 := bk_slice (H := H) (strs (ss.take len)) (strs (ss.drop len))
      refine ⟨?_, fun y hy => ?_⟩
      · have k2 := bk_len (H := H) (strs (ss.take len))
        rw [List.length_map]
        simp only [strs, List.length_map] at k2
        exact Nat.le_trans k2 k1
      · obtain ⟨t, ht, rfl⟩ := List.mem_map.1 hy
        have k3 : (DataW.lit (.string t.data.toList) : DataW H) ∈ strs (ss.take len) := List.mem_map.2 ⟨t, ht, rfl⟩
        exact Nat.le_trans (bk_str (H := H) _) (Nat.le_trans (bk_part k3) k1)
    refine ⟨some ⟨b, off, spot⟩, cap, by rw [hlen], by rw [hlen]; exact hl, fun hp => ?_⟩
    rw [hlen] at hp
    have hspot : spot = none := by simpa [Addr.add] using World.cell?_spot (hcell 0 (by omega))
    subst hspot
    refine ⟨b, off, rfl, World.block_lt_of_cell? _ _ (hcell 0 (by omega)), fun i y hy => ?_⟩
    rw [List.getElem?_map] at hy
    obtain ⟨t, ht, rfl⟩ := Option.map_eq_some_iff.1 hy
    refine ⟨[sv (L t)], rfl, rfl, fun j u hj => ?_⟩
    match j, hj with
    | 0, hj =>
      simp at hj; subst hj
      have hil : i < len := by
        have := (List.getElem?_eq_some_iff.1 ht).1
        simp at this; omega
      have := hcell i (by omega)
      rw [add_plain] at this
      rw [Nat.mul_one, Nat.add_zero, this]
      rw [List.getElem?_take_of_lt hil] at ht
      simp [sv, Idn.B_L, List.getD, ht]
theorem sl_openB {α : Type} {E : α → List Value → Prop} {G : α → Nat → Prop} (hG : ∀ z n m, G z n → n ≤ m → G z m) {size : Nat} {t e : TypeId} {fuel : Nat} {v : Value} {x : DataW H × List MemPlace} (ht : Tryz.prog.underlying t = some (.slice e)) (hsz : Tryz.prog.cellsOf e = size) (hpos : 0 < size)
    (h : DataW.trod enc Tryz.prog W 0 (fun _ => true) true fuel t [v] = some x)
    (hE : ∀ (cs : List Value) (n : Nat) (y : DataW H × List MemPlace), DataW.trod enc Tryz.prog W 0 (fun _ => true) true n e cs = some y → ∃ z : α, cs.length = size ∧ E z cs ∧ G z (Rows.uptoBulk y.1)) : ∃ l, SlV E W W.heap.size size v l ∧ l.length ≤ Rows.uptoBulk x.1 ∧ ∀ z ∈ l, G z (Rows.uptoBulk x.1) := by
  rcases Go.Deep.open_slice ht h with ⟨hcs, hx⟩ | ⟨a, len, cap, m, n, D, Pl, hcs, _, hl, hm, hmm, hx, hel⟩
  · simp at hcs
    subst hcs
    exact ⟨[], SlV.nil _ _ _ _, by simp, by simp⟩
  · simp at hcs
    subst hcs
    simp only [if_true] at hmm
    have k1 := bk_slice (H := H) ((List.range len).map D) ((List.range (m - len)).map fun j => D (len + j))
    obtain ⟨l, hl1, hl2⟩ := exList (fun i (z : α) => (∃ cs, W.cells? 0 (a.add (i * size)) size = some cs ∧ cs.length = size ∧ E z cs) ∧ G z (Rows.uptoBulk (.slice ((List.range len).map D) ((List.range (m - len)).map fun j => D (len + j)) : DataW H))) len fun i hi => by
      obtain ⟨cs, h1, h2⟩ := hel i (by omega)
      rw [hsz] at h1
      obtain ⟨z, h3, h4, h5⟩ := hE cs n _ h2
      refine ⟨z, ⟨cs, h1, h3, h4⟩, hG _ _ _ h5 (Nat.le_trans (bk_part ?_) k1)⟩
      exact List.mem_map.2 ⟨i, List.mem_range.2 hi, rfl⟩
    refine ⟨l, ⟨some a, cap, by rw [hl1], by rw [hl1]; exact hl, fun hp => ?_⟩, ?_, ?_⟩
    case refine_2 =>
      subst hx
      have k2 := bk_len (H := H) ((List.range len).map D)
      rw [List.length_map, List.length_range] at k2
      rw [hl1]
      exact Nat.le_trans k2 k1
    case refine_3 =>
      subst hx
      intro z hz
      obtain ⟨i, hi, rfl⟩ := List.getElem_of_mem hz
      exact (hl2 i _ (List.getElem?_eq_getElem hi)).2
    obtain ⟨b, off, spot⟩ := a
    obtain ⟨z0, hz0⟩ : ∃ z, l[0]? = some z := ⟨_, List.getElem?_eq_getElem hp⟩
    obtain ⟨⟨cs0, h0, h0l, _⟩, _⟩ := hl2 0 z0 hz0
    have hc0 := (World.cells?_some h0).2.2 0 (by omega)
    have hv0 : ∃ u, cs0[0]? = some u := ⟨_, List.getElem?_eq_getElem (by omega)⟩
    obtain ⟨u0, hu0⟩ := hv0
    rw [hu0] at hc0
    have hspot : spot = none := by simpa [Addr.add] using World.cell?_spot hc0
    subst hspot
    rw [add_plain, add_plain] at hc0
    refine ⟨b, off, rfl, World.block_lt_of_cell? _ _ hc0, fun i z hz => ?_⟩
    obtain ⟨⟨cs, h1, h2, h3⟩, _⟩ := hl2 i z hz
    refine ⟨cs, h2, h3, fun j u hj => ?_⟩
    have hjl := (List.getElem?_eq_some_iff.1 hj).1
    have := (World.cells?_some h1).2.2 j (by omega)
    rw [hj, add_plain, add_plain] at this
    rw [← Nat.add_assoc]; exact this
theorem bk_a2 (a b : DataW H) : Rows.uptoBulk a ≤ Rows.uptoBulk (.agg [a, b]) ∧ Rows.uptoBulk b ≤ Rows.uptoBulk (.agg [a, b]) := ⟨bk_agg (by simp), bk_agg (by simp)⟩
theorem bk_of {x : ByteArray} {y : DataW H × List MemPlace} (h : y = (.lit (.string x.data.toList), [])) : (L x).length ≤ Rows.uptoBulk y.1 := by
  subst h
  exact bk_str (H := H) _
set_option maxRecDepth 100000 in
theorem atts_openB {fuel : Nat} {v : Value} {x : DataW H × List MemPlace} (h : DataW.trod enc Tryz.prog W 0 (fun _ => true) true fuel 22 [v] = some x) : ∃ l, AttsV W W.heap.size v l ∧ GAs l (Rows.uptoBulk x.1) := by
  refine sl_openB (E := EA W W.heap.size) (G := GA) (fun _ _ _ h1 h2 => h1.mono h2) Tryz.underlying22 cellsOf_Att (by decide) h fun cs n y hy => ?_
  obtain ⟨y0, y1, m, hyy, hl, h0, h1⟩ := trod_struct2 Tryz.underlying48 hy
  rw [cellsOf_Att] at hl
  match cs, hl with
  | [a, b], _ =>
    obtain ⟨s, e0, f0, _⟩ := DataW.trod_string Tryz.underlying9 h0
    simp [cellsOf_string] at e0
    subst e0
    have h1' : DataW.trod enc Tryz.prog W 0 (fun _ => true) true m 45 [b] = some y1 := by simpa [cellsOf_string, cellsOf_strs] using h1
    obtain ⟨l2, a1, a2⟩ := strs_openB h1'
    subst hyy
    obtain ⟨k0, k1⟩ := bk_a2 y0.1 y1.1
    exact ⟨⟨L s, l2⟩, rfl, ⟨b, by simp [sv, Idn.B_L], a1⟩, Nat.le_trans (bk_of f0) k0, a2.mono k1⟩
set_option maxRecDepth 100000 in
theorem entry_openB {r : Reach} {b0 : Nat} {v : Value} {d : DataW H} {p : List MemPlace} (hv : Value.okWide Tryz.prog W r b0 24 v) (h : DataW.Trod enc Tryz.prog W 0 (fun _ => true) true 24 v d p) : ∃ n a l, v = .agg #[.string n, a] ∧ AttsV W W.heap.size a l ∧ GAs l (Rows.uptoBulk d) ∧ n.size ≤ Rows.uptoBulk d := by
  obtain ⟨v0, v1, y0, y1, n, rfl, rfl, _, h0, h1⟩ := Go.Joins.open_agg2 Tryz.underlying24 (by kernel_rfl) (by kernel_rfl) hv h
  obtain ⟨s, e0, f0, hs⟩ := DataW.trod_string Tryz.underlying9 h0
  simp only [List.cons.injEq, and_true] at e0
  subst e0
  obtain ⟨l, a1, a2⟩ := atts_openB h1
  obtain ⟨k0, k1⟩ := bk_a2 y0.1 y1.1
  exact ⟨s, v1, l, rfl, a1, ⟨Nat.le_trans a2.1 k1, fun a ha => ⟨Nat.le_trans (a2.2 a ha).1 k1, (a2.2 a ha).2.mono k1⟩⟩, by rw [Idn.size_L]; exact Nat.le_trans (bk_of f0) k0⟩
end
end Go.Proofs.YtoopoglkeeoamaaGreatDoor
/- law08: EntryStable, walked. -/
namespace Go.Proofs.YtoopoglkeeoamaaGreatDoor
open Go.RowKit Go.Sort
open Idn (L B Bs drop_L take_L size_L)
end Go.Proofs.YtoopoglkeeoamaaGreatDoor
/- law08: EntryReturns, walked. -/
namespace Go.Proofs.YtoopoglkeeoamaaGreatDoor
open Go.RowKit Go.Sort
open Idn (L B Bs drop_L take_L size_L)
theorem eLine_le (a v : Bs) : (eLine a v).length ≤ a.length + 3 * v.length + 2 := by
  have h : (esc v).length ≤ 3 * v.length := by
    unfold esc
    induction v with
    | nil => simp
    | cons c v ih =>
      rw [List.flatMap_cons, List.length_append, List.length_cons]
      have : (esc1 c).length ≤ 3 := by unfold esc1; split <;> simp
      omega
  unfold eLine
  simp only [List.length_append, List.length_cons, List.length_nil]
  omega
theorem text_lim {n : Bs} {l : List Idn.Att} (hn : n.length ≤ 1048576) (h : eCheck n l = 0) : (eText n l).1.length ≤ 100000000 := by
  obtain ⟨h1, h2, _⟩ := text_sm h
  have h3 := eBody_len (Idn.aSorted l) h1
  have h4 := eLine_le entryN n
  have h5 : entryN.length = 5 := rfl
  rw [eText_unf, h]
  show (eLine entryN n ++ eBody (Idn.aSorted l)).length ≤ _
  rw [List.length_append]
  have : (Idn.aSorted l).length * 1000000 ≤ 32 * 1000000 := Nat.mul_le_mul_right _ h2
  omega
theorem ret_law {n : Bs} {l : List Idn.Att} (h : eCheck n l = 0) : eParse (eText n l).1 = ((n, Idn.rSorted l), 0) := by
  obtain ⟨h1, h2⟩ := eText_sorted h
  have := (read_back (rSorted_idem l) h2).1
  rw [h1] at this
  exact this
theorem linesA_len (l : List Idn.Att) {c : Nat} (h : ∀ a ∈ l, a.vals.length ≤ c) : (linesA l).length ≤ l.length * c := by
  induction l with
  | nil => simp [linesA]
  | cons a l ih =>
    have h1 := ih fun b hb => h b (List.mem_cons_of_mem _ hb)
    have h2 := h a List.mem_cons_self
    unfold linesA at *
    rw [List.flatMap_cons, List.length_append, List.length_map, List.length_cons, Nat.succ_mul]
    omega
theorem cut_text {n : Bs} {A : List Idn.Att} (h : Idn.rSorted A = A) (hc : eCheck n A = 0) : Idn.cutC 10 (eText n A).1 = (lineOf entryN n :: linesA A) ++ [[]] := by
  have ca := eCheck_zero hc
  have hfull : ∀ a ∈ A, a.vals.length ≠ 0 := fun a ha => ((aCheck_zero ca).2 a ha).1
  have hpl : ∀ a ∈ A, plainN a.name := fun a ha => name_plain ((Idn.aCheck_all ca).2.2 a ha).1
  have hso : Idn.aSorted A = A := by rw [← Idn.rSorted_eq hfull, h]
  have ht : eText n A = (((lineOf entryN n :: linesA A).flatMap fun l => l ++ [10]), 0) := by
    unfold eText
    rw [hc, if_neg (by decide), hso, eBody_lines, eLine_eq]
    rfl
  rw [ht]
  refine cut_lines _ fun l hl => ?_
  rcases List.mem_cons.1 hl with rfl | hl
  · exact line_no entry_plain
  · unfold linesA at hl
    obtain ⟨a, ha, hv⟩ := List.mem_flatMap.1 hl
    obtain ⟨v, _, rfl⟩ := List.mem_map.1 hv
    exact line_no (hpl a ha)
theorem ret_atts {n : Bs} {l : List Idn.Att} (h : eCheck n l = 0) : (pAtts (Idn.cutC 10 (eText n l).1).tail).length ≤ 1000 := by
  obtain ⟨h1, h2⟩ := eText_sorted h
  have h3 := cut_text (rSorted_idem l) h2
  have h4 := aCheck_zero (eCheck_zero h2)
  rw [h1] at h3
  rw [h3]
  show (pAtts (linesA (Idn.rSorted l) ++ [[]])).length ≤ _
  have h5 := linesA_len (Idn.rSorted l) (c := 16) fun a ha => (h4.2 a ha).2
  have h6 : (pAtts (linesA (Idn.rSorted l) ++ [[]])).length ≤ (linesA (Idn.rSorted l) ++ [[]]).length := List.length_filterMap_le _ _
  rw [List.length_append] at h6
  have h7 : (Idn.rSorted l).length * 16 ≤ 32 * 16 := Nat.mul_le_mul_right _ h4.1
  simp only [List.length_cons, List.length_nil] at h6
  omega
theorem ok_asm7 {n : Bs} {l : List Idn.Att} (h : eCheck n l = 0) : Idn.ASm7 l ∧ Idn.ASm7 (Idn.rSorted l) := by
  have hac := eCheck_zero h
  obtain ⟨hl32, hv16⟩ := aCheck_zero hac
  obtain ⟨h1, h2, h3⟩ := text_sm h
  rw [h3]
  refine ⟨⟨by omega, fun a ha => ⟨?_, by have := (hv16 a ha).2; omega, fun x hx => ?_⟩⟩, ⟨by omega, fun a ha => ?_⟩⟩
  · have := name_len ((Idn.aCheck_all hac).2.2 a ha).1; omega
  · have := clean_len (aCheck_clean hac a ha x hx); omega
  · obtain ⟨g1, g2, g3⟩ := h1 a ha
    exact ⟨by omega, by omega, fun x hx => by have := g3 x hx; omega⟩
set_option maxHeartbeats 8000000 in
set_option maxRecDepth 100000 in
theorem entryReturns_any (n : ByteArray) (a : Value) (l : List Idn.Att) (w : World) (hv : AttsV w w.heap.size a l) (hga : GAs l 1048576) (hn : n.size ≤ 1048576) (hE : Env w) (hU : EnvU w) :
    Calls Tryz.prog 11 #[.agg #[.string n, a]] w fun e w' => e = .returned (.bool true) ∧ Below w.heap.size w w' := by
  have hasm := hga.asm (Nat.le_refl _)
  have hA := fun W (hW : Below w.heap.size w W) => AttsV.mono (AttsV.keep hv hW) hW.size
  have k1 := fun W (hW : Below w.heap.size w W) => eText_any n a l W (hA W hW) (by omega) hasm.1
  have kc := fun W (hW : Below w.heap.size w W) => eCheck_any n a l W (hA W hW) (by omega) hasm.1
  have kE := fun W (hW : Below w.heap.size w W) x h1 h2 => eParse_any x W (hE.keep hW) h1 h2
  have hEx := fun W (hW : Below w.heap.size w W) => example_any W (hE.keep hW) (hU.keep hW)
  have hv0 := hv
  obtain ⟨A, c, rfl, hc⟩ := SlV.shape hv
  by_cases hx : eCheck (L n) l = 0
  case neg =>
    have ht : (eText (L n) l).2 = eCheck (L n) l := by rw [eText_unf, if_pos (by simpa using hx)]
    rw [ht] at k1
    generalize eCheck (L n) l = x at *
    generalize B (eText (L n) l).1 = bt at *
    have hI : (x != 0) = true := by simpa using hx
    have t1 : (x == x) = true := by simp
    clear ht hx hE hU hga hv0 kE hA hasm
    go_enter Tryz.func11, Tryz.ntmps11
    go_upto_region 1 with fail
    with_reducible refine gen1 (R := fun W => Code.wp Tryz.prog _ _ _ W) ?_
    intro W hbW hszW hc1 _
    have b0 : W.cell? ⟨w.heap.size, 0, none⟩ = some (.string n) := hc1 0 _ rfl
    have b1 : W.cell? ⟨w.heap.size, 1, none⟩ = some (.slice A l.length c) := hc1 1 _ rfl
    clear hc1 hszW
    go_wp2_with fail
    refine (k1 W hbW).mono ?_
    rintro e w1 ⟨rfl, hb1⟩
    replace b0 := cell_later hb1 b0
    replace b1 := cell_later hb1 b1
    have hbw1 := hbW.trans (hb1.mono hbW.size)
    clear k1
    go_wp2_with fail
    refine (kc w1 hbw1).mono ?_
    rintro e w2 ⟨rfl, hb2⟩
    have hbw2 := hbw1.trans (hb2.mono hbw1.size)
    clear kc b0 b1
    go_wp2_with fail
    refine (hEx w2 hbw2).mono ?_
    rintro e w3 ⟨rfl, hb3⟩
    go_wp2_with fail
    go_ret
    exact ⟨rfl, hbw2.trans (hb3.mono hbw2.size)⟩
  have ht : (eText (L n) l).2 = 0 := by rw [eText_unf, if_neg (by simpa using hx)]
  have hlim := text_lim (by rw [← size_L]; exact hn) hx
  have hp := ret_law hx
  have hq := ret_atts hx
  obtain ⟨m1, m2⟩ := ok_asm7 hx
  have kP := fun W (hW : Below w.heap.size w W) => kE W hW (B (eText (L n) l).1) (by rw [Idn.size_B]; exact hlim) (by rw [Idn.L_B]; exact hq)
  rw [Idn.L_B, hp] at kP
  rw [ht] at k1
  have kS := fun W (hW : Below w.heap.size w W) => sortedG_any _ l W (hA W hW) m1
  have kQ := fun W (hW : Below w.heap.size w W) (v : Value) (hv : AttsV W W.heap.size v (Idn.rSorted l)) => eEqual_any n n v _ (Idn.rSorted l) l true (iff_of_true rfl ⟨rfl, rSorted_idem l⟩) W hv (hA W hW) m2 m1 (by rw [rSorted_idem]; exact m2) m2
  have kM := fun (W : World) (v u : Value) (h1 : AttsV W W.heap.size v (Idn.rSorted l)) (h2 : AttsV W W.heap.size u (Idn.rSorted l)) => sameA_any v u (Idn.rSorted l) (Idn.rSorted l) true ⟨fun _ => rfl, fun _ => rfl⟩ W h1 h2 (by have := m2.1; omega) (by have := m2.1; omega) (fun y hy => by have := (m2.2 y hy).2.1; omega) (fun y hy => by have := (m2.2 y hy).2.1; omega)
  have t0 : (n.toList == n.toList) = true := by simp
  clear ht hlim hp hq kE kc hE hU hga hv0 hasm hx m1 m2 hA
  generalize B (eText (L n) l).1 = bt at *
  generalize Idn.rSorted l = rL at *
  go_enter Tryz.func11, Tryz.ntmps11
  go_upto_region 1 with fail
  with_reducible refine gen1 (R := fun W => Code.wp Tryz.prog _ _ _ W) ?_
  intro W hbW hszW hc1 _
  have b0 : W.cell? ⟨w.heap.size, 0, none⟩ = some (.string n) := hc1 0 _ rfl
  have b1 : W.cell? ⟨w.heap.size, 1, none⟩ = some (.slice A l.length c) := hc1 1 _ rfl
  clear hc1 hszW
  go_wp2_with fail
  refine (k1 W hbW).mono ?_
  rintro e w1 ⟨rfl, hb1⟩
  replace b0 := cell_later hb1 b0
  replace b1 := cell_later hb1 b1
  have hbw1 := hbW.trans (hb1.mono hbW.size)
  clear k1 hb1 hbW
  go_wp2_with fail
  refine (kP w1 hbw1).mono ?_
  rintro e w3 ⟨v3, ps3, rfl, hown3, hps3, hb3⟩
  obtain ⟨A3, c3, hv3⟩ := own_shape hown3.1
  subst hv3
  have hats3 := hown3.atts hps3
  replace b0 := cell_later hb3 b0
  replace b1 := cell_later hb3 b1
  have hbw3 := hbw1.trans (hb3.mono hbw1.size)
  clear kP hps3 hown3 hb3 hbw1
  dsimp only at hats3
  go_upto_region 5 with fail
  with_reducible refine gen1 (R := fun W => Code.wp Tryz.prog _ _ _ W) ?_
  intro w4 hbW4 hszW4 hc4 _
  have a0 : w4.cell? ⟨w3.heap.size, 0, none⟩ = some (.string n) := hc4 0 _ rfl
  have a1 : w4.cell? ⟨w3.heap.size, 1, none⟩ = some (.slice A3 ps3.length c3) := hc4 1 _ rfl
  replace b0 := cell_later hbW4 b0
  replace b1 := cell_later hbW4 b1
  have hats4 := AttsV.mono (AttsV.keep hats3 hbW4) hbW4.size
  have hbw4 := hbw3.trans (hbW4.mono hbw3.size)
  clear hc4 hszW4 hbW4 hats3 hbw3
  have hSt : ∀ W', Below w4.heap.size w4 W' → W'.cell? ⟨w.heap.size, 0, none⟩ = some (.string n) ∧ W'.cell? ⟨w.heap.size, 1, none⟩ = some (.slice A l.length c) ∧ W'.cell? ⟨w3.heap.size, 0, none⟩ = some (.string n) ∧ W'.cell? ⟨w3.heap.size, 1, none⟩ = some (.slice A3 ps3.length c3) ∧ Below w4.heap.size w4 W' := fun W' hW =>
    ⟨cell_later hW b0, cell_later hW b1, cell_later hW a0, cell_later hW a1, hW⟩
  have d1 := fun W (hW : Below w4.heap.size w4 W) => kS W (hbw4.trans (hW.mono hbw4.size))
  have d2 := fun W (hW : Below w4.heap.size w4 W) u hu => kM W (.slice A3 ps3.length c3) u (AttsV.mono (AttsV.keep hats4 hW) hW.size) hu
  have d3 := fun W (hW : Below w4.heap.size w4 W) => kQ W (hbw4.trans (hW.mono hbw4.size)) (.slice A3 ps3.length c3) (AttsV.mono (AttsV.keep hats4 hW) hW.size)
  have d4 := fun W (hW : Below w4.heap.size w4 W) => hEx W (hbw4.trans (hW.mono hbw4.size))
  clear kS kM kQ hEx b0 b1 a0 a1 hats4
  go_wp2_with fail
  go_region_held3 (fun W' => W'.cell? ⟨w.heap.size, 0, none⟩ = some (.string n) ∧ W'.cell? ⟨w.heap.size, 1, none⟩ = some (.slice A l.length c) ∧ W'.cell? ⟨w3.heap.size, 0, none⟩ = some (.string n) ∧ W'.cell? ⟨w3.heap.size, 1, none⟩ = some (.slice A3 ps3.length c3) ∧ Below w4.heap.size w4 W')
    (first | (refine hSt _ ?_; repeat (first | with_reducible exact Below.refl _ _ | with_reducible apply Below.drew | with_reducible refine Below.on ?_ ha1 | with_reducible refine Below.on ?_ ha2 | with_reducible refine Below.on ?_ ha3 | with_reducible refine Below.on ?_ ha4)))
    (first
      | (go_at_call 35; refine (d1 _ (by repeat (first | with_reducible exact Below.refl _ _ | with_reducible apply Below.drew))).mono ?_; rintro e x1 ⟨v5, ps5, rfl, hown5, hps5, ha1⟩; have hm5 := hown5.atts hps5; obtain ⟨A5, c5, hv5⟩ := own_shape hown5.1; subst hv5; clear hown5 hps5)
      | (go_at_call 34
         refine (d2 _ ?_ _ (AttsV.mono (AttsV.keep hm5 ?_) ?_)).mono ?_
         · repeat (first | with_reducible exact Below.refl _ _ | with_reducible apply Below.drew | with_reducible refine Below.on ?_ ha1)
         · repeat (first | with_reducible exact Below.refl _ _ | with_reducible apply Below.drew)
         · exact Nat.le_refl _
         rintro e x2 ⟨rfl, ha2⟩)
      | (go_at_call 30; refine (d3 _ (by repeat (first | with_reducible exact Below.refl _ _ | with_reducible apply Below.drew | with_reducible refine Below.on ?_ ha1 | with_reducible refine Below.on ?_ ha2))).mono ?_; rintro e x3 ⟨rfl, ha3⟩)
      | (go_at_call 13; refine (d4 _ (by repeat (first | with_reducible exact Below.refl _ _ | with_reducible apply Below.drew | with_reducible refine Below.on ?_ ha1 | with_reducible refine Below.on ?_ ha2 | with_reducible refine Below.on ?_ ha3))).mono ?_; rintro e x4 ⟨rfl, ha4⟩))
  all_goals
    have hfin : Below w4.heap.size w4 x4 := by repeat (first | with_reducible exact Below.refl _ _ | with_reducible apply Below.drew | with_reducible refine Below.on ?_ ha1 | with_reducible refine Below.on ?_ ha2 | with_reducible refine Below.on ?_ ha3 | with_reducible refine Below.on ?_ ha4)
    go_wp2_with fail
    go_ret
    exact ⟨rfl, hbw4.trans (hfin.mono hbw4.size)⟩
end Go.Proofs.YtoopoglkeeoamaaGreatDoor
/- EntryReturns: the contract as the row asks it, the statement, the card. -/
namespace Go.Proofs.YtoopoglkeeoamaaGreatDoor
open Go.RowKit Go.Sort Go.Shelf Go.ChangeShapes Go.WideShapes Go.ChangeAt Go.ChangeMaps
theorem laid_eqER : Rows.entryReturnsUptoRow.laid = laidL := by
  unfold laidL
  rw [← pow_eq, ← acc_eq, ← first_eq, ← case_eq]
  rfl
set_option maxRecDepth 100000 in
theorem cER_contract (F : Stop.Interp) (H : Type) (enc : TypeId × Value → H) (W : World) (base : Nat) (args : Array Value) (ds gs : List (DataW H)) (before : List MemPlace)
    (hval : ∀ (j : Nat) t v, Tryz.f11.params[j]? = some t → args[j]? = some v → Value.okWide Tryz.prog W .any base t v)
    (hW : DataW.Whole enc Tryz.prog Tryz.f11.params.toList Rows.entryReturnsSpec.vars false W args.toList ds gs before) (hL : laidMet Tryz.prog laidL W) (hsh : W.ShapedOpen Tryz.prog) (hk : Rows.uptoSmall H (ds ++ gs) = true) :
    Calls Tryz.prog 11 args W fun e W' => ∃ v, e = .returned v ∧ ((Rows.OpenSpec.upto Rows.entryReturnsSpec).at F).post enc Tryz.prog Tryz.f11 false true false false W args v W' := by
  have hW' := hW
  obtain ⟨p, q, hA0, hV0, rfl, _, _⟩ := hW
  have hA : DataW.TrodAll enc Tryz.prog W 0 (fun _ => true) true Tryz.f11.params.toList args.toList ds p := hA0
  rw [Tryz.params11] at hA hval
  obtain ⟨v0, d0, rfl, rfl, h0⟩ := trodAll_one hA
  obtain ⟨rfl, rfl⟩ := trodVars_none hV0
  have hB := bk_bound hk
  have hb0 := hB d0 (by simp)
  obtain ⟨n0, a0, l0, rfl, hAe0, hg0, hn0⟩ := entry_openB (hval 0 24 v0 rfl rfl) h0
  clear hA0 hV0 hval
  simp only [List.append_nil] at hW'
  have hlt : ∀ x ∈ p, x.block < W.heap.size := fun x hx => by simpa using hW'.lt x (by simpa using hx)
  obtain ⟨hE, hU⟩ := env_of hL hsh
  refine (entryReturns_any n0 a0 l0 W hAe0 (hg0.mono hb0) (Nat.le_trans hn0 hb0) hE hU).mono ?_
  rintro e W' ⟨rfl, bel⟩
  have e1 : ((Rows.OpenSpec.upto Rows.entryReturnsSpec).at F).fn H ([d0] ++ []) = { results := [.lit (.bool true)], args := [d0] } := rfl
  refine ⟨_, rfl, _, _, _, [], p, [], hW', ?_, ?_, ?_, bel.frame _, fun h => by cases h⟩
  · rw [e1]; exact trodAll_mk1 (shut_bool Tryz.underlying4 _)
  · rw [e1]; exact trodAll_mk1 (Below.trod laidOut (by kernel_rfl) (of_decide_eq_true (by kernel_rfl)) h0 bel hlt)
  · rw [e1]; rfl
theorem noHandleER {W : World} (h : laidMetH Tryz.prog Rows.entryReturnsUptoRow.laid W) : laidMet Tryz.prog laidL W := by
  have e : (Rows.entryReturnsUptoRow.laid.filter fun x => x.2.handleName?.isSome) = [] := by kernel_rfl
  unfold laidMetH at h
  rw [e] at h
  rw [← laid_eqER]
  exact h
theorem laid_metER (os : Os) (args : Array Value) : laidMet Tryz.prog Rows.entryReturnsUptoRow.laid ((laidWorld os).forCall (fun _ _ => 0) ⟨#[], args, []⟩).memory := by
  rw [laid_eqER]
  exact laid_metW os args
theorem witness_rowER (os : Os) {H : Type} (enc : TypeId × Value → H) :
    (Rows.OpenSpec.upto Rows.entryReturnsSpec).preRow enc Tryz.prog Tryz.f11 Rows.entryReturnsUptoRow.domain false Rows.entryReturnsUptoRow.laid ((laidWorld os).forCall (fun _ _ => 0) ⟨#[], #[.agg #[.string ⟨#[]⟩, .slice none 0 0]], []⟩).memory #[.agg #[.string ⟨#[]⟩, .slice none 0 0]] := by
  have hw : (DataW.whole enc Tryz.prog ((laidWorld os).forCall (fun _ _ => 0) ⟨#[], #[.agg #[.string ⟨#[]⟩, .slice none 0 0]], []⟩).memory Tryz.f11.params.toList (Rows.OpenSpec.upto Rows.entryReturnsSpec).vars false #[Value.agg #[.string ⟨#[]⟩, .slice none 0 0]].toList 8).map (fun x => (x.1, x.2.1)) =
      some ([.agg [.lit (.string []), .nil]], []) := by kernel_rfl
  obtain ⟨⟨x1, x2, x3⟩, hx, hx1⟩ := Option.map_eq_some_iff.1 hw
  simp only [Prod.mk.injEq] at hx1
  obtain ⟨rfl, rfl⟩ := hx1
  exact OpenSpec.preRow_of_cond 8 hx (by kernel_rfl) (fun k hk => by cases hk; kernel_rfl) (by kernel_rfl) (laid_metER os _)
set_option maxRecDepth 100000 in
theorem liftedER (os : Os) (started : os.Started) (H : Type) (enc : TypeId × Value → H) (F : Stop.Interp) :
    ReturnsInHanded {} Tryz.checked os 11 .any ((Rows.OpenSpec.upto Rows.entryReturnsSpec).preRow enc Tryz.prog Tryz.f11 Rows.entryReturnsUptoRow.domain false Rows.entryReturnsUptoRow.laid) (((Rows.OpenSpec.upto Rows.entryReturnsSpec).at F).post enc Tryz.prog Tryz.f11 false true false false) := by
  refine returnsInHanded_of_row (C := Tryz.checked) (s := (Rows.OpenSpec.upto Rows.entryReturnsSpec)) own started (by kernel_rfl) Tryz.func11
    (witness_row_atRef (enc := enc) (C := Tryz.checked) false (laidWorld os) #[.agg #[.string ⟨#[]⟩, .slice none 0 0]] rfl (by kernel_rfl) (by kernel_rfl) (by kernel_rfl) (witness_rowER os enc)) ?_
  intro W base args ds gs before hval hW _ hcond _ hL hsh _
  exact cER_contract F H enc W base args ds gs before hval hW (noHandleER hL) hsh (hcond _ rfl)
end Go.Proofs.YtoopoglkeeoamaaGreatDoor
/- EntryReturns: the statement. -/
namespace Go.Proofs.YtoopoglkeeoamaaGreatDoor
open Go.RowKit Go.Sort Go.Shelf Go.ChangeShapes Go.WideShapes Go.ChangeAt Go.ChangeMaps
set_option maxHeartbeats 8000000 in
theorem closedER : joinedFacts Tryz.pinned.checked.prog 11 Tryz.f11 (Rows.OpenSpec.upto Rows.entryReturnsSpec).bare Rows.entryReturnsUptoRow = true := by
  unfold joinedFacts
  simp only [Bool.and_eq_true]
  repeat' with_reducible apply And.intro
  all_goals (as_aux_lemma => kernel_rfl)
theorem saidER : Rows.EntryReturnsUptoSaid :=
  OpenClaim.holds_of_cond 11 Tryz.f11 rfl rfl rfl rfl rfl rfl rfl ⟨rfl, rfl, rfl, rfl, rfl⟩ rfl rfl rfl rfl rfl (by kernel_rfl) Tryz.func11 closedER
    (of_decide_eq_true (by kernel_rfl)) (by unfold Func.isWrapper; first | (rw [if_pos (by decide +kernel)]; kernel_rfl) | (rw [if_neg (by decide +kernel)]; exact ⟨rfl, rfl⟩))
    (fun os started H enc _ F => by rw [OpenClaim.pre_eq_preRow]; exact liftedER os started H enc F)
end Go.Proofs.YtoopoglkeeoamaaGreatDoor
/- EntryReturns: the card. -/
namespace Go.Proofs.YtoopoglkeeoamaaGreatDoor
open Go.RowKit Go.Sort Go.Shelf Go.ChangeShapes Go.WideShapes Go.ChangeAt Go.ChangeMaps
theorem plainER (f : FuncId) (fn : Func) (hf : Tryz.pinned.checked.prog.funcNamed "identity/identitylaw08.EntryReturns" = some f) (hfn : Tryz.pinned.checked.prog.funcs[f]? = some fn) :
    true = Tryz.pinned.checked.prog.looks [] ∧ ∀ (j : Nat) t, fn.params[j]? = some t → Tryz.pinned.checked.prog.wantsStandIn t = false := by
  obtain rfl : f = 11 := Option.some.inj ((show Tryz.prog.funcNamed "identity/identitylaw08.EntryReturns" = some 11 by kernel_rfl).symm.trans hf) |>.symm
  obtain rfl : fn = Tryz.f11 := (Option.some.inj (Tryz.func11.symm.trans hfn)).symm
  refine ⟨by kernel_rfl, fun j t ht => ?_⟩
  rw [Tryz.params11] at ht
  have hm := Array.mem_of_getElem? ht
  simp at hm
  subst hm
  exact (show Tryz.prog.wantsStandIn 24 = false by kernel_rfl)
theorem entryReturns_card : Rows.EntryReturnsUptoCardSaid :=
  Claim7.holds_tied_plain_at .later [] _ _ _ _ saidER (fun _ h => by cases h) (by kernel_rfl) (fun _ h => by cases h) entryReturnsUpto_row_tie rfl ⟨rfl, rfl⟩ (by kernel_rfl) rfl plainER (by kernel_rfl)
#print axioms entryReturns_card
end Go.Proofs.YtoopoglkeeoamaaGreatDoor
