/- Part 8 of the proof that SchemaLooks returns true for every schema and every name: the package variables hold what the program lays; nothing else is asked. -/
import Derived.Test.YtoelhiccofpgfaaGreatDoorLk04
import Derived.Maps.OwnSet
/- Maps keyed by strings, read as the list of their entries in the order of their laying: over any program. -/
namespace Go.Proofs.YtoelhiccofpgfaaGreatDoor
open Go.RowKit Go.Maps Go.MapKept
open Idn (L B Bs)

def lk (l : List (Bs × Value)) (n : Bs) : Option Value := (l.find? fun p => decide (p.1 = n)).map (·.2)
/-- block b is a map with these entries -/
def MapIs (w : World) (b : Nat) (l : List (Bs × Value)) : Prop :=
  ∃ es clock, w.heap[b]? = some (.map es clock) ∧ es.toList.map (fun e => (e.key, e.val)) = l.map (fun p => (Value.string (B p.1), p.2))
/-- nothing that was there has turned but block b -/
structure But (b : Nat) (w w' : World) : Prop where
  os : w'.os = w.os
  tape : w'.tape = w.tape
  output : w'.output = w.output
  size : w.heap.size ≤ w'.heap.size
  block : ∀ k, k < w.heap.size → k ≠ b → w'.heap[k]? = w.heap[k]?

section
variable {w w' w'' : World} {b : Nat} {l : List (Bs × Value)}
theorem But.below (h : But b w w') {lo : Nat} (hlo : lo ≤ b) (hw : lo ≤ w.heap.size) : Below lo w w' :=
  ⟨h.os, h.tape, h.output, h.size, fun k hk => h.block k (by omega) (by omega)⟩
theorem But.of_below (h : Below w.heap.size w w') (b : Nat) : But b w w' := ⟨h.os, h.tape, h.output, h.size, fun k hk _ => h.block k hk⟩
theorem But.refl (b : Nat) (w : World) : But b w w := ⟨rfl, rfl, rfl, Nat.le_refl _, fun _ _ _ => rfl⟩
theorem But.trans (h : But b w w') (k : But b w' w'') : But b w w'' :=
  ⟨k.os.trans h.os, k.tape.trans h.tape, k.output.trans h.output, Nat.le_trans h.size k.size, fun i hi hb => (k.block i (Nat.lt_of_lt_of_le hi h.size) hb).trans (h.block i hi hb)⟩
theorem MapIs.block (h : MapIs w b l) (hb : w'.heap[b]? = w.heap[b]?) : MapIs w' b l := by
  obtain ⟨es, c, h0, r⟩ := h
  exact ⟨es, c, hb.trans h0, r⟩
theorem MapIs.lt (h : MapIs w b l) : b < w.heap.size := by
  obtain ⟨es, c, h0, r⟩ := h
  exact (Array.getElem?_eq_some_iff.1 h0).1
theorem MapIs.keep (h : MapIs w b l) (hb : Below w.heap.size w w') : MapIs w' b l := h.block (hb.block b h.lt)
theorem MapIs.keepB (h : MapIs w b l) {lo : Nat} (hb : Below lo w w') (hl : b < lo) : MapIs w' b l := h.block (hb.block b hl)
theorem MapIs.but (h : MapIs w b l) {c : Nat} (hb : But c w w') (hc : b ≠ c) : MapIs w' b l := h.block (hb.block b h.lt hc)
theorem MapIs.made (w : World) : MapIs (w.alloc (.map #[] 0)) w.heap.size [] := ⟨#[], 0, heap_alloc_new w _, rfl⟩
theorem MapIs.alloc (h : MapIs w b l) (o : Obj) : MapIs (w.alloc o) b l := h.block (Below.heap_alloc _ _ _ h.lt)

theorem bytes_eq (s t : ByteArray) : (s == t) = decide (L s = L t) := by
  rw [Bool.eq_iff_iff, MapKept.bytes_beq]
  simp only [decide_eq_true_eq]
  constructor
  · rintro rfl; rfl
  · intro h
    have : s.data = t.data := Array.toList_inj.1 h
    cases s; cases t; simp_all

theorem findNow_at (n : ByteArray) : ∀ (es : List MapEntry) (l : List (Bs × Value)) (i : Nat), es.map (fun e => (e.key, e.val)) = l.map (fun p => (Value.string (B p.1), p.2)) →
    (lk l (L n) = none ∧ Instr.findNow .string (.string n) es i = some none ∧ ∀ x ∈ es, x.key ≠ .string n) ∨ ∃ j v, lk l (L n) = some v ∧ Instr.findNow .string (.string n) es i = some (some (j, v))
  | [], [], _, _ => .inl ⟨rfl, rfl, by simp⟩
  | [], _ :: _, _, h => by cases h
  | _ :: _, [], _, h => by cases h
  | e :: es, p :: l, i, h => by
    simp only [List.map_cons, List.cons.injEq, Prod.mk.injEq] at h
    obtain ⟨⟨hk, hv⟩, hr⟩ := h
    by_cases hp : p.1 = L n
    · refine .inr ⟨i, e.val, ?_, ?_⟩
      · simp [lk, hp, hv]
      · have : (n == B p.1) = true := by rw [bytes_eq, Idn.L_B, hp]; simp
        simp [Instr.findNow, hk, Instr.sameNow, this]
    · have hnb : (n == B p.1) = false := by rw [bytes_eq, Idn.L_B]; exact decide_eq_false fun e => hp e.symm
      have hl : lk (p :: l) (L n) = lk l (L n) := by simp [lk, hp]
      rcases findNow_at n es l (i + 1) hr with ⟨h1, h2, h3⟩ | ⟨j, v, h1, h2⟩
      · refine .inl ⟨hl.trans h1, by simp [Instr.findNow, hk, Instr.sameNow, hnb, h2], fun x hx => ?_⟩
        rcases List.mem_cons.1 hx with rfl | hx
        · rw [hk]; intro e; injection e with e; rw [e, bytes_eq] at hnb; simp at hnb
        · exact h3 x hx
      · exact .inr ⟨j, v, hl.trans h1, by simp [Instr.findNow, hk, Instr.sameNow, hnb, h2]⟩

variable {P : Program} {k e t : TypeId}
theorem MapIs.look (h : MapIs w b l) (hk : P.underlying k = some .string) (ht : P.underlying t = some (.map k e)) {z : Value} (hz : (zeroValue e).run P w = .ok z w) (n : ByteArray) :
    (Instr.lookup t (.map (some b)) (.string n) true).run P w = .ok (.tuple #[(lk l (L n)).getD z, .bool (lk l (L n)).isSome]) w := by
  obtain ⟨es, c, hb, hl⟩ := h
  have hc := MapKept.run_checkKey (w := w) (k := .string n) hk trivial es.isEmpty 9999
  rcases findNow_at n es.toList l 0 hl with ⟨h1, h2, _⟩ | ⟨j, v, h1, h2⟩
  · have h3 := MapKept.run_findKey (w := w) hk h2
    simp [Instr.lookup, run_underlying ht, MapKept.run_getObj_map hb, hc, h3, hz, h1, Result.andThen]
  · have h3 := MapKept.run_findKey (w := w) hk h2
    simp [Instr.lookup, run_underlying ht, MapKept.run_getObj_map hb, hc, h3, h1, Result.andThen]
theorem look_none (hk : P.underlying k = some .string) (ht : P.underlying t = some (.map k e)) {z : Value} (hz : (zeroValue e).run P w = .ok z w) (n : ByteArray) :
    (Instr.lookup t (.map none) (.string n) true).run P w = .ok (.tuple #[z, .bool false]) w := by
  have hc := MapKept.run_checkKey (w := w) (k := .string n) hk trivial true 9999
  simp [Instr.lookup, run_underlying ht, hc, Instr.findKey, Instr.findNow, run_underlying hk, hz, Result.andThen]
theorem MapIs.put (h : MapIs w b l) (hk : P.underlying k = some .string) (ht : P.underlying t = some (.map k e)) (n : ByteArray) (hn : lk l (L n) = none) (val : Value) :
    ∃ w', (Instr.mapUpdate t (.map (some b)) (.string n) val).run P w = .ok () w' ∧ MapIs w' b (l ++ [(L n, val)]) ∧ But b w w' := by
  obtain ⟨es, c, hb, hl⟩ := h
  have hc := MapKept.run_checkKey (w := w) (k := .string n) hk trivial false 9999
  rcases findNow_at n es.toList l 0 hl with ⟨h1, h2, _⟩ | ⟨j, v, h1, h2⟩
  · have h3 := MapKept.run_findKey (w := w) hk h2
    refine ⟨{ w with heap := w.heap.setIfInBounds b (.map (es.push ⟨.string n, val, c⟩) (c + 1)) }, ?_, ⟨es.push ⟨.string n, val, c⟩, c + 1, ?_, ?_⟩, ⟨rfl, rfl, rfl, by simp, fun i _ hi => ?_⟩⟩
    · simp [Instr.mapUpdate, run_underlying ht, MapKept.run_getObj_map hb, hc, h3, MapKept.run_setObj_map _ hb, Result.andThen]
    · have := (Array.getElem?_eq_some_iff.1 hb).1
      simp [this]
    · simp [hl]; rfl
    · simp [Array.getElem?_setIfInBounds, Ne.symm hi]
  · rw [h1] at hn; cases hn
end

/-- a map value: nil, or a block -/
def MapV (w : World) (v : Value) (l : List (Bs × Value)) : Prop := (v = .map none ∧ l = []) ∨ ∃ b, v = .map (some b) ∧ MapIs w b l
theorem MapIs.v {w : World} {b : Nat} {l : List (Bs × Value)} (h : MapIs w b l) : MapV w (.map (some b)) l := .inr ⟨b, rfl, h⟩
theorem MapV.keep {w w' : World} {v : Value} {l : List (Bs × Value)} (h : MapV w v l) (hb : Below w.heap.size w w') : MapV w' v l := by
  rcases h with h | ⟨b, h1, h2⟩
  · exact .inl h
  · exact .inr ⟨b, h1, h2.keep hb⟩
theorem MapV.run {w : World} {v : Value} {l : List (Bs × Value)} (h : MapV w v l) {P : Program} {k e t : TypeId} (hk : P.underlying k = some .string) (ht : P.underlying t = some (.map k e)) {z : Value} (hz : (zeroValue e).run P w = .ok z w) (n : ByteArray) :
    (Instr.lookup t v (.string n) true).run P w = .ok (.tuple #[(lk l (L n)).getD z, .bool (lk l (L n)).isSome]) w := by
  rcases h with ⟨rfl, rfl⟩ | ⟨b, rfl, h⟩
  · exact look_none hk ht hz n
  · exact h.look hk ht hz n

section
variable {P : Program} (w : World) {ops : Array Oper} {rest : List Oper} {o : Oper} {a : Act} {Q : Exit → Act → World → Prop}
/-- 'v, ok := m[k]' -/
theorem wpList_look (hg : o.guard = none) (m x : Operand) (t : TypeId) (hop : o.op = Op.lookup t m x true) (k e : TypeId) (hk : P.underlying k = some .string) (ht : P.underlying t = some (.map k e)) {z : Value} (hz : (zeroValue e).run P w = .ok z w)
    {l : List (Bs × Value)} {mv : Value} (hm : MapV w mv l) (hme : a.eval m = mv) (n : ByteArray) (hx : a.eval x = .string n) {v : Value} {c : Bool} (hv : (lk l (L n)).getD z = v) (hc : (lk l (L n)).isSome = c)
    (hK : wpList P ops Q rest (a.put o.dst (.tuple #[v, .bool c])) w) : wpList P ops Q (o :: rest) a w := by
  refine wpList_plain hg fun K' hK' => ?_
  have hrun := hm.run hk ht hz n
  rw [hv, hc] at hrun
  unfold Oper.wp
  simp [execOp, hop, hx, hme, hrun, Result.andThen]
  exact hK' _ _ hK
/-- 'm[k] = v' where k is new -/
theorem wpList_put (hg : o.guard = none) (m x v : Operand) (t : TypeId) (hop : o.op = Op.mapUpdate t m x v) (k e : TypeId) (hk : P.underlying k = some .string) (ht : P.underlying t = some (.map k e)) (b : Nat)
    {l : List (Bs × Value)} (hm : a.eval m = .map (some b)) (hown : MapIs w b l) (n : ByteArray) (hx : a.eval x = .string n) (val : Value) (hv : a.eval v = val) (hn : lk l (L n) = none)
    (hK : ∀ w', MapIs w' b (l ++ [(L n, val)]) → But b w w' → wpList P ops Q rest (a.put o.dst undef) w') : wpList P ops Q (o :: rest) a w := by
  refine wpList_plain hg fun K' hK' => ?_
  obtain ⟨w', hrun, h1, h2⟩ := hown.put hk ht n hn val
  unfold Oper.wp
  simp [execOp, hop, hm, hx, hv, hrun, Result.andThen]
  exact hK' _ _ (hK w' h1 h2)
end
end Go.Proofs.YtoelhiccofpgfaaGreatDoor
