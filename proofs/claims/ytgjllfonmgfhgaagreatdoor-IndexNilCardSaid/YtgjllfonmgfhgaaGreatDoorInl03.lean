/- Part 3 of the proof that identitylaw11.IndexNil returns true at every entry, name and filter: the package variables hold what the program lays; nothing else is asked. -/
import Derived.Test.YtgjllfonmgfhgaaGreatDoorInl02
import Derived.Lib.ConvBytes
import Derived.Laws.BytesString
import Derived.Laws.BytesArg
import Derived.Laws.OwnMore
import Derived.Deep.Draws
import Derived.Maps.AppendAt
set_option linter.unusedVariables false
set_option linter.unusedSimpArgs false
/- Memory laws in the forms that these walks want: a byte row, an append of one element, a string out of bytes. Over any program. -/
namespace Go.Proofs.YtgjllfonmgfhgaaGreatDoor
open Go.RowKit
open Idn (L B Bs)

def bc (x : UInt8) : Value := .int .u8 (x.toNat : Int)
/-- block b holds the bytes l (at least), none of these cells frozen -/
def ByteRow (w : World) (e : TypeId) (b : Nat) (l : Bs) : Prop :=
  ∃ cs lo hi, w.heap[b]? = some (.cells cs e (lo, hi)) ∧ l.length ≤ lo ∧ l.length ≤ cs.size ∧ ∀ (i : Nat) (x : UInt8), l[i]? = some x → cs[i]? = some (bc x)
theorem ByteRow.cell {w : World} {e : TypeId} {b : Nat} {l : Bs} (h : ByteRow w e b l) {i : Nat} {x : UInt8} (hi : l[i]? = some x) : w.cell? ⟨b, i, none⟩ = some (bc x) := by
  obtain ⟨cs, lo, hi', hb, h1, _, h2⟩ := h
  simp [World.cell?, hb, h2 i x hi]
theorem ByteRow.frozen {w : World} {e : TypeId} {b : Nat} {l : Bs} (h : ByteRow w e b l) {i : Nat} (hi : i < l.length) : w.frozen? ⟨b, i, none⟩ = false := by
  obtain ⟨cs, lo, hi', hb, h1, _⟩ := h
  simp [World.frozen?, hb]
  omega
theorem ByteRow.set {w : World} {e : TypeId} {b : Nat} {l : Bs} (h : ByteRow w e b l) (i : Nat) (x : UInt8) : ByteRow (w.setCell ⟨b, i, none⟩ (bc x)) e b (l.set i x) := by
  obtain ⟨cs, lo, hi', hb, h1, h3, h2⟩ := h
  refine ⟨cs.setIfInBounds i (bc x), lo, hi', by simp [World.setCell, Array.getElem?_modify, hb], by simpa using h1, by simpa using h3, ?_⟩
  intro j y hj
  rw [List.getElem?_set] at hj
  rw [Array.getElem?_setIfInBounds]
  split at hj
  · rename_i hij
    subst hij
    split at hj
    · injection hj with hj; subst hj
      rw [if_pos rfl, if_pos (by omega)]
    · cases hj
  · rename_i hij
    rw [if_neg hij]
    exact h2 j y hj
theorem ByteRow.keep {w w' : World} {e : TypeId} {b : Nat} {l : Bs} (h : ByteRow w e b l) (hb : w'.heap[b]? = w.heap[b]?) : ByteRow w' e b l := by
  obtain ⟨cs, lo, hi', h0, r⟩ := h
  exact ⟨cs, lo, hi', hb.trans h0, r⟩
theorem ByteRow.lt {w : World} {e : TypeId} {b : Nat} {l : Bs} (h : ByteRow w e b l) : b < w.heap.size := by
  obtain ⟨cs, lo, hi', h0, r⟩ := h
  exact (Array.getElem?_eq_some_iff.1 h0).1

section
variable {P : Program} (w : World) {ops : Array Oper} {rest : List Oper} {o : Oper} {a : Act} {Q : Exit → Act → World → Prop}

/-- '[]byte(s)' -/
theorem wpList_bytes (hg : o.guard = none) (x : Operand) (src dst e : TypeId) (ho : o.op = .convert src dst x) (hs : P.underlying src = some .string) (hd : P.underlying dst = some (.slice e)) (he : P.underlying e = some (.int .u8))
    (s : ByteArray) (hx : a.eval x = .string s)
    (hK : ∀ w' cap, ByteRow w' e w.heap.size (L s) → Below w.heap.size w w' → w.heap.size < w'.heap.size → wpList P ops Q rest (a.put o.dst (.slice (some ⟨w.heap.size, 0, none⟩) s.size cap)) w') :
    wpList P ops Q (o :: rest) a w := by
  refine wpList_plain hg fun K' hK' => ?_
  have hrun := Lib.run_convert_string_bytes (P := P) w src dst e s hs hd he
  unfold Oper.wp execOp
  simp only [ho, hx, Sem.run_bind, hrun, Result.andThen_ok, Sem.run_pure]
  refine hK' _ _ (hK _ _ ?_ ?_ ?_)
  · have hsz : s.size ≤ (Lib.bytesCells w e s).size := by
      show s.data.size ≤ _
      unfold Lib.bytesCells
      rw [Array.size_append, Array.size_map]
      exact Nat.le_add_right _ _
    refine ⟨_, _, _, Lib.bytesWorld_at_new w e s, hsz, hsz, ?_⟩
    intro i x hi
    have hl : i < s.data.size := by
      have := (List.getElem?_eq_some_iff.1 hi).1
      simpa [L] using this
    have hxi : s.data[i] = x := by
      have h := (List.getElem?_eq_some_iff.1 hi).2
      simpa [L] using h
    unfold Lib.bytesCells
    rw [Array.getElem?_append_left (by rw [Array.size_map]; exact hl), Array.getElem?_map, Array.getElem?_eq_getElem hl, hxi]
    rfl
  · refine ⟨?_, ?_, ?_, by rw [Lib.bytesWorld_size]; omega, fun k hk => Lib.bytesWorld_at_old w e s k hk⟩ <;> (unfold Lib.bytesWorld World.freeze; rw [if_neg (by decide)]; rfl)
  · rw [Lib.bytesWorld_size]; omega

/-- 'string(b)', b a row of the call's own -/
theorem wpList_str (hg : o.guard = none) (x : Operand) (src dst e : TypeId) (ho : o.op = .convert src dst x) (hs : P.underlying src = some (.slice e)) (hd : P.underlying dst = some .string) (he : P.underlying e = some (.int .u8))
    (base : Nat) (v : Value) (l : Bs) (hown : w.ownsRow base e 1 v l.length (l.map bc)) (hx : a.eval x = v)
    (hK : wpList P ops Q rest (a.put o.dst (.string (B l))) w) : wpList P ops Q (o :: rest) a w := by
  refine wpList_plain hg fun K' hK' => ?_
  have hrun : (convert src dst v).run P w = .ok (.string (B l)) w := by
    rcases hown.2 with ⟨rfl, hn⟩ | ⟨g, cap, cur, rfl, _, hh, _, _, _, htake⟩
    · have : l = [] := List.eq_nil_of_length_eq_zero hn
      subst this
      exact run_convert_bytes_nil w src e hs he 0 0 dst hd
    · have h := run_convert_bytes_arg (P := P) w src e hs he g 0 l.length cap (l.map fun x => (x.toNat : Int)) (by simp) (fun i hi => by
        have hc := hown.cellAt i (by simpa using hi)
        rw [Nat.zero_add, hc]
        simp [bc, hi]) dst hd
      rw [h]
      congr 3
      show (⟨_⟩ : ByteArray) = _
      simp [B, Function.comp_def]
  unfold Oper.wp execOp
  simp only [ho, hx, Sem.run_bind, hrun, Result.andThen_ok, Sem.run_pure]
  exact hK' _ _ hK

/-- 'string(b)', b the row that '[]byte(s)' made -/
theorem wpList_str_row (hg : o.guard = none) (x : Operand) (src dst e : TypeId) (ho : o.op = .convert src dst x) (hs : P.underlying src = some (.slice e)) (hd : P.underlying dst = some .string) (he : P.underlying e = some (.int .u8))
    (b n cap : Nat) (l : Bs) (hx : a.eval x = .slice (some ⟨b, 0, none⟩) n cap) (hn : l.length = n) (hrow : ByteRow w e b l)
    (hK : wpList P ops Q rest (a.put o.dst (.string (B l))) w) : wpList P ops Q (o :: rest) a w := by
  refine wpList_plain hg fun K' hK' => ?_
  have hrun : (convert src dst (.slice (some ⟨b, 0, none⟩) n cap)).run P w = .ok (.string (B l)) w := by
    have h := run_convert_bytes_arg (P := P) w src e hs he b 0 n cap (l.map fun x => (x.toNat : Int)) (by simpa using hn) (fun i hi => by
      rw [Nat.zero_add, hrow.cell (List.getElem?_eq_getElem (by omega))]
      simp [bc, hn, hi]) dst hd
    rw [h]
    congr 3
    show (⟨_⟩ : ByteArray) = _
    simp [B, Function.comp_def]
  unfold Oper.wp execOp
  simp only [ho, hx, Sem.run_bind, hrun, Result.andThen_ok, Sem.run_pure]
  exact hK' _ _ hK

/-- 'append(out, x)': one element of 'size' cells, which the translation has just laid in a block of its own -/
theorem wpList_push {w2 : World} (hgd : o.guard = none) (s x : Operand) (t : TypeId) (ho : o.op = .call { callee := .builtin .append, args := #[s, x], argTypes := #[t, t] })
    (base : Nat) (e : TypeId) (z : Value) (size bytes : Nat) (ht : P.underlying t = some (.slice e)) (hinf : (P.info? e).map (fun i => (i.zero, i.size, i.bytes)) = some (some z, size, bytes)) (hzs : z.cells.size = size) (hsz : 0 < size)
    (v : Value) (n : Nat) (xs : List Value) (hown : w.ownsRow base e size v n xs) (hs : a.eval s = v) (cs : List Value) (hx : a.eval x = .slice (some ⟨w.heap.size, 0, none⟩) 1 1) (hl : cs.length = size)
    (h1 : ∀ u ∈ cs, u.oneCell' = true) (hn : (n + 1) * (bytes + 1) ≤ 140737488355328) (hbase : base ≤ w.heap.size)
    (hK : ∀ v' w', w'.ownsRow base e size v' (n + 1) (xs ++ cs) → w.grownBy w' v.ownBlock → (v'.ownBlock = v.ownBlock ∨ v'.ownBlock = some (w.heap.size + 1)) → Below base w w' → v' ≠ .slice none 0 0 → wpList P ops Q rest (a.put o.dst v') w') (hw2 : w2 = w.alloc (.cells cs.toArray e)) :
    wpList P ops Q (o :: rest) a w2 := by
  subst hw2
  obtain ⟨i, hi, hz0, hz1, hz2⟩ := info_parts hinf
  have hmul : (n + 1) * bytes + (n + 1) ≤ 140737488355328 := by rw [Nat.mul_add] at hn; omega
  refine wpList_append_own_at _ hgd s x t ho base e i z size bytes ht hi hz0 hz1 hz2 hzs hsz v n xs hs (hown.alloc _) ⟨w.heap.size, 0, none⟩ 1 1 cs hx (by simpa using hl) ?_ h1 (by unfold maxLen; omega) (by omega) (by simp; omega) ?_
  · intro j u hu
    have hadd : (⟨w.heap.size, 0, none⟩ : Addr).add j = ⟨w.heap.size, j, none⟩ := by unfold Addr.add; split <;> simp_all
    rw [hadd, cell_of_row _ w.heap.size j cs.toArray e (0, 0) (heap_alloc_new w _)]
    simpa using hu
  · intro v' w' hown' hg hnil hat
    have hg' : w.grownBy w' v.ownBlock := (World.grownBy_alloc w _ _).trans hg
    refine hK v' w' hown' hg' (by simpa using hat) ?_ (fun h => by have := (hnil.1 h).2; omega)
    exact (Below.refl base w).grown hg' hbase (fun k hk => (hown.lt k hk).1)
end
end Go.Proofs.YtgjllfonmgfhgaaGreatDoor
