/- Part 43 of the proof that identitylaw08.EntryApplies returns true: the package variables hold what the program lays; nothing else is asked. -/
import Derived.Test.YtoopoglkeeoamaaGreatDoorEap42
import Derived.Lib.LazyBuf
set_option linter.unusedVariables false
set_option linter.unusedSimpArgs false
set_option maxRecDepth 100000
set_option maxHeartbeats 8000000
/- Attributes appended, cloned. -/
namespace Go.Proofs.YtoopoglkeeoamaaGreatDoor
open Go.RowKit Go.Sort
open Idn (L B Bs drop_L take_L size_L)
theorem exL {α : Type} (Q : Nat → α → Prop) : ∀ (n : Nat), (∀ i, i < n → ∃ x, Q i x) → ∃ l : List α, l.length = n ∧ ∀ i x, l[i]? = some x → Q i x
  | 0, _ => ⟨[], rfl, fun i x h => by simp at h⟩
  | n + 1, h => by
    obtain ⟨l, h1, h2⟩ := exL Q n fun i hi => h i (by omega)
    obtain ⟨x, hx⟩ := h n (by omega)
    refine ⟨l ++ [x], by simp [h1], fun i y hy => ?_⟩
    by_cases hi : i < n
    · rw [List.getElem?_append_left (by omega)] at hy
      exact h2 i y hy
    · have hil := (List.getElem?_eq_some_iff.1 hy).1
      simp at hil
      have : i = n := by omega
      subst this
      rw [List.getElem?_append_right (by omega)] at hy
      simp [h1] at hy
      exact hy ▸ hx
theorem rowA_inv (ps : List (Idn.Att × Value)) (j : Nat) (u : Value) (h : (rowA ps)[j]? = some u) : ∃ i p, ps[i]? = some p ∧ ((j = i * 2 ∧ u = sv p.1.name) ∨ (j = i * 2 + 1 ∧ u = p.2)) := by
 have hj := (List.getElem?_eq_some_iff.1 h).1
 rw [rowA_len] at hj
 have hi : j / 2 < ps.length := by omega
 refine ⟨j / 2, ps[j / 2], List.getElem?_eq_getElem hi, ?_⟩
 obtain ⟨r0, r1⟩ := rowA_at ps (j / 2) _ (List.getElem?_eq_getElem hi)
 rcases Nat.mod_two_eq_zero_or_one j with h0 | h0
 ·left
  have e : j / 2 * 2 = j := by omega
  rw [e, h] at r0
  exact ⟨e.symm, by injection r0⟩
 ·right
  have e : j / 2 * 2 + 1 = j := by omega
  rw [e, h] at r1
  exact ⟨e.symm, by injection r1⟩
theorem AttsV.pairs {w : World} {hi : Nat} {A : Option Addr} {n c : Nat} {l : List Idn.Att} (h : AttsV w hi (.slice A n c) l) :
  ∃ ps : List (Idn.Att × Value), ps.map (·.1) = l ∧ (∀ p ∈ ps, StrsV w hi p.2 p.1.vals) ∧ ∀ b off, A = some ⟨b, off, none⟩ → ∀ (j : Nat) u, (rowA ps)[j]? = some u → w.cell? ⟨b, off + j, none⟩ = some u := by
 obtain ⟨ps, h1, h2⟩ := exL (fun i (p : Idn.Att × Value) => l[i]? = some p.1 ∧ StrsV w hi p.2 p.1.vals ∧ ∀ b off, A = some ⟨b, off, none⟩ → w.cell? ⟨b, off + i * 2, none⟩ = some (sv p.1.name) ∧ w.cell? ⟨b, off + i * 2 + 1, none⟩ = some p.2) l.length fun i hil => by
  obtain ⟨b, off, v, hA, hb, c0, c1, hv⟩ := AttsV.cell h hil
  refine ⟨(l[i], v), List.getElem?_eq_getElem hil, hv, fun b' off' e => ?_⟩
  subst hA
  injection e with e
  injection e with e1 e2
  subst e1 e2
  exact ⟨c0, c1⟩
 refine ⟨ps, ?_, fun p hp => ?_, fun b off hA j u hj => ?_⟩
 ·apply List.ext_getElem?
  intro i
  rw [List.getElem?_map]
  by_cases hi' : i < ps.length
  ·have := (h2 i _ (List.getElem?_eq_getElem hi')).1
   rw [List.getElem?_eq_getElem hi', this]; rfl
  ·rw [List.getElem?_eq_none (by omega), List.getElem?_eq_none (by omega)]; rfl
 ·obtain ⟨i, hi', rfl⟩ := List.getElem_of_mem hp
  exact (h2 i _ (List.getElem?_eq_getElem hi')).2.1
 ·obtain ⟨i, p, hp, hx⟩ := rowA_inv ps j u hj
  obtain ⟨x0, x1⟩ := (h2 i p hp).2.2 b off hA
  rcases hx with ⟨rfl, rfl⟩ | ⟨rfl, rfl⟩
  ·exact x0
  ·rw [← Nat.add_assoc]; exact x1
def PsV (w : World) (hi : Nat) (ps : List (Idn.Att × Value)) : Prop := ∀ p ∈ ps, StrsV w hi p.2 p.1.vals
theorem rowA_one {ps : List (Idn.Att × Value)} (h : ∀ p ∈ ps, ∃ A n c, p.2 = .slice A n c) : ∀ u ∈ rowA ps, u.oneCell' = true := by
 intro u hu
 unfold rowA at hu
 obtain ⟨p, hp, hu⟩ := List.mem_flatMap.1 hu
 obtain ⟨A, n, c, e⟩ := h p hp
 simp at hu
 rcases hu with rfl | rfl
 ·rfl
 ·rw [e]; rfl
section
variable {w : World} {ops : Array Oper} {rest : List Oper} {o : Oper} {a : Act} {Q : Exit → Act → World → Prop}
theorem wpList_appendA (hgd : o.guard = none) (s x : Operand) (ho : o.op = .call { callee := .builtin .append, args := #[s, x], argTypes := #[22, 22] })
  (base : Nat) (v : Value) (n : Nat) (xs : List Value) (hown : w.ownsRow base 48 2 v n xs) (hs : a.eval s = v) (u : Value) (l : List Idn.Att) (hi : Nat) (hu : AttsV w hi u l) (hx : a.eval x = u)
  (hn : (n + l.length) * 41 ≤ 140737488355328) (hbase : base ≤ w.heap.size)
  (hK : ∀ v' w' ps, Hid (ps.map (·.1) = l) → PsV w hi ps → w'.ownsRow base 48 2 v' (n + l.length) (xs ++ rowA ps) → Below base w w' → w.grownBy w' v.ownBlock → wpList Tryz.prog ops Q rest (a.put o.dst v') w') : wpList Tryz.prog ops Q (o :: rest) a w := by
 obtain ⟨i, hi', hz0, hz1, hz2⟩ := info_parts info_attr
 obtain ⟨A, c, rfl, hc⟩ := SlV.shape hu
 obtain ⟨ps, p1, p2, p3⟩ := AttsV.pairs hu
 by_cases hl : l.length = 0
 ·have hl0 : l = [] := List.eq_nil_of_length_eq_zero hl
  subst hl0
  have hp0 : ps = [] := List.map_eq_nil_iff.1 p1
  subst hp0
  refine wpList_plain hgd fun K hK' => ?_
  have hrun := run_append_nilsrc (P := Tryz.prog) (w := w) base 22 o.type 48 i 2 Tryz.underlying22 hi' v n xs hown A c
  unfold Oper.wp execOp
  simp only [List.length_nil] at hx
  simp only [ho, resolve, invoke, builtin, Sem.run_bind, Sem.run_pure, Result.andThen_ok, List.map_toArray, List.map_cons, List.map_nil, hs, hx, hrun]
  exact hK' _ _ (hK v w [] rfl p2 (by simpa [rowA] using hown) (Below.refl _ _) (World.grownBy.refl w _))
 ·obtain ⟨b, off, hA, _, _⟩ := hu.at_ (k := 0) (by omega)
  subst hA
  have hpl : ps.length = l.length := by rw [← p1, List.length_map]
  refine wpList_append_own_at _ hgd s x 22 ho base 48 i (.agg #[.string ⟨#[]⟩, .slice none 0 0]) 2 40 Tryz.underlying22 hi' hz0 hz1 hz2 rfl (by decide) v n xs hs hown ⟨b, off, none⟩ l.length c (rowA ps) hx (by rw [rowA_len, hpl]) ?_ ?_ (by unfold maxLen; omega) (by omega) hbase ?_
  ·intro j q hj
   have hadd : (⟨b, off, none⟩ : Addr).add j = ⟨b, off + j, none⟩ := by unfold Addr.add; split <;> simp_all
   rw [hadd]
   exact p3 b off rfl j q hj
  ·exact rowA_one fun p hp => by
    obtain ⟨A', c', e, _⟩ := (p2 p hp).shape
    exact ⟨A', _, c', e⟩
  ·intro v' w' hown' hg _ hat
   exact hK v' w' ps p1 p2 hown' ((Below.refl base w).grown hg hbase (fun k hk => (hown.lt k hk).1)) hg
end
theorem cloneA_any (v : Value) (l : List Idn.Att) (w : World) (hv : AttsV w w.heap.size v l) (hl : l.length ≤ 1000000) :
    Calls Tryz.prog 45 #[v] w fun e w' => ∃ v' ps, e = .returned v' ∧ RowV w' w.heap.size v' ps ∧ ps.map (·.1) = l ∧ (∀ p ∈ ps, StrsV w' w.heap.size p.2 p.1.vals) ∧ Below w.heap.size w w' := by
  obtain ⟨A, c, rfl, hc⟩ := SlV.shape hv
  have hnil := fun W => Lib.run_eql_slice_nil (P := Tryz.prog) W 22 48 A l.length c 0 0 Tryz.underlying22
  cases A with
  | none =>
    have hl0 : l = [] := by
      cases l with
      | nil => rfl
      | cons a l =>
        obtain ⟨b, off, hA, _⟩ := SlV.at_ hv (k := 0) (by simp)
        cases hA
    subst hl0
    replace hnil : ∀ W, (binOp .eql 22 (.slice none 0 c) (.slice none 0 0)).run Tryz.prog W = .ok (.bool true) W := hnil
    go_enter Tryz.func45, Tryz.ntmps45
    go_wp2
    go_ret
    exact ⟨_, [], rfl, ⟨World.ownsRow_nil _ _ _ _, by simp⟩, rfl, by simp, Below.refl _ _⟩
  | some ad =>
    replace hnil : ∀ W, (binOp .eql 22 (.slice (some ad) l.length c) (.slice none 0 0)).run Tryz.prog W = .ok (.bool false) W := hnil
    have ba := (Below.refl w.heap.size w).alloc (Nat.le_refl _) (.cells #[] 48)
    have hlit := World.ownsRow_lit (base := w.heap.size) (e := 48) (size := 2) w #[] 0 (Nat.le_refl _) (by decide) rfl
    have hva := AttsV.keep hv ba
    go_enter Tryz.func45, Tryz.ntmps45
    go_wp2_with (at_builtin; refine wpList_appendA rfl _ _ rfl w.heap.size _ 0 [] hlit rfl _ l w.heap.size hva rfl (by omega) ba.size ?_)
    intro v' w' ps P1 P2 hown hb _
    go_wp2
    go_ret
    have p1 := P1.out
    have p2 : ∀ p ∈ ps, StrsV (w.alloc (.cells #[] 48)) w.heap.size p.2 p.1.vals := P2
    have hpl : ps.length = l.length := by rw [← p1, List.length_map]
    refine ⟨_, ps, rfl, ⟨by first | (rw [Nat.zero_add, ← hpl] at hown; exact hown) | (rw [← hpl] at hown; exact hown), fun p hp => ?_⟩, p1, fun p hp => SlV.keep (p2 p hp) hb, ba.trans hb⟩
    obtain ⟨A', c', e, _⟩ := (p2 p hp).shape
    exact ⟨A', c', e⟩
end Go.Proofs.YtoopoglkeeoamaaGreatDoor
/- entry: Normal. -/
namespace Go.Proofs.YtoopoglkeeoamaaGreatDoor
open Go.RowKit Go.Sort
open Idn (L B Bs drop_L take_L size_L)
theorem gen3 {R : World → Prop} {w : World} {C1 C2 C3 : Array Value} {t1 t2 t3 : TypeId}
  (h : ∀ W, Below w.heap.size w W → W.heap.size = w.heap.size + 3 → (∀ (i : Nat) (v : Value), C1[i]? = some v → W.cell? ⟨w.heap.size, i, none⟩ = some v) → (∀ (i : Nat) (v : Value), C2[i]? = some v → W.cell? ⟨w.heap.size + 1, i, none⟩ = some v) → (∀ (i : Nat) (v : Value), C3[i]? = some v → W.cell? ⟨w.heap.size + 1 + 1, i, none⟩ = some v) → (∀ i, W.frozen? ⟨w.heap.size + 1 + 1, i, none⟩ = false) → R W) : R (((w.alloc (.cells C1 t1)).alloc (.cells C2 t2)).alloc (.cells C3 t3)) := by
 have e1 : (w.alloc (.cells C1 t1)).heap.size = w.heap.size + 1 := by simp
 have e2 : ((w.alloc (.cells C1 t1)).alloc (.cells C2 t2)).heap.size = w.heap.size + 1 + 1 := by simp
 have hnew : (((w.alloc (.cells C1 t1)).alloc (.cells C2 t2)).alloc (.cells C3 t3)).heap[w.heap.size + 1 + 1]? = some (.cells C3 t3 (0, 0)) := by
  rw [← e2]; exact heap_alloc_new _ _
 refine h _ ((((Below.refl _ _).alloc (Nat.le_refl _) _).alloc (by simp) _).alloc (by simp; omega) _) (by simp) (fun i v hv => ?_) (fun i v hv => ?_) (fun i v hv => ?_) (fun i => ?_)
 ·have hold : (((w.alloc (.cells C1 t1)).alloc (.cells C2 t2)).alloc (.cells C3 t3)).heap[w.heap.size]? = some (.cells C1 t1 (0, 0)) := by
   rw [Below.heap_alloc _ _ _ (by rw [e2]; omega), Below.heap_alloc _ _ _ (by rw [e1]; omega)]; exact heap_alloc_new w _
  rw [cell_of_row _ w.heap.size i C1 t1 (0, 0) hold]; exact hv
 ·have hold : (((w.alloc (.cells C1 t1)).alloc (.cells C2 t2)).alloc (.cells C3 t3)).heap[w.heap.size + 1]? = some (.cells C2 t2 (0, 0)) := by
   rw [Below.heap_alloc _ _ _ (by rw [e2]; omega), ← e1]; exact heap_alloc_new _ _
  rw [cell_of_row _ (w.heap.size + 1) i C2 t2 (0, 0) hold]; exact hv
 ·rw [cell_of_row _ (w.heap.size + 1 + 1) i C3 t3 (0, 0) hnew]; exact hv
 ·exact Lib.frozen_of_heap hnew i
theorem eAttsK_step (s : Idn.Sch) (l : List Idn.Att) (k : Nat) (hk : k < l.length) (acc : List Idn.Att) (r : List Idn.Att × Int) (h : r = eAttsK s acc (l.drop k)) :
    ((eVals s l[k].name l[k].vals).2 ≠ 0 → r = ([], (eVals s l[k].name l[k].vals).2)) ∧ ((eVals s l[k].name l[k].vals).2 = 0 → dupK [] (eVals s l[k].name l[k].vals).1 = true → r = ([], 7)) ∧
      ((eVals s l[k].name l[k].vals).2 = 0 → dupK [] (eVals s l[k].name l[k].vals).1 = false → r = eAttsK s (acc ++ [⟨l[k].name, (eVals s l[k].name l[k].vals).1⟩]) (l.drop (k + 1))) := by
  rw [List.drop_eq_getElem_cons hk, eAttsK] at h
  refine ⟨fun a => ?_, fun a b => ?_, fun a b => ?_⟩
  · have e : eAtt s l[k].name l[k].vals = ([], (eVals s l[k].name l[k].vals).2) := by unfold eAtt; rw [if_pos (by simpa using a)]
    rw [h, e, if_pos (by simpa using a)]
  · have e : eAtt s l[k].name l[k].vals = ([], 7) := by unfold eAtt; rw [if_neg (by simpa using a), if_pos b]
    rw [h, e, if_pos (by decide)]
  · have e : eAtt s l[k].name l[k].vals = ((eVals s l[k].name l[k].vals).1, 0) := by unfold eAtt; rw [if_neg (by simpa using a), if_neg (by simpa using b)]
    rw [h, e, if_neg (by simp)]
theorem AttOwn.add {w w' : World} {base : Nat} {v v' u : Value} {ps : List (Idn.Att × Value)} {n : Bs} {vals : List Bs} (h : AttOwn w base v ps) (hown : w'.ownsRow base 48 2 v' (ps.length + 1) (rowA ps ++ [sv n, u])) (hg : w.grownBy w' v.ownBlock) (hu : w.ownsRow base 9 1 u vals.length (vals.map sv))
  (hap : ∀ p ∈ ps, ∀ g, u.ownBlock = some g → p.2.ownBlock ≠ some g) : AttOwn w' base v' (ps ++ [(⟨n, vals⟩, u)]) := by
 refine ⟨?_, ?_, ?_⟩
 ·rw [List.length_append, rowA, List.flatMap_append]; exact hown
 ·intro p hp
  rcases List.mem_append.1 hp with hp | hp
  ·exact own_kept (h.2.1 p hp) hg fun g h1 h2 => own_apart h.1 (h.2.1 p hp) (by decide) g h2 h1
  ·simp at hp; subst hp
   exact own_kept hu hg fun g h1 h2 => own_apart h.1 hu (by decide) g h2 h1
 ·rw [List.pairwise_append]
  refine ⟨h.2.2, by simp, fun p hp q hq g hg' hx => ?_⟩
  simp at hq; subst hq
  exact hap p hp g hx hg'
theorem AttOwn.apart_box {w : World} {base : Nat} {v : Value} {ps : List (Idn.Att × Value)} (h : AttOwn w base v ps) (q j : Nat) (x : Value) (hq : q < base) : AttOwn (w.setCell ⟨q, j, none⟩ x) base v ps :=
  ⟨ownsRow_setCell_other h.1 (a := ⟨q, j, none⟩) (fun e => by have := (h.1.lt q e).1; omega) x,
   fun p hp => ownsRow_setCell_other (h.2.1 p hp) (a := ⟨q, j, none⟩) (fun e => by have := ((h.2.1 p hp).lt q e).1; omega) x, h.2.2⟩
theorem AttOwn.base {w : World} {base base' : Nat} {v : Value} {ps : List (Idn.Att × Value)} (h : AttOwn w base v ps) (hb : base' ≤ base) : AttOwn w base' v ps :=
 ⟨own_base h.1 hb, fun p hp => own_base (h.2.1 p hp) hb, h.2.2⟩
theorem RowV.atts {w : World} {base : Nat} {v : Value} {ps : List (Idn.Att × Value)} {l : List Idn.Att} (h : RowV w base v ps) (hl : ps.map (·.1) = l) (hv : ∀ p ∈ ps, StrsV w w.heap.size p.2 p.1.vals) : AttsV w w.heap.size v l := by
 subst hl
 have h0 := h.1
 rw [show ps.length = (ps.map (·.1)).length by simp] at h0
 refine SlV.own h0 fun i x hx => ?_
 rw [List.getElem?_map] at hx
 obtain ⟨p, hp, rfl⟩ := Option.map_eq_some_iff.1 hx
 obtain ⟨e1, e2⟩ := rowA_at ps i p hp
 refine ⟨[sv p.1.name, p.2], rfl, ⟨p.2, rfl, hv p (List.mem_of_getElem? hp)⟩, fun j u hj => ?_⟩
 match j, hj with
 | 0, hj => simp at hj; subst hj; exact e1
 | 1, hj => simp at hj; subst hj; exact e2
end Go.Proofs.YtoopoglkeeoamaaGreatDoor
/- What calls hand back: attributes, entries, in rows of the call's own. -/
namespace Go.Proofs.YtoopoglkeeoamaaGreatDoor
open Go.RowKit Go.Sort
open Idn (L B Bs)
def RetA (w : World) (r : List Idn.Att × Int) (e : Ending) (w' : World) : Prop :=
 ∃ v ps, e = .returned (.tuple #[v, .int .i64 r.2]) ∧ AttOwn w' w.heap.size v ps ∧ ps.map (·.1) = r.1 ∧ Below w.heap.size w w'
def RetE (w : World) (r : En × Int) (e : Ending) (w' : World) : Prop :=
 ∃ a ps, e = .returned (.tuple #[.agg #[.string (B r.1.1), a], .int .i64 r.2]) ∧ AttOwn w' w.heap.size a ps ∧ ps.map (·.1) = r.1.2 ∧ Below w.heap.size w w'
end Go.Proofs.YtoopoglkeeoamaaGreatDoor
/- A row of modifications of the call's own, whose values lie in rows of the call's own. -/
namespace Go.Proofs.YtoopoglkeeoamaaGreatDoor
open Go.RowKit Go.Sort
open Idn (L B Bs)
def rowM (ps : List (Md × Value)) : List Value := ps.flatMap fun p => [.int .i64 p.1.op, sv p.1.name, p.2]
theorem rowM_len (ps : List (Md × Value)) : (rowM ps).length = ps.length * 3 := by
 induction ps with
 | nil => rfl
 | cons q ps ih => show (Value.int .i64 q.1.op :: sv q.1.name :: q.2 :: rowM ps).length = _; simp [ih]; omega
theorem rowM_app (ps qs : List (Md × Value)) : rowM (ps ++ qs) = rowM ps ++ rowM qs := by unfold rowM; rw [List.flatMap_append]
theorem rowM_at : ∀ (ps : List (Md × Value)) (i : Nat) (p : Md × Value), ps[i]? = some p → (rowM ps)[i * 3]? = some (.int .i64 p.1.op) ∧ (rowM ps)[i * 3 + 1]? = some (sv p.1.name) ∧ (rowM ps)[i * 3 + 2]? = some p.2
  | [], i, p, h => by simp at h
  | q :: ps, 0, p, h => by simp at h; subst h; exact ⟨rfl, rfl, rfl⟩
  | q :: ps, i + 1, p, h => by
    have ih := rowM_at ps i p (by simpa using h)
    have e : rowM (q :: ps) = .int .i64 q.1.op :: sv q.1.name :: q.2 :: rowM ps := rfl
    have h1 : ∀ k, (rowM (q :: ps))[k + 1 + 1 + 1]? = (rowM ps)[k]? := fun k => by rw [e, List.getElem?_cons_succ, List.getElem?_cons_succ, List.getElem?_cons_succ]
    refine ⟨?_, ?_, ?_⟩
    · rw [show (i + 1) * 3 = i * 3 + 1 + 1 + 1 by omega, h1]; exact ih.1
    · rw [show (i + 1) * 3 + 1 = (i * 3 + 1) + 1 + 1 + 1 by omega, h1]; exact ih.2.1
    · rw [show (i + 1) * 3 + 2 = (i * 3 + 2) + 1 + 1 + 1 by omega, h1]; exact ih.2.2
theorem own_apart2 {w : World} {base base' : Nat} {e e' : TypeId} {size size' : Nat} {v v' : Value} {n n' : Nat} {xs xs' : List Value} (h : w.ownsRow base e size v n xs) (h' : w.ownsRow base' e' size' v' n' xs') (hne : e ≠ e') : ∀ g, v.ownBlock = some g → v'.ownBlock ≠ some g := by
 rcases h.2 with ⟨rfl, _⟩ | ⟨g1, cap, cur, rfl, _, hg, _⟩
 ·intro g hg; simp [Value.ownBlock] at hg
 ·rcases h'.2 with ⟨rfl, _⟩ | ⟨g2, cap2, cur2, rfl, _, hg2, _⟩
  ·intro g _; simp [Value.ownBlock]
  ·intro g h1 h2
   simp [Value.ownBlock] at h1 h2
   subst h1 h2
   rw [hg] at hg2
   injection hg2 with hg2
   injection hg2 with _ ht
   exact hne ht
theorem own_open {w : World} {base : Nat} {e : TypeId} {size n n' c : Nat} {A : Option Addr} {xs : List Value} (h : w.ownsRow base e size (.slice A n c) n' xs) (hpos : 0 < n') : ∃ g, A = some ⟨g, 0, none⟩ ∧ ∀ (j : Nat) u, xs[j]? = some u → w.cell? ⟨g, j, none⟩ = some u := by
 rcases id h.2 with ⟨_, hn⟩ | ⟨g, cap, cur, hv, _⟩
 ·omega
 ·injection hv with h1 h2 h3
  subst h1 h2 h3
  exact ⟨g, rfl, (own_cell h).1⟩
def CutS (w : World) (base : Nat) (v : Value) (l : List Bs) : Prop := ∃ A c c', v = .slice A l.length c' ∧ l.length ≤ c' ∧ w.ownsRow base 9 1 (.slice A l.length c) l.length (l.map sv)
theorem CutS.nil (w : World) (base : Nat) : CutS w base (.slice none 0 0) [] := ⟨none, 0, 0, rfl, Nat.le_refl _, World.ownsRow_nil _ _ _ _⟩
theorem CutS.shape {w : World} {base : Nat} {v : Value} {l : List Bs} (h : CutS w base v l) : ∃ A c, v = .slice A l.length c := by
 obtain ⟨A, _, c', e, _⟩ := h
 exact ⟨A, c', e⟩
theorem CutS.read {w : World} {base : Nat} {v : Value} {l : List Bs} (h : CutS w base v l) : StrsV w w.heap.size v l := by
 obtain ⟨A, c, c', rfl, hc, ho⟩ := h
 obtain ⟨A', c2, e, _, hx⟩ := StrsV.of_own ho
 injection e with e1 e2 e3
 subst e1
 exact ⟨_, c', rfl, hc, hx⟩
theorem CutS.own {w : World} {base : Nat} {v : Value} {l : List Bs} (h : w.ownsRow base 9 1 v l.length (l.map sv)) : CutS w base v l := by
 obtain ⟨A, c, rfl⟩ := own_shape h
 obtain ⟨A', c', e, hc, _⟩ := StrsV.of_own h
 injection e with e1 e2 e3
 subst e3
 exact ⟨A, c, c, rfl, hc, h⟩
theorem CutS.keep {w w' : World} {base : Nat} {v : Value} {l : List Bs} (h : CutS w base v l) (hb : Below w.heap.size w w') : CutS w' base v l := by
 obtain ⟨A, c, c', e, hc, ho⟩ := h
 exact ⟨A, c, c', e, hc, own_below ho hb⟩
theorem CutS.base {w : World} {base base' : Nat} {v : Value} {l : List Bs} (h : CutS w base v l) (hb : base' ≤ base) : CutS w base' v l := by
 obtain ⟨A, c, c', e, hc, ho⟩ := h
 exact ⟨A, c, c', e, hc, own_base ho hb⟩
theorem CutS.grown {w w' : World} {base b2 : Nat} {v u : Value} {l : List Bs} {n : Nat} {xs : List Value} (h : CutS w base v l) (hm : w.ownsRow b2 59 3 u n xs) (hg : w.grownBy w' u.ownBlock) : CutS w' base v l := by
 obtain ⟨A, c, c', e, hc, ho⟩ := h
 exact ⟨A, c, c', e, hc, own_kept ho hg fun g h1 h2 => own_apart2 hm ho (by decide) g h2 h1⟩
def ModOwn (w : World) (base : Nat) (v : Value) (ps : List (Md × Value)) : Prop :=
 w.ownsRow base 59 3 v ps.length (rowM ps) ∧ ∀ p ∈ ps, CutS w base p.2 p.1.vals
theorem ModOwn.nil (w : World) (base : Nat) : ModOwn w base (.slice none 0 0) [] := ⟨World.ownsRow_nil _ _ _ _, by simp⟩
theorem ModOwn.keep {w w' : World} {base : Nat} {v : Value} {ps : List (Md × Value)} (h : ModOwn w base v ps) (hb : Below w.heap.size w w') : ModOwn w' base v ps :=
 ⟨own_below h.1 hb, fun p hp => (h.2 p hp).keep hb⟩
theorem ModOwn.base {w : World} {base base' : Nat} {v : Value} {ps : List (Md × Value)} (h : ModOwn w base v ps) (hb : base' ≤ base) : ModOwn w base' v ps :=
 ⟨own_base h.1 hb, fun p hp => (h.2 p hp).base hb⟩
theorem ModOwn.push {w w' : World} {base : Nat} {v v' u : Value} {ps : List (Md × Value)} {m : Md} (h : ModOwn w base v ps) (hown : w'.ownsRow base 59 3 v' (ps.length + 1) (rowM ps ++ [.int .i64 m.op, sv m.name, u])) (hg : w.grownBy w' v.ownBlock) (hu : CutS w base u m.vals) : ModOwn w' base v' (ps ++ [(m, u)]) := by
 refine ⟨?_, fun p hp => ?_⟩
 ·rw [List.length_append, rowM_app]; exact hown
 ·rcases List.mem_append.1 hp with hp | hp
  ·exact (h.2 p hp).grown h.1 hg
  ·rw [List.mem_singleton] at hp; subst hp; exact hu.grown h.1 hg
theorem ModOwn.mods {w : World} {base : Nat} {v : Value} {ps : List (Md × Value)} {l : List Md} (h : ModOwn w base v ps) (hl : ps.map (·.1) = l) : ModsV w w.heap.size v l := by
 subst hl
 have h0 := h.1
 rw [show ps.length = (ps.map (·.1)).length by simp] at h0
 refine SlV.own h0 fun i x hx => ?_
 rw [List.getElem?_map] at hx
 obtain ⟨p, hp, rfl⟩ := Option.map_eq_some_iff.1 hx
 obtain ⟨e0, e1, e2⟩ := rowM_at ps i p hp
 refine ⟨[.int .i64 p.1.op, sv p.1.name, p.2], rfl, ⟨p.2, rfl, (h.2 p (List.mem_of_getElem? hp)).read⟩, fun j u hj => ?_⟩
 match j, hj with
 | 0, hj => simp at hj; subst hj; exact e0
 | 1, hj => simp at hj; subst hj; exact e1
 | 2, hj => simp at hj; subst hj; exact e2
theorem info_mod : (Tryz.prog.info? 59).map (fun i => (i.zero, i.size, i.bytes)) = some (some (.agg #[.int .i64 0, .string ⟨#[]⟩, .slice none 0 0]), 3, 48) := by kernel_rfl
theorem run_appendM {w : World} (ty : TypeId) (base : Nat) (v : Value) (ps : List (Md × Value)) (hown : ModOwn w base v ps) (u : Value) (qs : List (Md × Value)) (hu : ModOwn w base u qs)
    (hn : (ps.length + qs.length) * 49 ≤ 140737488355328) (hbase : base ≤ w.heap.size) :
    ∃ v' w', (Builtin.append_ #[38, 38] ty #[v, u]).run Tryz.prog w = .ok v' w' ∧ ModOwn w' base v' (ps ++ qs) ∧ Below base w w' ∧ w.grownBy w' v.ownBlock := by
  obtain ⟨i, hi', hz0, hz1, hz2⟩ := info_parts info_mod
  by_cases hl : qs.length = 0
  · have hq0 : qs = [] := List.eq_nil_of_length_eq_zero hl
    subst hq0
    obtain ⟨A, c, rfl⟩ := own_shape hu.1
    exact ⟨v, w, run_append_nilsrc (P := Tryz.prog) (w := w) base 38 ty 59 i 3 Tryz.underlying38 hi' v ps.length (rowM ps) hown.1 A c, by rw [List.append_nil]; exact hown, Below.refl _ _, World.grownBy.refl w _⟩
  · obtain ⟨A, c, hA⟩ := own_shape hu.1
    subst hA
    rcases hu.1.2 with ⟨hn0, hn1⟩ | ⟨g, cap, cur, hv, hbg, hgg, _⟩
    · exact absurd hn1 hl
    injection hv with hv1 hv2 hv3
    subst hv1
    have hcell := own_cell hu.1
    obtain ⟨v', w', hrun, h2, h3, _, h5⟩ := run_append_own_at (P := Tryz.prog) w base 38 ty 59 i (.agg #[.int .i64 0, .string ⟨#[]⟩, .slice none 0 0]) 3 48 Tryz.underlying38 hi' hz0 hz1 hz2 rfl (by decide) v ps.length (rowM ps) hown.1 ⟨g, 0, none⟩ qs.length c (rowM qs) (by rw [rowM_len]) (by
      intro j q hj
      have hadd : (⟨g, 0, none⟩ : Addr).add j = ⟨g, j, none⟩ := by unfold Addr.add; split <;> simp_all
      rw [hadd]
      exact hcell.1 j q hj) (by
      intro q hq
      unfold rowM at hq
      obtain ⟨p, hp, hq⟩ := List.mem_flatMap.1 hq
      obtain ⟨A', c', e⟩ := (hu.2 p hp).shape
      simp at hq
      rcases hq with rfl | rfl | rfl
      · rfl
      · rfl
      · rw [e]; rfl) (by unfold maxLen; omega) (by omega) hbase
    refine ⟨v', w', hrun, ⟨by rw [List.length_append, rowM_app]; exact h2, fun p hp => ?_⟩, (Below.refl base w).grown h3 hbase (fun k hk => (hown.1.lt k hk).1), h3⟩
    rcases List.mem_append.1 hp with hp | hp
    · exact (hown.2 p hp).grown hown.1 h3
    · exact (hu.2 p hp).grown hown.1 h3
theorem step_appendM {ops : Array Oper} {o : Oper} {a : Act} {w : World} {K : Act → World → Prop} {Q : Exit → Act → World → Prop} {E : Prop}
  (hgd : o.guard = none) (s x : Operand) (ho : o.op = .call { callee := .builtin .append, args := #[s, x], argTypes := #[38, 38] })
  (base : Nat) (v : Value) (ps : List (Md × Value)) (hown : ModOwn w base v ps) (hs : a.eval s = v) (u : Value) (qs : List (Md × Value)) (hu : ModOwn w base u qs) (hx : a.eval x = u)
  (hn : (ps.length + qs.length) * 49 ≤ 140737488355328) (hbase : base ≤ w.heap.size)
  (hK : ∀ v' w', ModOwn w' base v' (ps ++ qs) → Below base w w' → w.grownBy w' v.ownBlock → K (a.put o.dst v') w') :
  if Region.wanted o (yielded ops a.tmps) = true then Oper.wp Tryz.prog o a w K Q else E := by
 have hw : Region.wanted o (yielded ops a.tmps) = true := by simp [Region.wanted, hgd]
 rw [if_pos hw]
 obtain ⟨v', w', hrun, h1, h2, h3⟩ := run_appendM o.type base v ps hown u qs hu hn hbase
 unfold Oper.wp execOp
 simp only [ho, resolve, invoke, builtin, Sem.run_bind, Sem.run_pure, Result.andThen_ok, List.map_toArray, List.map_cons, List.map_nil, hs, hx, hrun]
 exact hK v' w' h1 h2 h3
end Go.Proofs.YtoopoglkeeoamaaGreatDoor
/- identityref06: without, with, Add, Replace. -/
namespace Go.Proofs.YtoopoglkeeoamaaGreatDoor
open Go.RowKit Go.Sort
open Idn (L B Bs drop_L take_L size_L)
def RetAv (w : World) (r : List Idn.Att × Int) (e : Ending) (w' : World) : Prop :=
 ∃ v ps, e = .returned (.tuple #[v, .int .i64 r.2]) ∧ AttRow w' w.heap.size v ps ∧ ps.map (·.1) = r.1 ∧ Below w.heap.size w w'
theorem filter_take8 {α : Type} (p : α → Bool) (l : List α) (k : Nat) (hk : k < l.length) : (l.take (k + 1)).filter p = (l.take k).filter p ++ if p l[k] then [l[k]] else [] := by
 rw [List.take_succ_eq_append_getElem hk, List.filter_append]
 congr 1
 cases h : p l[k]
 ·rw [List.filter_cons_of_neg (by rw [h]; decide)]; rfl
 ·rw [List.filter_cons_of_pos h]; rfl
theorem r6_without_any (v : Value) (l : List Idn.Att) (n : ByteArray) (w : World) (hv : AttsV w w.heap.size v l) (hs : Idn.ASm7 l) (hn : n.size ≤ 1000000000) :
  Calls Tryz.prog 183 #[v, .string n] w fun e w' => ∃ v' qs, e = .returned v' ∧ AttRow w' w.heap.size v' qs ∧ qs.map (·.1) = Idn.rWo l (L n) ∧ Below w.heap.size w w' := by
 have hS := r_Sorted_any v l w hv hs
 have hL := fun W => r_lower_any n W (by omega)
 have hq1 := rSorted_len l
 have hl1 := hs.1
 have HR : Hid (Idn.rWo l (L n) = (Idn.rSorted l).filter fun a => !decide (a.name = Idn.lower (L n))) := rfl
 obtain ⟨A0, c0, rfl, hc0⟩ := SlV.shape hv
 generalize Idn.rWo l (L n) = r at *
 generalize Idn.rSorted l = q at *
 generalize Idn.lower (L n) = ln at *
 clear hv hs
 go_enter Tryz.func183, Tryz.ntmps183
 go_wp2_with fail
 refine hS.mono ?_
 rintro e w1 ⟨v1, ps, rfl, hrow, hps, hb1⟩
 obtain ⟨A1, c1, hv1⟩ := own_shape hrow.1
 subst hv1
 have hpl : ps.length = q.length := by rw [← hps, List.length_map]
 have hpl9 : ps.length ≤ 900 := by omega
 have HPS := Lib.hid hps
 clear hS hps hpl
 go_wp2_with fail
 go_loopw [5, 7] (fun o i wr => ∃ (k : Nat) (qs : List (Idn.Att × Value)), k ≤ ps.length ∧ i = .int .i64 k ∧ wr.ownsRow w1.heap.size 48 2 o qs.length (rowA qs) ∧ Below w1.heap.size w1 wr ∧ Hid (qs = (ps.take k).filter fun p => !decide (p.1.name = ln)) ∧ qs.length ≤ k) (fun _ i _ => ps.length - (intOf i).toNat)
 case atStart => exact ⟨0, [], Nat.zero_le _, rfl, World.ownsRow_nil _ _ _ _, Below.refl _ _, rfl, Nat.le_refl _⟩
 case round =>
  obtain ⟨k, qs, hk, rfl, hown, hb, hinv, hql⟩ := hrel
  obtain ⟨wo, hwo⟩ : ∃ wo : World, wo = wr := ⟨_, rfl⟩
  subst hwo
  by_cases hlt : k < ps.length
  ·have hltI : (k : Int) < (ps.length : Int) := by omega
   obtain ⟨g, hA1, hcell⟩ := own_open (own_below hrow.1 hb) (by omega)
   subst hA1
   obtain ⟨rx0, rx1⟩ := rowA_at ps k _ (List.getElem?_eq_getElem hlt)
   have d0 := hcell _ _ rx0
   have d1 := hcell _ _ rx1
   have hstep := filter_take8 (fun p => !decide (p.1.name = ln)) ps k hlt
   have hox := hrow.2 _ (List.getElem_mem hlt)
   clear hcell rx0 rx1
   generalize ps[k] = px at *
   obtain ⟨⟨xn, xv⟩, xu⟩ := px
   obtain ⟨Ax, cx, hxu⟩ := own_shape hox
   dsimp only at d0 d1 hstep hxu
   subst hxu
   unfold sv at d0
   have ht : ((B xn).toList == (B ln).toList) = decide (xn = ln) := by rw [str_beq, Idn.L_B, Idn.L_B]
   have j0 := cell_regrown d0
   have y1 := cq (W := wo) fun W' _ => hL W'
   clear hox
   by_cases he : xn = ln
   ·rw [decide_eq_true he] at ht
    have HF : Hid (qs = (ps.take (k + 1)).filter fun p => !decide (p.1.name = ln)) := by show _ = _; rw [hstep, if_neg (by simp [he]), List.append_nil, hinv.out]
    clear hstep he hinv d1
    go_wp2
    refine wp_region_quiet_below (by kernel_rfl) (by kernel_rfl) ?_
    repeat (first | go_big_quiet_step ((go_at_call 55; exact y1 _ _)) | quiet_step ((go_at_call 55; exact y1 _ _)))
    refine wpQuiet_nil ?_
    intro _ hw'
    obtain ⟨⟨dq, osq⟩, hw''⟩ := hw'
    subst hw''
    have hb7 := below_regrown wo dq osq
    generalize grow (redrawn wo dq) osq = W7 at hb7 ⊢
    clear y1 j0 d0
    have hown7 := own_below hown hb7
    have hb07 := hb.trans (hb7.mono hb.size)
    go_wp2_with fail
    go_roundw
    case rel => exact ⟨k + 1, qs, by omega, by go_num, hown7, hb07, HF, by omega⟩
    case measure => simp [intOf]; omega
   ·rw [decide_eq_false he] at ht
    have HF : Hid (qs ++ [(⟨xn, xv⟩, .slice Ax xv.length cx)] = (ps.take (k + 1)).filter fun p => !decide (p.1.name = ln)) := by show _ = _; rw [hstep, if_pos (by simp [he]), hinv.out]
    clear hstep he hinv
    go_wp2
    refine wp_region_quiet_below (by kernel_rfl) (by kernel_rfl) ?_
    repeat (first | go_big_quiet_step ((go_at_call 55; exact y1 _ _)) | quiet_step ((go_at_call 55; exact y1 _ _)))
    refine wpQuiet_nil ?_
    intro _ hw'
    obtain ⟨⟨dq, osq⟩, hw''⟩ := hw'
    subst hw''
    have hb7 := below_regrown wo dq osq
    generalize grow (redrawn wo dq) osq = W7 at hb7 ⊢
    clear y1 j0
    replace d0 := cell_later hb7 d0
    replace d1 := cell_later hb7 d1
    have hown7 := own_below hown hb7
    have hb07 := hb.trans (hb7.mono hb.size)
    clear hown
    go_wp2_with (at_builtin; refine wpList_push W7 rfl _ _ 22 rfl w1.heap.size 48 (.agg #[.string ⟨#[]⟩, .slice none 0 0]) 2 40 Tryz.underlying22 info_attr rfl (by decide) _ qs.length _ hown7 rfl [.string (B xn), .slice Ax xv.length cx] rfl rfl (by intro u hu; simp at hu; rcases hu with rfl | rfl <;> rfl) (by omega) hb07.size ?_ rfl)
    intro v9 w9 hown9 _ _ hb9 _
    clear hown7
    go_wp2
    go_roundw
    case rel => exact ⟨k + 1, qs ++ [(⟨xn, xv⟩, .slice Ax xv.length cx)], by omega, by go_num, by rw [List.length_append, rowA_snoc]; exact hown9, hb07.trans hb9, HF, by rw [List.length_append]; simp; omega⟩
    case measure => simp [intOf]; omega
  ·have hltI : ¬ (k : Int) < (ps.length : Int) := by omega
   have hqs : qs = ps.filter fun p => !decide (p.1.name = ln) := by rw [hinv.out, List.take_of_length_le (by omega)]
   have HF : Hid (qs.map (·.1) = r) := by
    show _ = _
    rw [HR.out, ← HPS.out, hqs, List.filter_map]; rfl
   have HM : Hid (∀ p ∈ qs, p ∈ ps) := fun p hp => by rw [hqs] at hp; exact (List.mem_filter.1 hp).1
   clear hinv hqs HR
   go_wp2_with fail
   go_ret
   exact ⟨_, rfl, qs, ⟨own_base hown hb1.size, fun p hp => own_below (hrow.2 p (HM.out p hp)) hb⟩, HF.out, hb1.trans (hb.mono hb1.size)⟩
theorem row_more {w1 w2 w : World} {base : Nat} {v1 v2 mv : Value} {qs : List (Idn.Att × Value)} {n : ByteArray} {vals : List Bs} {q : List Idn.Att} (hrow : AttRow w1 base v1 qs) (hown : w2.ownsRow base 48 2 v2 (qs.length + 1) (rowA qs ++ [.string n, mv])) (hg : w1.grownBy w2 v1.ownBlock) (hm : StrsV w w.heap.size mv vals) (hb : Below w.heap.size w w2) (hqs : qs.map (·.1) = q) : AttsV w2 w2.heap.size v2 (q ++ [⟨L n, vals⟩]) := by
 have h0 : w2.ownsRow base 48 2 v2 (qs ++ [((⟨L n, vals⟩ : Idn.Att), mv)]).length (rowA (qs ++ [((⟨L n, vals⟩ : Idn.Att), mv)])) := by
  rw [List.length_append, rowA_snoc]
  show w2.ownsRow base 48 2 v2 (qs.length + 1) (rowA qs ++ [sv (L n), mv])
  rw [sv_L]; exact hown
 refine row_atts h0 (fun p hp => ?_) (by rw [List.map_append, hqs]; rfl)
 rcases List.mem_append.1 hp with hp | hp
 ·exact StrsV.of_own (own_kept (hrow.2 p hp) hg fun g h1 h2 => own_apart hrow.1 (hrow.2 p hp) (by decide) g h2 h1)
 ·rw [List.mem_singleton] at hp; subst hp
  exact SlV.mono (SlV.keep hm hb) hb.size
theorem r6_with_any (v : Value) (l : List Idn.Att) (n : ByteArray) (mv : Value) (vals : List Bs) (w : World) (hv : AttsV w w.heap.size v l) (hm : StrsV w w.heap.size mv vals) (hs : Idn.ASm7 l) (hn : n.size ≤ 1000000000) (hml : vals.length ≤ 1100000) (hfin : Idn.ASm7 (Idn.rWo l (L n) ++ [⟨L n, vals⟩])) :
  Calls Tryz.prog 182 #[v, .string n, mv] w (RetAv w (rWith l (L n) vals)) := by
 have hW := r6_without_any v l n w hv hs hn
 have hSo := fun (v2 : Value) W h => r_Sorted_any v2 (Idn.rWo l (L n) ++ [⟨L n, vals⟩]) W h hfin
 have hlen : (Idn.rWo l (L n)).length ≤ 900 := by have := hfin.1; rw [List.length_append] at this; omega
 have hsl := rSorted_len (Idn.rWo l (L n) ++ [⟨L n, vals⟩])
 have HR : Hid (rWith l (L n) vals = if 32 < (Idn.rSorted (Idn.rWo l (L n) ++ [⟨L n, vals⟩])).length ∨ 16 < vals.length then ([], 3) else (Idn.rSorted (Idn.rWo l (L n) ++ [⟨L n, vals⟩]), 0)) := rfl
 obtain ⟨A0, c0, rfl, hc0⟩ := SlV.shape hv
 obtain ⟨Am, cm, rfl, hcm⟩ := SlV.shape hm
 generalize rWith l (L n) vals = r at *
 generalize Idn.rSorted (Idn.rWo l (L n) ++ [⟨L n, vals⟩]) = sq at *
 have hsq : sq.length ≤ 1000 := by rw [List.length_append] at hsl; simp at hsl; omega
 clear hfin hs hv hsl
 go_enter Tryz.func182, Tryz.ntmps182
 go_wp2_with fail
 refine hW.mono ?_
 rintro e w1 ⟨v1, qs, rfl, hrow, hqs, hb1⟩
 obtain ⟨A1, c1, hv1⟩ := own_shape hrow.1
 subst hv1
 have hql : qs.length ≤ 900 := by rw [← hqs, List.length_map] at hlen; exact hlen
 clear hW hlen
 go_wp2_with (at_builtin; refine wpList_push w1 rfl _ _ 22 rfl w.heap.size 48 (.agg #[.string ⟨#[]⟩, .slice none 0 0]) 2 40 Tryz.underlying22 info_attr rfl (by decide) _ qs.length _ hrow.1 rfl [.string n, .slice Am vals.length cm] rfl rfl (by intro u hu; simp at hu; rcases hu with rfl | rfl <;> rfl) (by omega) hb1.size ?_ rfl)
 intro v2 w2 hown2 hg2 _ hb2 _
 have hbw2 := hb1.trans hb2
 have hats := row_more hrow hown2 hg2 hm hbw2 hqs
 have hS2 := hSo v2 w2 hats
 clear hSo hrow hown2 hg2 hqs hats
 go_wp2_with fail
 refine hS2.mono ?_
 rintro e w3 ⟨v3, ps3, rfl, hrow3, hps3, hb3⟩
 have hats3 := hrow3.atts hps3
 obtain ⟨A3, c3, hv3, _⟩ := SlV.shape hats3
 subst hv3
 have HROW := Lib.hid hrow3
 have HPS := Lib.hid hps3
 have hbw3 := hbw2.trans (hb3.mono hbw2.size)
 clear hS2 hrow3 hps3
 by_cases h32 : 32 < sq.length
 ·have hI : (32 : Int) < (sq.length : Int) := by omega
  have HF : Hid (r = ([], 3)) := by show _ = _; rw [HR.out, if_pos (.inl h32)]
  clear HR h32
  go_wp2_with fail
  go_ret2
  exact ⟨_, [], by rw [HF.out] <;> rfl, AttRow.nil _ _, by rw [HF.out] <;> rfl, hbw3⟩
 have hI : ¬ (32 : Int) < (sq.length : Int) := by omega
 by_cases h16 : 16 < vals.length
 ·have hJ : (16 : Int) < (vals.length : Int) := by omega
  have HF : Hid (r = ([], 3)) := by show _ = _; rw [HR.out, if_pos (.inr h16)]
  clear HR h16
  go_wp2_with fail
  go_ret2
  exact ⟨_, [], by rw [HF.out] <;> rfl, AttRow.nil _ _, by rw [HF.out] <;> rfl, hbw3⟩
 have hJ : ¬ (16 : Int) < (vals.length : Int) := by omega
 have HF : Hid (r = (sq, 0)) := by show _ = _; rw [HR.out, if_neg (by omega)]
 clear HR h16 h32
 go_wp2_with fail
 go_ret2
 exact ⟨_, ps3, by rw [HF.out] <;> rfl, HROW.out.low hbw2.size, by rw [HF.out]; exact HPS.out, hbw3⟩
theorem r6_Replace_any (v : Value) (l : List Idn.Att) (n : ByteArray) (mv : Value) (vals : List Bs) (w : World) (hv : AttsV w w.heap.size v l) (hm : StrsV w w.heap.size mv vals) (hs : Idn.ASm7 l) (hn : n.size ≤ 1000000000) (hml : vals.length ≤ 1100000) (hmx : ∀ x ∈ vals, x.length ≤ 1000000000) (hfin : Idn.ASm7 (Idn.rWo l (L n) ++ [⟨L n, vals⟩])) :
  Calls Tryz.prog 120 #[v, .string n, mv] w (RetAv w (rReplace l (L n) vals)) := by
 have hN := fun W => r_name_any n W (by omega)
 have hVs := fun W (hW : Below w.heap.size w W) => r_values_any mv (.slice none 0 0) vals [] W (SlV.mono (SlV.keep hm hW) hW.size) (SlV.nil _ _ _ _) ⟨by omega, hmx⟩ (by simp)
 have hWi := fun W (hW : Below w.heap.size w W) => r6_with_any v l n mv vals W (AttsV.mono (AttsV.keep hv hW) hW.size) (SlV.mono (SlV.keep hm hW) hW.size) hs hn hml hfin
 have HR : Hid (rReplace l (L n) vals = if !Idn.name (L n) then ([], 5) else if Idn.valsErr [] vals != 0 then ([], Idn.valsErr [] vals) else rWith l (L n) vals) := rfl
 have hve : vErr [] [] vals = Idn.valsErr [] vals := vErr_nil vals []
 obtain ⟨A0, c0, rfl, hc0⟩ := SlV.shape hv
 obtain ⟨Am, cm, rfl, hcm⟩ := SlV.shape hm
 rw [hve] at hVs
 generalize rReplace l (L n) vals = r at *
 generalize rWith l (L n) vals = rw0 at *
 generalize Idn.valsErr [] vals = ve at *
 clear hs hv hm hfin hve
 cases hnm : Idn.name (L n)
 ·rw [hnm] at hN
  have HF : Hid (r = ([], 5)) := by show _ = _; rw [HR.out, hnm]; rfl
  clear HR hVs hWi hnm
  go_enter Tryz.func120, Tryz.ntmps120
  go_wp2_with fail
  refine (hN w).mono ?_
  rintro e w1 ⟨rfl, rfl⟩
  go_wp2_with fail
  go_ret2
  exact ⟨_, [], by rw [HF.out] <;> rfl, AttRow.nil _ _, by rw [HF.out] <;> rfl, Below.refl _ _⟩
 rw [hnm] at hN
 replace HR : Hid (r = if ve != 0 then ([], ve) else rw0) := by show _ = _; rw [HR.out, hnm]; rfl
 clear hnm
 by_cases hve : ve = 0
 case neg =>
  have hI : (ve != 0) = true := by simpa using hve
  have HF : Hid (r = ([], ve)) := by show _ = _; rw [HR.out, if_pos hI]
  clear HR hWi hve
  go_enter Tryz.func120, Tryz.ntmps120
  go_wp2_with fail
  refine (hN w).mono ?_
  rintro e w0 ⟨rfl, rfl⟩
  go_wp2_with fail
  refine (hVs _ (Below.refl _ _)).mono ?_
  rintro e w1 ⟨rfl, hb1⟩
  go_wp2_with fail
  go_ret2
  exact ⟨_, [], by rw [HF.out] <;> rfl, AttRow.nil _ _, by rw [HF.out] <;> rfl, hb1⟩
 subst hve
 have HF : Hid (r = rw0) := by show _ = _; rw [HR.out]; rfl
 clear HR
 go_enter Tryz.func120, Tryz.ntmps120
 go_wp2_with fail
 refine (hN w).mono ?_
 rintro e w0 ⟨rfl, rfl⟩
 go_wp2_with fail
 refine (hVs _ (Below.refl _ _)).mono ?_
 rintro e w1 ⟨rfl, hb1⟩
 clear hVs hN
 go_wp2_with fail
 refine (hWi w1 hb1).mono ?_
 rintro e w2 ⟨v2, ps2, rfl, hats2, hps2, hb2⟩
 obtain ⟨A2, c2, hv2, _⟩ := SlV.shape (hats2.atts hps2)
 subst hv2
 clear hWi
 go_wp2_with fail
 go_ret2
 exact ⟨_, ps2, by rw [HF.out] <;> rfl, hats2.low hb1.size, by rw [HF.out]; exact hps2, hb1.trans (hb2.mono hb1.size)⟩
theorem r6_Add_any (v : Value) (l : List Idn.Att) (n : ByteArray) (mv : Value) (vals : List Bs) (w : World) (hv : AttsV w w.heap.size v l) (hm : StrsV w w.heap.size mv vals) (hs : Idn.ASm7 l) (hn : n.size ≤ 1000000000) (hml : vals.length ≤ 1050000) (hmx : ∀ x ∈ vals, x.length ≤ 1000000000) (hgn : (rGet l (L n)).length ≤ 10000) (hfin : Idn.ASm7 (Idn.rWo l (L n) ++ [⟨L n, rGet l (L n) ++ vals⟩])) :
  Calls Tryz.prog 118 #[v, .string n, mv] w (RetAv w (rAdd l (L n) vals)) := by
 have hN := fun W => r_name_any n W (by omega)
 have hG := fun W (hW : Below w.heap.size w W) => r6_Get_any v l n W (AttsV.mono (AttsV.keep hv hW) hW.size) hs hn
 have hVs := fun W (hW : Below w.heap.size w W) ov ho => r_values_any mv ov vals (rGet l (L n)) W (SlV.mono (SlV.keep hm hW) hW.size) ho ⟨by omega, hmx⟩ (by omega)
 have hWi := fun W (hW : Below w.heap.size w W) nv hnv => r6_with_any v l n nv (rGet l (L n) ++ vals) W (AttsV.mono (AttsV.keep hv hW) hW.size) hnv hs hn (by rw [List.length_append]; omega) hfin
 have HR : Hid (rAdd l (L n) vals = if !Idn.name (L n) then ([], 5) else if vals.length = 0 then ([], 6) else if vErr (rGet l (L n)) [] vals != 0 then ([], vErr (rGet l (L n)) [] vals) else rWith l (L n) (rGet l (L n) ++ vals)) := rfl
 obtain ⟨A0, c0, rfl, hc0⟩ := SlV.shape hv
 have hm0 := hm
 obtain ⟨Am, cm, rfl, hcm⟩ := SlV.shape hm
 generalize rAdd l (L n) vals = r at *
 generalize rWith l (L n) (rGet l (L n) ++ vals) = rw0 at *
 generalize rGet l (L n) = old at *
 generalize vErr old [] vals = ve at *
 clear hs hv hfin
 cases hnm : Idn.name (L n)
 ·rw [hnm] at hN
  have HF : Hid (r = ([], 5)) := by show _ = _; rw [HR.out, hnm]; rfl
  clear HR hVs hWi hnm hG
  go_enter Tryz.func118, Tryz.ntmps118
  go_wp2_with fail
  refine (hN w).mono ?_
  rintro e w1 ⟨rfl, rfl⟩
  go_wp2_with fail
  go_ret2
  exact ⟨_, [], by rw [HF.out] <;> rfl, AttRow.nil _ _, by rw [HF.out] <;> rfl, Below.refl _ _⟩
 rw [hnm] at hN
 replace HR : Hid (r = if vals.length = 0 then ([], 6) else if ve != 0 then ([], ve) else rw0) := by show _ = _; rw [HR.out, hnm]; rfl
 clear hnm
 by_cases hz : vals.length = 0
 ·have hI : ((vals.length : Int) == 0) = true := by rw [beq_iff_eq]; omega
  have HF : Hid (r = ([], 6)) := by show _ = _; rw [HR.out, if_pos hz]
  clear HR hVs hWi hG hz
  go_enter Tryz.func118, Tryz.ntmps118
  go_wp2_with fail
  refine (hN w).mono ?_
  rintro e w1 ⟨rfl, rfl⟩
  go_wp2_with fail
  go_ret2
  exact ⟨_, [], by rw [HF.out] <;> rfl, AttRow.nil _ _, by rw [HF.out] <;> rfl, Below.refl _ _⟩
 have hI : ((vals.length : Int) == 0) = false := by rw [beq_eq_false_iff_ne]; omega
 replace HR : Hid (r = if ve != 0 then ([], ve) else rw0) := by show _ = _; rw [HR.out, if_neg hz]
 clear hz
 go_enter Tryz.func118, Tryz.ntmps118
 go_wp2_with fail
 refine (hN w).mono ?_
 rintro e w0 ⟨rfl, rfl⟩
 clear hN
 go_wp2_with fail
 refine (hG w (Below.refl _ _)).mono ?_
 rintro e w1 ⟨A1, k1, c1, rfl, ho1, hb1⟩
 obtain rfl := SlV.len ho1
 have hVs1 := hVs w1 hb1 _ ho1
 clear hG hVs
 go_wp2_with fail
 refine hVs1.mono ?_
 rintro e w2 ⟨rfl, hb2⟩
 have hbw2 := hb1.trans (hb2.mono hb1.size)
 clear hVs1
 by_cases hve : ve = 0
 case neg =>
  have hJ : (ve != 0) = true := by simpa using hve
  have HF : Hid (r = ([], ve)) := by show _ = _; rw [HR.out, if_pos hJ]
  clear HR hWi hve
  go_wp2_with fail
  go_ret2
  exact ⟨_, [], by rw [HF.out] <;> rfl, AttRow.nil _ _, by rw [HF.out] <;> rfl, hbw2⟩
 subst hve
 have HF : Hid (r = rw0) := by show _ = _; rw [HR.out]; rfl
 have ho2 := SlV.mono (SlV.keep ho1 hb2) hb2.size
 have hm2 := SlV.mono (SlV.keep hm0 hbw2) hbw2.size
 have hE0 : (w2.alloc (.cells #[] 9)).ownsRow w2.heap.size 9 1 (.slice (some ⟨w2.heap.size, 0, none⟩) 0 0) 0 [] := World.ownsRow_lit w2 #[] 0 (Nat.le_refl _) (by decide) rfl
 have hbE : Below w2.heap.size w2 (w2.alloc (.cells #[] 9)) := (Below.refl _ _).alloc (Nat.le_refl _) _
 have ho3 := SlV.mono (SlV.keep ho2 hbE) hbE.size
 clear HR ho1 ho2
 go_wp2_with (at_builtin; refine wpList_appendS rfl _ _ 45 rfl w2.heap.size 9 Tryz.underlying45 info_str _ 0 [] hE0 rfl _ old _ ho3 rfl (by omega) hbE.size ?_)
 intro v4 w4 hown4 hb4 _ _
 have hb24 := hbE.trans hb4
 have hm4 := SlV.mono (SlV.keep hm2 hb24) hb24.size
 clear ho3 hE0 hm2
 go_wp2_with (at_builtin; refine wpList_appendS rfl _ _ 45 rfl w2.heap.size 9 Tryz.underlying45 info_str _ _ _ hown4 rfl _ vals _ hm4 rfl (by omega) hb24.size ?_)
 intro v5 w5 hown5 hb5 _ _
 have hb25 := hb24.trans hb5
 have hbw5 := hbw2.trans (hb25.mono hbw2.size)
 have hnv : StrsV w5 w5.heap.size v5 (old ++ vals) := StrsV.of_own (by rw [List.length_append, List.map_append]; simpa using hown5)
 obtain ⟨A5, c5, hv5, _⟩ := SlV.shape hnv
 subst hv5
 have hWi5 := hWi w5 hbw5 _ hnv
 simp only [List.length_append] at hWi5
 clear hWi hown4 hown5 hm4
 go_wp2_with fail
 refine hWi5.mono ?_
 rintro e w6 ⟨v6, ps6, rfl, hats6, hps6, hb6⟩
 obtain ⟨A6, c6, hv6, _⟩ := SlV.shape (hats6.atts hps6)
 subst hv6
 clear hWi5
 go_wp2_with fail
 go_ret2
 exact ⟨_, ps6, by rw [HF.out] <;> rfl, hats6.low hbw5.size, by rw [HF.out]; exact hps6, hbw5.trans (hb6.mono hbw5.size)⟩
end Go.Proofs.YtoopoglkeeoamaaGreatDoor
/- entry: differences, walked. -/
namespace Go.Proofs.YtoopoglkeeoamaaGreatDoor
open Go.RowKit Go.Sort
open Idn (L B Bs drop_L take_L size_L)
theorem mod_one (w : World) (base : Nat) (hb : base ≤ w.heap.size) (op : Int) (n : Bs) (u : Value) (vals : List Bs) (hu : CutS w base u vals) :
  ModOwn (w.alloc (.cells #[.int .i64 op, .string (B n), u] 59)) base (.slice (some ⟨w.heap.size, 0, none⟩) 1 1) [(⟨op, n, vals⟩, u)] := by
 refine ⟨World.ownsRow_lit (base := base) (e := 59) (size := 3) w #[.int .i64 op, .string (B n), u] 1 hb (by decide) rfl, fun p hp => ?_⟩
 rw [List.mem_singleton] at hp
 subst hp
 exact hu.keep ((Below.refl _ _).alloc (Nat.le_refl _) _)
theorem difs_unf (n : Bs) (old new : List Bs) : difs n old new = if (minus old new).length + (minus new old).length = 0 then []
 else if new.length = 0 then [⟨2, n, []⟩]
 else if old.length = 0 then [⟨1, n, new⟩]
 else if (minus old new).length = old.length then [⟨3, n, new⟩]
 else (if 0 < (minus old new).length then [⟨2, n, minus old new⟩] else []) ++ (if 0 < (minus new old).length then [⟨1, n, minus new old⟩] else []) := rfl
theorem minus_len (a b : List Bs) : (minus a b).length ≤ a.length := List.length_filter_le _ _
theorem differences_any (n : Bs) (u v : Value) (old new : List Bs) (base : Nat) (w : World) (hu : StrsV w w.heap.size u old) (hv : CutS w base v new) (hbase : base ≤ w.heap.size) (ho : old.length ≤ 1000000) (hnl : new.length ≤ 1000000) :
  Calls Tryz.prog 69 #[.string (B n), u, v] w fun e w' => ∃ r ps, e = .returned r ∧ ModOwn w' base r ps ∧ ps.map (·.1) = difs n old new ∧ Below w.heap.size w w' := by
 have hM1 := fun W (hW : Below w.heap.size w W) => missing_any u v old new W (SlV.mono (SlV.keep hu hW) hW.size) (hv.keep hW).read ho hnl
 have hM2 := fun W (hW : Below w.heap.size w W) => missing_any v u new old W (hv.keep hW).read (SlV.mono (SlV.keep hu hW) hW.size) hnl ho
 have HR := Lib.hid (difs_unf n old new)
 have hl1 := minus_len old new
 have hl2 := minus_len new old
 obtain ⟨Au, cu, rfl, _⟩ := SlV.shape hu
 obtain ⟨Av, cv, hsv⟩ := hv.shape
 subst hsv
 generalize difs n old new = r at *
 generalize minus old new = less at *
 generalize minus new old = more at *
 go_enter Tryz.func69, Tryz.ntmps69
 go_wp2_with fail
 refine (hM1 w (Below.refl _ _)).mono ?_
 rintro e w1 ⟨v1, rfl, hown1, hb1⟩
 obtain ⟨A1, c1, hv1⟩ := own_shape hown1
 subst hv1
 clear hM1
 go_wp2_with fail
 refine (hM2 w1 hb1).mono ?_
 rintro e w2 ⟨v2, rfl, hown2, hb2⟩
 obtain ⟨A2, c2, hv2⟩ := own_shape hown2
 subst hv2
 have hbw := hb1.trans (hb2.mono hb1.size)
 have hbw9 := hbw.size
 have k1 : CutS w2 w.heap.size _ less := CutS.own (own_below hown1 hb2)
 have k2 : CutS w2 w.heap.size _ more := CutS.own (own_base hown2 hb1.size)
 have kn := hv.keep hbw
 clear hM2 hown1 hown2 hu hv
 have hsum : IntKind.i64.wrap ((less.length : Int) + (more.length : Int)) = (less.length : Int) + (more.length : Int) := IntWalk.i64_in _ (by omega)
 by_cases h0 : less.length + more.length = 0
 ·have hI : ((less.length : Int) + (more.length : Int) == 0) = true := by rw [beq_iff_eq]; omega
  have HF : Hid (r = []) := by show _ = _; rw [HR.out, if_pos h0]
  clear HR h0 k1 k2 kn
  go_wp2_with fail
  go_ret
  exact ⟨_, [], rfl, ModOwn.nil _ _, HF.out.symm, hbw⟩
 have hI : ((less.length : Int) + (more.length : Int) == 0) = false := by rw [beq_eq_false_iff_ne]; omega
 by_cases h1 : new.length = 0
 ·have hI1 : ((new.length : Int) == 0) = true := by rw [beq_iff_eq]; omega
  have HF : Hid (r = [⟨2, n, []⟩]) := by show _ = _; rw [HR.out, if_neg h0, if_pos h1]
  have hfin := mod_one w2 base (by omega) 2 n (.slice none 0 0) [] (CutS.nil _ _)
  clear HR h0 k1 k2 kn h1
  go_wp2_with fail
  go_ret
  exact ⟨_, _, rfl, hfin, HF.out.symm, hbw.alloc hbw9 _⟩
 have hI1 : ((new.length : Int) == 0) = false := by rw [beq_eq_false_iff_ne]; omega
 by_cases h2 : old.length = 0
 ·have hI2 : ((old.length : Int) == 0) = true := by rw [beq_iff_eq]; omega
  have HF : Hid (r = [⟨1, n, new⟩]) := by show _ = _; rw [HR.out, if_neg h0, if_neg h1, if_pos h2]
  have hfin := mod_one w2 base (by omega) 1 n _ new kn
  clear HR h0 k1 k2 kn h1 h2
  go_wp2_with fail
  go_ret
  exact ⟨_, _, rfl, hfin, HF.out.symm, hbw.alloc hbw9 _⟩
 have hI2 : ((old.length : Int) == 0) = false := by rw [beq_eq_false_iff_ne]; omega
 by_cases h3 : less.length = old.length
 ·have hI3 : ((less.length : Int) == (old.length : Int)) = true := by rw [beq_iff_eq]; omega
  have HF : Hid (r = [⟨3, n, new⟩]) := by show _ = _; rw [HR.out, if_neg h0, if_neg h1, if_neg h2, if_pos h3]
  have hfin := mod_one w2 base (by omega) 3 n _ new kn
  clear HR h0 k1 k2 kn h1 h2 h3
  go_wp2_with fail
  go_ret
  exact ⟨_, _, rfl, hfin, HF.out.symm, hbw.alloc hbw9 _⟩
 have hI3 : ((less.length : Int) == (old.length : Int)) = false := by rw [beq_eq_false_iff_ne]; omega
 have HR2 : Hid (r = (if 0 < less.length then [⟨2, n, less⟩] else []) ++ (if 0 < more.length then [⟨1, n, more⟩] else [])) := by show _ = _; rw [HR.out, if_neg h0, if_neg h1, if_neg h2, if_neg h3]
 have N0 := ModOwn.nil w2 w.heap.size
 clear HR kn h0 h1 h2 h3
 by_cases hl : 0 < less.length
 ·have hlI : (0 : Int) < (less.length : Int) := by omega
  by_cases hm : 0 < more.length
  ·have hmI : (0 : Int) < (more.length : Int) := by omega
   have HF : Hid (r = [⟨2, n, less⟩] ++ [⟨1, n, more⟩]) := by show _ = _; rw [HR2.out, if_pos hl, if_pos hm]
   clear HR2 hl hm
   go_wp2_with (at_builtin; refine wpList_push w2 rfl _ _ 38 rfl w.heap.size 59 (.agg #[.int .i64 0, .string ⟨#[]⟩, .slice none 0 0]) 3 48 Tryz.underlying38 info_mod rfl (by decide) _ 0 _ N0.1 rfl [.int .i64 2, .string (B n), .slice A1 less.length c1] rfl rfl (by intro u hu; simp at hu; rcases hu with rfl | rfl | rfl <;> rfl) (by omega) hbw9 ?_ rfl)
   intro v3 w3 hown3 hg3 _ hb3 _
   have hM3 := N0.push (m := ⟨2, n, less⟩) hown3 hg3 k1
   have k3 := k2.grown N0.1 hg3
   obtain ⟨A3, c3, hv3⟩ := own_shape hown3
   subst hv3
   have hb39 : w.heap.size ≤ w3.heap.size := Nat.le_trans hbw9 hb3.size
   clear N0 k1 k2 hown3
   go_wp2_with (at_builtin; refine wpList_push w3 rfl _ _ 38 rfl w.heap.size 59 (.agg #[.int .i64 0, .string ⟨#[]⟩, .slice none 0 0]) 3 48 Tryz.underlying38 info_mod rfl (by decide) _ 1 _ hM3.1 rfl [.int .i64 1, .string (B n), .slice A2 more.length c2] rfl rfl (by intro u hu; simp at hu; rcases hu with rfl | rfl | rfl <;> rfl) (by omega) hb39 ?_ rfl)
   intro v4 w4 hown4 hg4 _ hb4 _
   have hM4 := hM3.push (m := ⟨1, n, more⟩) hown4 hg4 k3
   clear hM3 k3 hown4
   go_wp2
   go_ret
   exact ⟨_, _, rfl, hM4.base hbase, HF.out.symm, (hbw.trans hb3).trans hb4⟩
  ·have hmI : ¬ (0 : Int) < (more.length : Int) := by omega
   have HF : Hid (r = [⟨2, n, less⟩]) := by show _ = _; rw [HR2.out, if_pos hl, if_neg hm]; rfl
   clear HR2 hl hm k2
   go_wp2_with (at_builtin; refine wpList_push w2 rfl _ _ 38 rfl w.heap.size 59 (.agg #[.int .i64 0, .string ⟨#[]⟩, .slice none 0 0]) 3 48 Tryz.underlying38 info_mod rfl (by decide) _ 0 _ N0.1 rfl [.int .i64 2, .string (B n), .slice A1 less.length c1] rfl rfl (by intro u hu; simp at hu; rcases hu with rfl | rfl | rfl <;> rfl) (by omega) hbw9 ?_ rfl)
   intro v3 w3 hown3 hg3 _ hb3 _
   have hM3 := N0.push (m := ⟨2, n, less⟩) hown3 hg3 k1
   clear N0 k1 hown3
   go_wp2
   go_ret
   exact ⟨_, _, rfl, hM3.base hbase, HF.out.symm, hbw.trans hb3⟩
 ·have hlI : ¬ (0 : Int) < (less.length : Int) := by omega
  by_cases hm : 0 < more.length
  ·have hmI : (0 : Int) < (more.length : Int) := by omega
   have HF : Hid (r = [⟨1, n, more⟩]) := by show _ = _; rw [HR2.out, if_neg hl, if_pos hm]; rfl
   clear HR2 hl hm k1
   go_wp2_with (at_builtin; refine wpList_push w2 rfl _ _ 38 rfl w.heap.size 59 (.agg #[.int .i64 0, .string ⟨#[]⟩, .slice none 0 0]) 3 48 Tryz.underlying38 info_mod rfl (by decide) _ 0 _ N0.1 rfl [.int .i64 1, .string (B n), .slice A2 more.length c2] rfl rfl (by intro u hu; simp at hu; rcases hu with rfl | rfl | rfl <;> rfl) (by omega) hbw9 ?_ rfl)
   intro v3 w3 hown3 hg3 _ hb3 _
   have hM3 := N0.push (m := ⟨1, n, more⟩) hown3 hg3 k2
   clear N0 k2 hown3
   go_wp2
   go_ret
   exact ⟨_, _, rfl, hM3.base hbase, HF.out.symm, hbw.trans hb3⟩
  ·have hmI : ¬ (0 : Int) < (more.length : Int) := by omega
   have HF : Hid (r = []) := by show _ = _; rw [HR2.out, if_neg hl, if_neg hm]; rfl
   clear HR2 hl hm k1 k2
   go_wp2
   go_ret
   exact ⟨_, _, rfl, N0.base hbase, HF.out.symm, hbw⟩
end Go.Proofs.YtoopoglkeeoamaaGreatDoor
