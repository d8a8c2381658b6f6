/- Part 39 of the proof that identitylaw08.EntryParses and EntryReturns return true: the package variables hold what the program lays; nothing else is asked. -/
import Derived.Test.YtoopoglkeeoamaaGreatDoorEz04
import Derived.Test.YtoopoglkeeoamaaGreatDoorEz17
import Derived.Test.YtoopoglkeeoamaaGreatDoorEz20
import Derived.Test.YtoopoglkeeoamaaGreatDoorEz27
import Derived.Test.YtoopoglkeeoamaaGreatDoorEz29
import Derived.Test.YtoopoglkeeoamaaGreatDoorEz30
import Derived.Test.YtoopoglkeeoamaaGreatDoorEz37
import Derived.Test.YtoopoglkeeoamaaGreatDoorEz38
import Derived.Lib.LazyBuf
import Derived.ArgAppend
set_option linter.unusedVariables false
set_option linter.unusedSimpArgs false
/- Attributes appended, cloned. -/
namespace Go.Proofs.YtoopoglkeeoamaaGreatDoor
open Go.RowKit Go.Sort
open Idn (L B Bs drop_L take_L size_L)

theorem exL {α : Type} (Q : Nat → α → Prop) : ∀ (n : Nat), (∀ i, i < n → ∃ x, Q i x) → ∃ l : List α, l.length = n ∧ ∀ i x, l[i]? = some x → Q i x
  | 0, _ => ⟨[], rfl, fun i x h => by simp at h⟩
  | n + 1, h => by
    obtain ⟨l, h1, h2⟩ := exL Q n fun i hi => h i (by omega)
    obtain ⟨x, hx⟩ := h n (by omega)
    refine ⟨l ++ [x], by simp [h1], fun i y hy => ?_⟩
    by_cases hi : i < n
    · rw [List.getElem?_append_left (by omega)] at hy
      exact h2 i y hy
    · have hil := (List.getElem?_eq_some_iff.1 hy).1
      simp at hil
      have : i = n := by omega
      subst this
      rw [List.getElem?_append_right (by omega)] at hy
      simp [h1] at hy
      exact hy ▸ hx
theorem rowA_inv (ps : List (Idn.Att × Value)) (j : Nat) (u : Value) (h : (rowA ps)[j]? = some u) : ∃ i p, ps[i]? = some p ∧ ((j = i * 2 ∧ u = sv p.1.name) ∨ (j = i * 2 + 1 ∧ u = p.2)) := by
  have hj := (List.getElem?_eq_some_iff.1 h).1
  rw [rowA_len] at hj
  have hi : j / 2 < ps.length := by omega
  refine ⟨j / 2, ps[j / 2], List.getElem?_eq_getElem hi, ?_⟩
  obtain ⟨r0, r1⟩ := rowA_at ps (j / 2) _ (List.getElem?_eq_getElem hi)
  rcases Nat.mod_two_eq_zero_or_one j with h0 | h0
  · left
    have e : j / 2 * 2 = j := by omega
    rw [e, h] at r0
    exact ⟨e.symm, by injection r0⟩
  · right
    have e : j / 2 * 2 + 1 = j := by omega
    rw [e, h] at r1
    exact ⟨e.symm, by injection r1⟩
/-- attributes that read: their names, their values, cell by cell -/
theorem AttsV.pairs {w : World} {hi : Nat} {A : Option Addr} {n c : Nat} {l : List Idn.Att} (h : AttsV w hi (.slice A n c) l) :
    ∃ ps : List (Idn.Att × Value), ps.map (·.1) = l ∧ (∀ p ∈ ps, StrsV w hi p.2 p.1.vals) ∧ ∀ b off, A = some ⟨b, off, none⟩ → ∀ (j : Nat) u, (rowA ps)[j]? = some u → w.cell? ⟨b, off + j, none⟩ = some u := by
  obtain ⟨ps, h1, h2⟩ := exL (fun i (p : Idn.Att × Value) => l[i]? = some p.1 ∧ StrsV w hi p.2 p.1.vals ∧ ∀ b off, A = some ⟨b, off, none⟩ → w.cell? ⟨b, off + i * 2, none⟩ = some (sv p.1.name) ∧ w.cell? ⟨b, off + i * 2 + 1, none⟩ = some p.2) l.length fun i hil => by
    obtain ⟨b, off, v, hA, hb, c0, c1, hv⟩ := AttsV.cell h hil
    refine ⟨(l[i], v), List.getElem?_eq_getElem hil, hv, fun b' off' e => ?_⟩
    subst hA
    injection e with e
    injection e with e1 e2
    subst e1 e2
    exact ⟨c0, c1⟩
  refine ⟨ps, ?_, fun p hp => ?_, fun b off hA j u hj => ?_⟩
  · apply List.ext_getElem?
    intro i
    rw [List.getElem?_map]
    by_cases hi' : i < ps.length
    · have := (h2 i _ (List.getElem?_eq_getElem hi')).1
      rw [List.getElem?_eq_getElem hi', this]; rfl
    · rw [List.getElem?_eq_none (by omega), List.getElem?_eq_none (by omega)]; rfl
  · obtain ⟨i, hi', rfl⟩ := List.getElem_of_mem hp
    exact (h2 i _ (List.getElem?_eq_getElem hi')).2.1
  · obtain ⟨i, p, hp, hx⟩ := rowA_inv ps j u hj
    obtain ⟨x0, x1⟩ := (h2 i p hp).2.2 b off hA
    rcases hx with ⟨rfl, rfl⟩ | ⟨rfl, rfl⟩
    · exact x0
    · rw [← Nat.add_assoc]; exact x1
def PsV (w : World) (hi : Nat) (ps : List (Idn.Att × Value)) : Prop := ∀ p ∈ ps, StrsV w hi p.2 p.1.vals
theorem rowA_one {ps : List (Idn.Att × Value)} (h : ∀ p ∈ ps, ∃ A n c, p.2 = .slice A n c) : ∀ u ∈ rowA ps, u.oneCell' = true := by
  intro u hu
  unfold rowA at hu
  obtain ⟨p, hp, hu⟩ := List.mem_flatMap.1 hu
  obtain ⟨A, n, c, e⟩ := h p hp
  simp at hu
  rcases hu with rfl | rfl
  · rfl
  · rw [e]; rfl
section
variable {w : World} {ops : Array Oper} {rest : List Oper} {o : Oper} {a : Act} {Q : Exit → Act → World → Prop}
/-- 'append(out, l...)' at attributes -/
theorem wpList_appendA (hgd : o.guard = none) (s x : Operand) (ho : o.op = .call { callee := .builtin .append, args := #[s, x], argTypes := #[22, 22] })
    (base : Nat) (v : Value) (n : Nat) (xs : List Value) (hown : w.ownsRow base 48 2 v n xs) (hs : a.eval s = v) (u : Value) (l : List Idn.Att) (hi : Nat) (hu : AttsV w hi u l) (hx : a.eval x = u)
    (hn : (n + l.length) * 41 ≤ 140737488355328) (hbase : base ≤ w.heap.size)
    (hK : ∀ v' w' ps, Hid (ps.map (·.1) = l) → PsV w hi ps → w'.ownsRow base 48 2 v' (n + l.length) (xs ++ rowA ps) → Below base w w' → w.grownBy w' v.ownBlock → wpList Tryz.prog ops Q rest (a.put o.dst v') w') : wpList Tryz.prog ops Q (o :: rest) a w := by
  obtain ⟨i, hi', hz0, hz1, hz2⟩ := info_parts info_attr
  obtain ⟨A, c, rfl, hc⟩ := SlV.shape hu
  obtain ⟨ps, p1, p2, p3⟩ := AttsV.pairs hu
  by_cases hl : l.length = 0
  · have hl0 : l = [] := List.eq_nil_of_length_eq_zero hl
    subst hl0
    have hp0 : ps = [] := List.map_eq_nil_iff.1 p1
    subst hp0
    refine wpList_plain hgd fun K hK' => ?_
    have hrun := run_append_nilsrc (P := Tryz.prog) (w := w) base 22 o.type 48 i 2 Tryz.underlying22 hi' v n xs hown A c
    unfold Oper.wp execOp
    simp only [List.length_nil] at hx
    simp only [ho, resolve, invoke, builtin, Sem.run_bind, Sem.run_pure, Result.andThen_ok, List.map_toArray, List.map_cons, List.map_nil, hs, hx, hrun]
    exact hK' _ _ (hK v w [] rfl p2 (by simpa [rowA] using hown) (Below.refl _ _) (World.grownBy.refl w _))
  · obtain ⟨b, off, hA, _, _⟩ := hu.at_ (k := 0) (by omega)
    subst hA
    have hpl : ps.length = l.length := by rw [← p1, List.length_map]
    refine wpList_append_own_at _ hgd s x 22 ho base 48 i (.agg #[.string ⟨#[]⟩, .slice none 0 0]) 2 40 Tryz.underlying22 hi' hz0 hz1 hz2 rfl (by decide) v n xs hs hown ⟨b, off, none⟩ l.length c (rowA ps) hx (by rw [rowA_len, hpl]) ?_ ?_ (by unfold maxLen; omega) (by omega) hbase ?_
    · intro j q hj
      have hadd : (⟨b, off, none⟩ : Addr).add j = ⟨b, off + j, none⟩ := by unfold Addr.add; split <;> simp_all
      rw [hadd]
      exact p3 b off rfl j q hj
    · exact rowA_one fun p hp => by
        obtain ⟨A', c', e, _⟩ := (p2 p hp).shape
        exact ⟨A', _, c', e⟩
    · intro v' w' hown' hg _ hat
      exact hK v' w' ps p1 p2 hown' ((Below.refl base w).grown hg hbase (fun k hk => (hown.lt k hk).1)) hg
end
set_option maxRecDepth 100000 in
theorem cloneA_any (v : Value) (l : List Idn.Att) (w : World) (hv : AttsV w w.heap.size v l) (hl : l.length ≤ 1000000) :
    Calls Tryz.prog 45 #[v] w fun e w' => ∃ v' ps, e = .returned v' ∧ RowV w' w.heap.size v' ps ∧ ps.map (·.1) = l ∧ (∀ p ∈ ps, StrsV w' w.heap.size p.2 p.1.vals) ∧ Below w.heap.size w w' := by
  obtain ⟨A, c, rfl, hc⟩ := SlV.shape hv
  have hnil := fun W => Lib.run_eql_slice_nil (P := Tryz.prog) W 22 48 A l.length c 0 0 Tryz.underlying22
  cases A with
  | none =>
    have hl0 : l = [] := by
      cases l with
      | nil => rfl
      | cons a l =>
        obtain ⟨b, off, hA, _⟩ := SlV.at_ hv (k := 0) (by simp)
        cases hA
    subst hl0
    replace hnil : ∀ W, (binOp .eql 22 (.slice none 0 c) (.slice none 0 0)).run Tryz.prog W = .ok (.bool true) W := hnil
    go_enter Tryz.func45, Tryz.ntmps45
    go_wp2
    go_ret
    exact ⟨_, [], rfl, ⟨World.ownsRow_nil _ _ _ _, by simp⟩, rfl, by simp, Below.refl _ _⟩
  | some ad =>
    replace hnil : ∀ W, (binOp .eql 22 (.slice (some ad) l.length c) (.slice none 0 0)).run Tryz.prog W = .ok (.bool false) W := hnil
    have ba := (Below.refl w.heap.size w).alloc (Nat.le_refl _) (.cells #[] 48)
    have hlit := World.ownsRow_lit (base := w.heap.size) (e := 48) (size := 2) w #[] 0 (Nat.le_refl _) (by decide) rfl
    have hva := AttsV.keep hv ba
    go_enter Tryz.func45, Tryz.ntmps45
    go_wp2_with (at_builtin; refine wpList_appendA rfl _ _ rfl w.heap.size _ 0 [] hlit rfl _ l w.heap.size hva rfl (by omega) ba.size ?_)
    intro v' w' ps P1 P2 hown hb _
    go_wp2
    go_ret
    have p1 := P1.out
    have p2 : ∀ p ∈ ps, StrsV (w.alloc (.cells #[] 48)) w.heap.size p.2 p.1.vals := P2
    have hpl : ps.length = l.length := by rw [← p1, List.length_map]
    refine ⟨_, ps, rfl, ⟨by first | (rw [Nat.zero_add, ← hpl] at hown; exact hown) | (rw [← hpl] at hown; exact hown), fun p hp => ?_⟩, p1, fun p hp => SlV.keep (p2 p hp) hb, ba.trans hb⟩
    obtain ⟨A', c', e, _⟩ := (p2 p hp).shape
    exact ⟨A', c', e⟩
end Go.Proofs.YtoopoglkeeoamaaGreatDoor
/- entry: Normal. -/
namespace Go.Proofs.YtoopoglkeeoamaaGreatDoor
open Go.RowKit Go.Sort
open Idn (L B Bs drop_L take_L size_L)
theorem gen3 {R : World → Prop} {w : World} {C1 C2 C3 : Array Value} {t1 t2 t3 : TypeId}
    (h : ∀ W, Below w.heap.size w W → W.heap.size = w.heap.size + 3 → (∀ (i : Nat) (v : Value), C1[i]? = some v → W.cell? ⟨w.heap.size, i, none⟩ = some v) → (∀ (i : Nat) (v : Value), C2[i]? = some v → W.cell? ⟨w.heap.size + 1, i, none⟩ = some v) → (∀ (i : Nat) (v : Value), C3[i]? = some v → W.cell? ⟨w.heap.size + 1 + 1, i, none⟩ = some v) → (∀ i, W.frozen? ⟨w.heap.size + 1 + 1, i, none⟩ = false) → R W) : R (((w.alloc (.cells C1 t1)).alloc (.cells C2 t2)).alloc (.cells C3 t3)) := by
  have e1 : (w.alloc (.cells C1 t1)).heap.size = w.heap.size + 1 := by simp
  have e2 : ((w.alloc (.cells C1 t1)).alloc (.cells C2 t2)).heap.size = w.heap.size + 1 + 1 := by simp
  have hnew : (((w.alloc (.cells C1 t1)).alloc (.cells C2 t2)).alloc (.cells C3 t3)).heap[w.heap.size + 1 + 1]? = some (.cells C3 t3 (0, 0)) := by
    rw [← e2]; exact heap_alloc_new _ _
  refine h _ ((((Below.refl _ _).alloc (Nat.le_refl _) _).alloc (by simp) _).alloc (by simp; omega) _) (by simp) (fun i v hv => ?_) (fun i v hv => ?_) (fun i v hv => ?_) (fun i => ?_)
  · have hold : (((w.alloc (.cells C1 t1)).alloc (.cells C2 t2)).alloc (.cells C3 t3)).heap[w.heap.size]? = some (.cells C1 t1 (0, 0)) := by
      rw [Below.heap_alloc _ _ _ (by rw [e2]; omega), Below.heap_alloc _ _ _ (by rw [e1]; omega)]; exact heap_alloc_new w _
    rw [cell_of_row _ w.heap.size i C1 t1 (0, 0) hold]; exact hv
  · have hold : (((w.alloc (.cells C1 t1)).alloc (.cells C2 t2)).alloc (.cells C3 t3)).heap[w.heap.size + 1]? = some (.cells C2 t2 (0, 0)) := by
      rw [Below.heap_alloc _ _ _ (by rw [e2]; omega), ← e1]; exact heap_alloc_new _ _
    rw [cell_of_row _ (w.heap.size + 1) i C2 t2 (0, 0) hold]; exact hv
  · rw [cell_of_row _ (w.heap.size + 1 + 1) i C3 t3 (0, 0) hnew]; exact hv
  · exact Lib.frozen_of_heap hnew i
theorem eAttsK_step (s : Idn.Sch) (l : List Idn.Att) (k : Nat) (hk : k < l.length) (acc : List Idn.Att) (r : List Idn.Att × Int) (h : r = eAttsK s acc (l.drop k)) :
    ((eVals s l[k].name l[k].vals).2 ≠ 0 → r = ([], (eVals s l[k].name l[k].vals).2)) ∧ ((eVals s l[k].name l[k].vals).2 = 0 → dupK [] (eVals s l[k].name l[k].vals).1 = true → r = ([], 7)) ∧
      ((eVals s l[k].name l[k].vals).2 = 0 → dupK [] (eVals s l[k].name l[k].vals).1 = false → r = eAttsK s (acc ++ [⟨l[k].name, (eVals s l[k].name l[k].vals).1⟩]) (l.drop (k + 1))) := by
  rw [List.drop_eq_getElem_cons hk, eAttsK] at h
  refine ⟨fun a => ?_, fun a b => ?_, fun a b => ?_⟩
  · have e : eAtt s l[k].name l[k].vals = ([], (eVals s l[k].name l[k].vals).2) := by unfold eAtt; rw [if_pos (by simpa using a)]
    rw [h, e, if_pos (by simpa using a)]
  · have e : eAtt s l[k].name l[k].vals = ([], 7) := by unfold eAtt; rw [if_neg (by simpa using a), if_pos b]
    rw [h, e, if_pos (by decide)]
  · have e : eAtt s l[k].name l[k].vals = ((eVals s l[k].name l[k].vals).1, 0) := by unfold eAtt; rw [if_neg (by simpa using a), if_neg (by simpa using b)]
    rw [h, e, if_neg (by simp)]
theorem AttOwn.add {w w' : World} {base : Nat} {v v' u : Value} {ps : List (Idn.Att × Value)} {n : Bs} {vals : List Bs} (h : AttOwn w base v ps) (hown : w'.ownsRow base 48 2 v' (ps.length + 1) (rowA ps ++ [sv n, u])) (hg : w.grownBy w' v.ownBlock) (hu : w.ownsRow base 9 1 u vals.length (vals.map sv))
    (hap : ∀ p ∈ ps, ∀ g, u.ownBlock = some g → p.2.ownBlock ≠ some g) : AttOwn w' base v' (ps ++ [(⟨n, vals⟩, u)]) := by
  refine ⟨?_, ?_, ?_⟩
  · rw [List.length_append, rowA, List.flatMap_append]; exact hown
  · intro p hp
    rcases List.mem_append.1 hp with hp | hp
    · exact own_kept (h.2.1 p hp) hg fun g h1 h2 => own_apart h.1 (h.2.1 p hp) (by decide) g h2 h1
    · simp at hp; subst hp
      exact own_kept hu hg fun g h1 h2 => own_apart h.1 hu (by decide) g h2 h1
  · rw [List.pairwise_append]
    refine ⟨h.2.2, by simp, fun p hp q hq g hg' hx => ?_⟩
    simp at hq; subst hq
    exact hap p hp g hx hg'
theorem AttOwn.apart_box {w : World} {base : Nat} {v : Value} {ps : List (Idn.Att × Value)} (h : AttOwn w base v ps) (q j : Nat) (x : Value) (hq : q < base) : AttOwn (w.setCell ⟨q, j, none⟩ x) base v ps :=
  ⟨ownsRow_setCell_other h.1 (a := ⟨q, j, none⟩) (fun e => by have := (h.1.lt q e).1; omega) x,
   fun p hp => ownsRow_setCell_other (h.2.1 p hp) (a := ⟨q, j, none⟩) (fun e => by have := ((h.2.1 p hp).lt q e).1; omega) x, h.2.2⟩
theorem AttOwn.base {w : World} {base base' : Nat} {v : Value} {ps : List (Idn.Att × Value)} (h : AttOwn w base v ps) (hb : base' ≤ base) : AttOwn w base' v ps :=
  ⟨own_base h.1 hb, fun p hp => own_base (h.2.1 p hp) hb, h.2.2⟩
/-- a row of attributes with their values wherever they lie, as attributes that read -/
theorem RowV.atts {w : World} {base : Nat} {v : Value} {ps : List (Idn.Att × Value)} {l : List Idn.Att} (h : RowV w base v ps) (hl : ps.map (·.1) = l) (hv : ∀ p ∈ ps, StrsV w w.heap.size p.2 p.1.vals) : AttsV w w.heap.size v l := by
  subst hl
  have h0 := h.1
  rw [show ps.length = (ps.map (·.1)).length by simp] at h0
  refine SlV.own h0 fun i x hx => ?_
  rw [List.getElem?_map] at hx
  obtain ⟨p, hp, rfl⟩ := Option.map_eq_some_iff.1 hx
  obtain ⟨e1, e2⟩ := rowA_at ps i p hp
  refine ⟨[sv p.1.name, p.2], rfl, ⟨p.2, rfl, hv p (List.mem_of_getElem? hp)⟩, fun j u hj => ?_⟩
  match j, hj with
  | 0, hj => simp at hj; subst hj; exact e1
  | 1, hj => simp at hj; subst hj; exact e2
end Go.Proofs.YtoopoglkeeoamaaGreatDoor
/- What calls hand back: attributes, entries, in rows of the call's own. -/
namespace Go.Proofs.YtoopoglkeeoamaaGreatDoor
open Go.RowKit Go.Sort
open Idn (L B Bs)
/-- what a call hands back: attributes of its own and an error -/
def RetA (w : World) (r : List Idn.Att × Int) (e : Ending) (w' : World) : Prop :=
  ∃ v ps, e = .returned (.tuple #[v, .int .i64 r.2]) ∧ AttOwn w' w.heap.size v ps ∧ ps.map (·.1) = r.1 ∧ Below w.heap.size w w'
/-- an entry of its own and an error -/
def RetE (w : World) (r : En × Int) (e : Ending) (w' : World) : Prop :=
  ∃ a ps, e = .returned (.tuple #[.agg #[.string (B r.1.1), a], .int .i64 r.2]) ∧ AttOwn w' w.heap.size a ps ∧ ps.map (·.1) = r.1.2 ∧ Below w.heap.size w w'
end Go.Proofs.YtoopoglkeeoamaaGreatDoor
/- A row of modifications of the call's own, whose values lie in rows of the call's own. -/
namespace Go.Proofs.YtoopoglkeeoamaaGreatDoor
open Go.RowKit Go.Sort
open Idn (L B Bs)
def rowM (ps : List (Md × Value)) : List Value := ps.flatMap fun p => [.int .i64 p.1.op, sv p.1.name, p.2]
theorem rowM_len (ps : List (Md × Value)) : (rowM ps).length = ps.length * 3 := by
  induction ps with
  | nil => rfl
  | cons q ps ih => show (Value.int .i64 q.1.op :: sv q.1.name :: q.2 :: rowM ps).length = _; simp [ih]; omega
theorem rowM_app (ps qs : List (Md × Value)) : rowM (ps ++ qs) = rowM ps ++ rowM qs := by unfold rowM; rw [List.flatMap_append]
theorem rowM_at : ∀ (ps : List (Md × Value)) (i : Nat) (p : Md × Value), ps[i]? = some p → (rowM ps)[i * 3]? = some (.int .i64 p.1.op) ∧ (rowM ps)[i * 3 + 1]? = some (sv p.1.name) ∧ (rowM ps)[i * 3 + 2]? = some p.2
  | [], i, p, h => by simp at h
  | q :: ps, 0, p, h => by simp at h; subst h; exact ⟨rfl, rfl, rfl⟩
  | q :: ps, i + 1, p, h => by
    have ih := rowM_at ps i p (by simpa using h)
    have e : rowM (q :: ps) = .int .i64 q.1.op :: sv q.1.name :: q.2 :: rowM ps := rfl
    have h1 : ∀ k, (rowM (q :: ps))[k + 1 + 1 + 1]? = (rowM ps)[k]? := fun k => by rw [e, List.getElem?_cons_succ, List.getElem?_cons_succ, List.getElem?_cons_succ]
    refine ⟨?_, ?_, ?_⟩
    · rw [show (i + 1) * 3 = i * 3 + 1 + 1 + 1 by omega, h1]; exact ih.1
    · rw [show (i + 1) * 3 + 1 = (i * 3 + 1) + 1 + 1 + 1 by omega, h1]; exact ih.2.1
    · rw [show (i + 1) * 3 + 2 = (i * 3 + 2) + 1 + 1 + 1 by omega, h1]; exact ih.2.2
theorem own_apart2 {w : World} {base base' : Nat} {e e' : TypeId} {size size' : Nat} {v v' : Value} {n n' : Nat} {xs xs' : List Value} (h : w.ownsRow base e size v n xs) (h' : w.ownsRow base' e' size' v' n' xs') (hne : e ≠ e') : ∀ g, v.ownBlock = some g → v'.ownBlock ≠ some g := by
  rcases h.2 with ⟨rfl, _⟩ | ⟨g1, cap, cur, rfl, _, hg, _⟩
  · intro g hg; simp [Value.ownBlock] at hg
  · rcases h'.2 with ⟨rfl, _⟩ | ⟨g2, cap2, cur2, rfl, _, hg2, _⟩
    · intro g _; simp [Value.ownBlock]
    · intro g h1 h2
      simp [Value.ownBlock] at h1 h2
      subst h1 h2
      rw [hg] at hg2
      injection hg2 with hg2
      injection hg2 with _ ht
      exact hne ht
theorem own_open {w : World} {base : Nat} {e : TypeId} {size n n' c : Nat} {A : Option Addr} {xs : List Value} (h : w.ownsRow base e size (.slice A n c) n' xs) (hpos : 0 < n') : ∃ g, A = some ⟨g, 0, none⟩ ∧ ∀ (j : Nat) u, xs[j]? = some u → w.cell? ⟨g, j, none⟩ = some u := by
  rcases id h.2 with ⟨_, hn⟩ | ⟨g, cap, cur, hv, _⟩
  · omega
  · injection hv with h1 h2 h3
    subst h1 h2 h3
    exact ⟨g, rfl, (own_cell h).1⟩
/-- a row of strings that the call owns, its capacity cut or not -/
def CutS (w : World) (base : Nat) (v : Value) (l : List Bs) : Prop := ∃ A c c', v = .slice A l.length c' ∧ l.length ≤ c' ∧ w.ownsRow base 9 1 (.slice A l.length c) l.length (l.map sv)
theorem CutS.nil (w : World) (base : Nat) : CutS w base (.slice none 0 0) [] := ⟨none, 0, 0, rfl, Nat.le_refl _, World.ownsRow_nil _ _ _ _⟩
theorem CutS.shape {w : World} {base : Nat} {v : Value} {l : List Bs} (h : CutS w base v l) : ∃ A c, v = .slice A l.length c := by
  obtain ⟨A, _, c', e, _⟩ := h
  exact ⟨A, c', e⟩
theorem CutS.read {w : World} {base : Nat} {v : Value} {l : List Bs} (h : CutS w base v l) : StrsV w w.heap.size v l := by
  obtain ⟨A, c, c', rfl, hc, ho⟩ := h
  obtain ⟨A', c2, e, _, hx⟩ := StrsV.of_own ho
  injection e with e1 e2 e3
  subst e1
  exact ⟨_, c', rfl, hc, hx⟩
theorem CutS.own {w : World} {base : Nat} {v : Value} {l : List Bs} (h : w.ownsRow base 9 1 v l.length (l.map sv)) : CutS w base v l := by
  obtain ⟨A, c, rfl⟩ := own_shape h
  obtain ⟨A', c', e, hc, _⟩ := StrsV.of_own h
  injection e with e1 e2 e3
  subst e3
  exact ⟨A, c, c, rfl, hc, h⟩
theorem CutS.keep {w w' : World} {base : Nat} {v : Value} {l : List Bs} (h : CutS w base v l) (hb : Below w.heap.size w w') : CutS w' base v l := by
  obtain ⟨A, c, c', e, hc, ho⟩ := h
  exact ⟨A, c, c', e, hc, own_below ho hb⟩
theorem CutS.base {w : World} {base base' : Nat} {v : Value} {l : List Bs} (h : CutS w base v l) (hb : base' ≤ base) : CutS w base' v l := by
  obtain ⟨A, c, c', e, hc, ho⟩ := h
  exact ⟨A, c, c', e, hc, own_base ho hb⟩
theorem CutS.grown {w w' : World} {base b2 : Nat} {v u : Value} {l : List Bs} {n : Nat} {xs : List Value} (h : CutS w base v l) (hm : w.ownsRow b2 59 3 u n xs) (hg : w.grownBy w' u.ownBlock) : CutS w' base v l := by
  obtain ⟨A, c, c', e, hc, ho⟩ := h
  exact ⟨A, c, c', e, hc, own_kept ho hg fun g h1 h2 => own_apart2 hm ho (by decide) g h2 h1⟩
def ModOwn (w : World) (base : Nat) (v : Value) (ps : List (Md × Value)) : Prop :=
  w.ownsRow base 59 3 v ps.length (rowM ps) ∧ ∀ p ∈ ps, CutS w base p.2 p.1.vals
theorem ModOwn.nil (w : World) (base : Nat) : ModOwn w base (.slice none 0 0) [] := ⟨World.ownsRow_nil _ _ _ _, by simp⟩
theorem ModOwn.keep {w w' : World} {base : Nat} {v : Value} {ps : List (Md × Value)} (h : ModOwn w base v ps) (hb : Below w.heap.size w w') : ModOwn w' base v ps :=
  ⟨own_below h.1 hb, fun p hp => (h.2 p hp).keep hb⟩
theorem ModOwn.base {w : World} {base base' : Nat} {v : Value} {ps : List (Md × Value)} (h : ModOwn w base v ps) (hb : base' ≤ base) : ModOwn w base' v ps :=
  ⟨own_base h.1 hb, fun p hp => (h.2 p hp).base hb⟩
theorem ModOwn.push {w w' : World} {base : Nat} {v v' u : Value} {ps : List (Md × Value)} {m : Md} (h : ModOwn w base v ps) (hown : w'.ownsRow base 59 3 v' (ps.length + 1) (rowM ps ++ [.int .i64 m.op, sv m.name, u])) (hg : w.grownBy w' v.ownBlock) (hu : CutS w base u m.vals) : ModOwn w' base v' (ps ++ [(m, u)]) := by
  refine ⟨?_, fun p hp => ?_⟩
  · rw [List.length_append, rowM_app]; exact hown
  · rcases List.mem_append.1 hp with hp | hp
    · exact (h.2 p hp).grown h.1 hg
    · rw [List.mem_singleton] at hp; subst hp; exact hu.grown h.1 hg
theorem ModOwn.mods {w : World} {base : Nat} {v : Value} {ps : List (Md × Value)} {l : List Md} (h : ModOwn w base v ps) (hl : ps.map (·.1) = l) : ModsV w w.heap.size v l := by
  subst hl
  have h0 := h.1
  rw [show ps.length = (ps.map (·.1)).length by simp] at h0
  refine SlV.own h0 fun i x hx => ?_
  rw [List.getElem?_map] at hx
  obtain ⟨p, hp, rfl⟩ := Option.map_eq_some_iff.1 hx
  obtain ⟨e0, e1, e2⟩ := rowM_at ps i p hp
  refine ⟨[.int .i64 p.1.op, sv p.1.name, p.2], rfl, ⟨p.2, rfl, (h.2 p (List.mem_of_getElem? hp)).read⟩, fun j u hj => ?_⟩
  match j, hj with
  | 0, hj => simp at hj; subst hj; exact e0
  | 1, hj => simp at hj; subst hj; exact e1
  | 2, hj => simp at hj; subst hj; exact e2
theorem info_mod : (Tryz.prog.info? 59).map (fun i => (i.zero, i.size, i.bytes)) = some (some (.agg #[.int .i64 0, .string ⟨#[]⟩, .slice none 0 0]), 3, 48) := by kernel_rfl
theorem run_appendM {w : World} (ty : TypeId) (base : Nat) (v : Value) (ps : List (Md × Value)) (hown : ModOwn w base v ps) (u : Value) (qs : List (Md × Value)) (hu : ModOwn w base u qs)
    (hn : (ps.length + qs.length) * 49 ≤ 140737488355328) (hbase : base ≤ w.heap.size) :
    ∃ v' w', (Builtin.append_ #[38, 38] ty #[v, u]).run Tryz.prog w = .ok v' w' ∧ ModOwn w' base v' (ps ++ qs) ∧ Below base w w' ∧ w.grownBy w' v.ownBlock := by
  obtain ⟨i, hi', hz0, hz1, hz2⟩ := info_parts info_mod
  by_cases hl : qs.length = 0
  · have hq0 : qs = [] := List.eq_nil_of_length_eq_zero hl
    subst hq0
    obtain ⟨A, c, rfl⟩ := own_shape hu.1
    exact ⟨v, w, run_append_nilsrc (P := Tryz.prog) (w := w) base 38 ty 59 i 3 Tryz.underlying38 hi' v ps.length (rowM ps) hown.1 A c, by rw [List.append_nil]; exact hown, Below.refl _ _, World.grownBy.refl w _⟩
  · obtain ⟨A, c, hA⟩ := own_shape hu.1
    subst hA
    rcases hu.1.2 with ⟨hn0, hn1⟩ | ⟨g, cap, cur, hv, hbg, hgg, _⟩
    · exact absurd hn1 hl
    injection hv with hv1 hv2 hv3
    subst hv1
    have hcell := own_cell hu.1
    obtain ⟨v', w', hrun, h2, h3, _, h5⟩ := run_append_own_at (P := Tryz.prog) w base 38 ty 59 i (.agg #[.int .i64 0, .string ⟨#[]⟩, .slice none 0 0]) 3 48 Tryz.underlying38 hi' hz0 hz1 hz2 rfl (by decide) v ps.length (rowM ps) hown.1 ⟨g, 0, none⟩ qs.length c (rowM qs) (by rw [rowM_len]) (by
      intro j q hj
      have hadd : (⟨g, 0, none⟩ : Addr).add j = ⟨g, j, none⟩ := by unfold Addr.add; split <;> simp_all
      rw [hadd]
      exact hcell.1 j q hj) (by
      intro q hq
      unfold rowM at hq
      obtain ⟨p, hp, hq⟩ := List.mem_flatMap.1 hq
      obtain ⟨A', c', e⟩ := (hu.2 p hp).shape
      simp at hq
      rcases hq with rfl | rfl | rfl
      · rfl
      · rfl
      · rw [e]; rfl) (by unfold maxLen; omega) (by omega) hbase
    refine ⟨v', w', hrun, ⟨by rw [List.length_append, rowM_app]; exact h2, fun p hp => ?_⟩, (Below.refl base w).grown h3 hbase (fun k hk => (hown.1.lt k hk).1), h3⟩
    rcases List.mem_append.1 hp with hp | hp
    · exact (hown.2 p hp).grown hown.1 h3
    · exact (hu.2 p hp).grown hown.1 h3
theorem step_appendM {ops : Array Oper} {o : Oper} {a : Act} {w : World} {K : Act → World → Prop} {Q : Exit → Act → World → Prop} {E : Prop}
    (hgd : o.guard = none) (s x : Operand) (ho : o.op = .call { callee := .builtin .append, args := #[s, x], argTypes := #[38, 38] })
    (base : Nat) (v : Value) (ps : List (Md × Value)) (hown : ModOwn w base v ps) (hs : a.eval s = v) (u : Value) (qs : List (Md × Value)) (hu : ModOwn w base u qs) (hx : a.eval x = u)
    (hn : (ps.length + qs.length) * 49 ≤ 140737488355328) (hbase : base ≤ w.heap.size)
    (hK : ∀ v' w', ModOwn w' base v' (ps ++ qs) → Below base w w' → w.grownBy w' v.ownBlock → K (a.put o.dst v') w') :
    if Region.wanted o (yielded ops a.tmps) = true then Oper.wp Tryz.prog o a w K Q else E := by
  have hw : Region.wanted o (yielded ops a.tmps) = true := by simp [Region.wanted, hgd]
  rw [if_pos hw]
  obtain ⟨v', w', hrun, h1, h2, h3⟩ := run_appendM o.type base v ps hown u qs hu hn hbase
  unfold Oper.wp execOp
  simp only [ho, resolve, invoke, builtin, Sem.run_bind, Sem.run_pure, Result.andThen_ok, List.map_toArray, List.map_cons, List.map_nil, hs, hx, hrun]
  exact hK v' w' h1 h2 h3
end Go.Proofs.YtoopoglkeeoamaaGreatDoor
/- entry: differences, walked. -/
namespace Go.Proofs.YtoopoglkeeoamaaGreatDoor
open Go.RowKit Go.Sort
open Idn (L B Bs drop_L take_L size_L)
theorem mod_one (w : World) (base : Nat) (hb : base ≤ w.heap.size) (op : Int) (n : Bs) (u : Value) (vals : List Bs) (hu : CutS w base u vals) :
    ModOwn (w.alloc (.cells #[.int .i64 op, .string (B n), u] 59)) base (.slice (some ⟨w.heap.size, 0, none⟩) 1 1) [(⟨op, n, vals⟩, u)] := by
  refine ⟨World.ownsRow_lit (base := base) (e := 59) (size := 3) w #[.int .i64 op, .string (B n), u] 1 hb (by decide) rfl, fun p hp => ?_⟩
  rw [List.mem_singleton] at hp
  subst hp
  exact hu.keep ((Below.refl _ _).alloc (Nat.le_refl _) _)
theorem difs_unf (n : Bs) (old new : List Bs) : difs n old new = if (minus old new).length + (minus new old).length = 0 then []
  else if new.length = 0 then [⟨2, n, []⟩]
  else if old.length = 0 then [⟨1, n, new⟩]
  else if (minus old new).length = old.length then [⟨3, n, new⟩]
  else (if 0 < (minus old new).length then [⟨2, n, minus old new⟩] else []) ++ (if 0 < (minus new old).length then [⟨1, n, minus new old⟩] else []) := rfl
theorem minus_len (a b : List Bs) : (minus a b).length ≤ a.length := List.length_filter_le _ _
set_option maxHeartbeats 2000000 in
set_option maxRecDepth 100000 in
theorem differences_any (n : Bs) (u v : Value) (old new : List Bs) (base : Nat) (w : World) (hu : StrsV w w.heap.size u old) (hv : CutS w base v new) (hbase : base ≤ w.heap.size) (ho : old.length ≤ 1000000) (hnl : new.length ≤ 1000000) :
    Calls Tryz.prog 69 #[.string (B n), u, v] w fun e w' => ∃ r ps, e = .returned r ∧ ModOwn w' base r ps ∧ ps.map (·.1) = difs n old new ∧ Below w.heap.size w w' := by
  have hM1 := fun W (hW : Below w.heap.size w W) => missing_any u v old new W (SlV.mono (SlV.keep hu hW) hW.size) (hv.keep hW).read ho hnl
  have hM2 := fun W (hW : Below w.heap.size w W) => missing_any v u new old W (hv.keep hW).read (SlV.mono (SlV.keep hu hW) hW.size) hnl ho
  have HR := Lib.hid (difs_unf n old new)
  have hl1 := minus_len old new
  have hl2 := minus_len new old
  obtain ⟨Au, cu, rfl, _⟩ := SlV.shape hu
  obtain ⟨Av, cv, hsv⟩ := hv.shape
  subst hsv
  generalize difs n old new = r at *
  generalize minus old new = less at *
  generalize minus new old = more at *
  go_enter Tryz.func69, Tryz.ntmps69
  go_wp2_with fail
  refine (hM1 w (Below.refl _ _)).mono ?_
  rintro e w1 ⟨v1, rfl, hown1, hb1⟩
  obtain ⟨A1, c1, hv1⟩ := own_shape hown1
  subst hv1
  clear hM1
  go_wp2_with fail
  refine (hM2 w1 hb1).mono ?_
  rintro e w2 ⟨v2, rfl, hown2, hb2⟩
  obtain ⟨A2, c2, hv2⟩ := own_shape hown2
  subst hv2
  have hbw := hb1.trans (hb2.mono hb1.size)
  have hbw9 := hbw.size
  have k1 : CutS w2 w.heap.size _ less := CutS.own (own_below hown1 hb2)
  have k2 : CutS w2 w.heap.size _ more := CutS.own (own_base hown2 hb1.size)
  have kn := hv.keep hbw
  clear hM2 hown1 hown2 hu hv
  have hsum : IntKind.i64.wrap ((less.length : Int) + (more.length : Int)) = (less.length : Int) + (more.length : Int) := IntWalk.i64_in _ (by omega)
  by_cases h0 : less.length + more.length = 0
  · have hI : ((less.length : Int) + (more.length : Int) == 0) = true := by rw [beq_iff_eq]; omega
    have HF : Hid (r = []) := by show _ = _; rw [HR.out, if_pos h0]
    clear HR h0 k1 k2 kn
    go_wp2_with fail
    go_ret
    exact ⟨_, [], rfl, ModOwn.nil _ _, HF.out.symm, hbw⟩
  have hI : ((less.length : Int) + (more.length : Int) == 0) = false := by rw [beq_eq_false_iff_ne]; omega
  by_cases h1 : new.length = 0
  · have hI1 : ((new.length : Int) == 0) = true := by rw [beq_iff_eq]; omega
    have HF : Hid (r = [⟨2, n, []⟩]) := by show _ = _; rw [HR.out, if_neg h0, if_pos h1]
    have hfin := mod_one w2 base (by omega) 2 n (.slice none 0 0) [] (CutS.nil _ _)
    clear HR h0 k1 k2 kn h1
    go_wp2_with fail
    go_ret
    exact ⟨_, _, rfl, hfin, HF.out.symm, hbw.alloc hbw9 _⟩
  have hI1 : ((new.length : Int) == 0) = false := by rw [beq_eq_false_iff_ne]; omega
  by_cases h2 : old.length = 0
  · have hI2 : ((old.length : Int) == 0) = true := by rw [beq_iff_eq]; omega
    have HF : Hid (r = [⟨1, n, new⟩]) := by show _ = _; rw [HR.out, if_neg h0, if_neg h1, if_pos h2]
    have hfin := mod_one w2 base (by omega) 1 n _ new kn
    clear HR h0 k1 k2 kn h1 h2
    go_wp2_with fail
    go_ret
    exact ⟨_, _, rfl, hfin, HF.out.symm, hbw.alloc hbw9 _⟩
  have hI2 : ((old.length : Int) == 0) = false := by rw [beq_eq_false_iff_ne]; omega
  by_cases h3 : less.length = old.length
  · have hI3 : ((less.length : Int) == (old.length : Int)) = true := by rw [beq_iff_eq]; omega
    have HF : Hid (r = [⟨3, n, new⟩]) := by show _ = _; rw [HR.out, if_neg h0, if_neg h1, if_neg h2, if_pos h3]
    have hfin := mod_one w2 base (by omega) 3 n _ new kn
    clear HR h0 k1 k2 kn h1 h2 h3
    go_wp2_with fail
    go_ret
    exact ⟨_, _, rfl, hfin, HF.out.symm, hbw.alloc hbw9 _⟩
  have hI3 : ((less.length : Int) == (old.length : Int)) = false := by rw [beq_eq_false_iff_ne]; omega
  have HR2 : Hid (r = (if 0 < less.length then [⟨2, n, less⟩] else []) ++ (if 0 < more.length then [⟨1, n, more⟩] else [])) := by show _ = _; rw [HR.out, if_neg h0, if_neg h1, if_neg h2, if_neg h3]
  have N0 := ModOwn.nil w2 w.heap.size
  clear HR kn h0 h1 h2 h3
  by_cases hl : 0 < less.length
  · have hlI : (0 : Int) < (less.length : Int) := by omega
    by_cases hm : 0 < more.length
    · have hmI : (0 : Int) < (more.length : Int) := by omega
      have HF : Hid (r = [⟨2, n, less⟩] ++ [⟨1, n, more⟩]) := by show _ = _; rw [HR2.out, if_pos hl, if_pos hm]
      clear HR2 hl hm
      go_wp2_with (at_builtin; refine wpList_push w2 rfl _ _ 38 rfl w.heap.size 59 (.agg #[.int .i64 0, .string ⟨#[]⟩, .slice none 0 0]) 3 48 Tryz.underlying38 info_mod rfl (by decide) _ 0 _ N0.1 rfl [.int .i64 2, .string (B n), .slice A1 less.length c1] rfl rfl (by intro u hu; simp at hu; rcases hu with rfl | rfl | rfl <;> rfl) (by omega) hbw9 ?_ rfl)
      intro v3 w3 hown3 hg3 _ hb3 _
      have hM3 := N0.push (m := ⟨2, n, less⟩) hown3 hg3 k1
      have k3 := k2.grown N0.1 hg3
      obtain ⟨A3, c3, hv3⟩ := own_shape hown3
      subst hv3
      have hb39 : w.heap.size ≤ w3.heap.size := Nat.le_trans hbw9 hb3.size
      clear N0 k1 k2 hown3
      go_wp2_with (at_builtin; refine wpList_push w3 rfl _ _ 38 rfl w.heap.size 59 (.agg #[.int .i64 0, .string ⟨#[]⟩, .slice none 0 0]) 3 48 Tryz.underlying38 info_mod rfl (by decide) _ 1 _ hM3.1 rfl [.int .i64 1, .string (B n), .slice A2 more.length c2] rfl rfl (by intro u hu; simp at hu; rcases hu with rfl | rfl | rfl <;> rfl) (by omega) hb39 ?_ rfl)
      intro v4 w4 hown4 hg4 _ hb4 _
      have hM4 := hM3.push (m := ⟨1, n, more⟩) hown4 hg4 k3
      clear hM3 k3 hown4
      go_wp2
      go_ret
      exact ⟨_, _, rfl, hM4.base hbase, HF.out.symm, (hbw.trans hb3).trans hb4⟩
    · have hmI : ¬ (0 : Int) < (more.length : Int) := by omega
      have HF : Hid (r = [⟨2, n, less⟩]) := by show _ = _; rw [HR2.out, if_pos hl, if_neg hm]; rfl
      clear HR2 hl hm k2
      go_wp2_with (at_builtin; refine wpList_push w2 rfl _ _ 38 rfl w.heap.size 59 (.agg #[.int .i64 0, .string ⟨#[]⟩, .slice none 0 0]) 3 48 Tryz.underlying38 info_mod rfl (by decide) _ 0 _ N0.1 rfl [.int .i64 2, .string (B n), .slice A1 less.length c1] rfl rfl (by intro u hu; simp at hu; rcases hu with rfl | rfl | rfl <;> rfl) (by omega) hbw9 ?_ rfl)
      intro v3 w3 hown3 hg3 _ hb3 _
      have hM3 := N0.push (m := ⟨2, n, less⟩) hown3 hg3 k1
      clear N0 k1 hown3
      go_wp2
      go_ret
      exact ⟨_, _, rfl, hM3.base hbase, HF.out.symm, hbw.trans hb3⟩
  · have hlI : ¬ (0 : Int) < (less.length : Int) := by omega
    by_cases hm : 0 < more.length
    · have hmI : (0 : Int) < (more.length : Int) := by omega
      have HF : Hid (r = [⟨1, n, more⟩]) := by show _ = _; rw [HR2.out, if_neg hl, if_pos hm]; rfl
      clear HR2 hl hm k1
      go_wp2_with (at_builtin; refine wpList_push w2 rfl _ _ 38 rfl w.heap.size 59 (.agg #[.int .i64 0, .string ⟨#[]⟩, .slice none 0 0]) 3 48 Tryz.underlying38 info_mod rfl (by decide) _ 0 _ N0.1 rfl [.int .i64 1, .string (B n), .slice A2 more.length c2] rfl rfl (by intro u hu; simp at hu; rcases hu with rfl | rfl | rfl <;> rfl) (by omega) hbw9 ?_ rfl)
      intro v3 w3 hown3 hg3 _ hb3 _
      have hM3 := N0.push (m := ⟨1, n, more⟩) hown3 hg3 k2
      clear N0 k2 hown3
      go_wp2
      go_ret
      exact ⟨_, _, rfl, hM3.base hbase, HF.out.symm, hbw.trans hb3⟩
    · have hmI : ¬ (0 : Int) < (more.length : Int) := by omega
      have HF : Hid (r = []) := by show _ = _; rw [HR2.out, if_neg hl, if_neg hm]; rfl
      clear HR2 hl hm k1 k2
      go_wp2
      go_ret
      exact ⟨_, _, rfl, N0.base hbase, HF.out.symm, hbw⟩
end Go.Proofs.YtoopoglkeeoamaaGreatDoor
/- entry: Diff, walked. -/
namespace Go.Proofs.YtoopoglkeeoamaaGreatDoor
open Go.RowKit Go.Sort
open Idn (L B Bs drop_L take_L size_L)
theorem sortS_any (v : Value) (q : List Bs) (base : Nat) (w : World) (hown : w.ownsRow base 9 1 v q.length (q.map sv)) (hlen : q.length ≤ 1000000000) (hb : base ≤ w.heap.size) :
    Calls Tryz.prog 67 #[v] w fun e w' => e = .returned (.tuple #[]) ∧ w'.ownsRow base 9 1 v (sorted q).length ((sorted q).map sv) ∧ Below base w w' := by
  have hsl : (sorted q).length = q.length := by simp [sorted]
  by_cases hpos : q.length = 0
  · have hq0 : q = [] := List.eq_nil_of_length_eq_zero hpos
    have hs0 : sorted q = [] := List.eq_nil_of_length_eq_zero (by omega)
    obtain ⟨A, c, rfl⟩ := own_shape hown
    have h := Tryz.slices_Sort_string_none A c w
    rw [hpos]
    refine h.mono ?_
    rintro e w1 ⟨rfl, rfl⟩
    refine ⟨rfl, ?_, Below.refl _ _⟩
    rw [hs0]
    rw [hq0] at hown
    exact hown
  · rcases id hown.2 with ⟨_, hn0⟩ | ⟨g, cap, cur, hu, hbase, _⟩
    · omega
    subst hu
    refine (sort_own g cap q base w hown (by omega) hlen hb).mono ?_
    rintro e w1 ⟨rfl, h1, h2⟩
    exact ⟨rfl, by rw [hsl]; exact h1, (Below.refl _ _).grown h2 hb (fun k hk => by injection hk with hk; omega)⟩
theorem compactS_any (v : Value) (q : List Bs) (base : Nat) (w : World) (hown : w.ownsRow base 9 1 v q.length (q.map sv)) (hlen : q.length ≤ 1000000000) (hb : base ≤ w.heap.size) :
    Calls Tryz.prog 68 #[v] w fun e w' => ∃ v', e = .returned v' ∧ w'.ownsRow base 9 1 v' (Lib.compact q).length ((Lib.compact q).map sv) ∧ Below base w w' := by
  by_cases hpos : q.length = 0
  · have hq0 : q = [] := List.eq_nil_of_length_eq_zero hpos
    have hcl := Lib.compact_length_le q
    have hs0 : Lib.compact q = [] := List.eq_nil_of_length_eq_zero (by omega)
    obtain ⟨A, c, rfl⟩ := own_shape hown
    have h := Tryz.slices_Compact_string_empty A c w
    rw [hpos]
    refine h.mono ?_
    rintro e w1 ⟨rfl, rfl⟩
    refine ⟨_, rfl, ?_, Below.refl _ _⟩
    rw [hs0]
    rw [hq0] at hown
    exact hown
  · rcases id hown.2 with ⟨_, hn0⟩ | ⟨g, cap, cur, hu, hbase, _⟩
    · omega
    subst hu
    refine (compact_own g cap q base w hown (by omega) hlen).mono ?_
    rintro e w1 ⟨rfl, h1, h2⟩
    exact ⟨_, rfl, h1, (Below.refl _ _).grown h2 hb (fun k hk => by injection hk with hk; omega)⟩
/-- modifications of the call's own -/
def RetMd (w : World) (l : List Md) (e : Ending) (w' : World) : Prop := ∃ r ps, e = .returned r ∧ ModOwn w' w.heap.size r ps ∧ ps.map (·.1) = l ∧ Below w.heap.size w w'
theorem difs_len (n : Bs) (old new : List Bs) : (difs n old new).length ≤ 2 := by
  unfold difs
  split
  · simp
  · split
    · simp
    · split
      · simp
      · split
        · simp
        · rw [List.length_append]
          split <;> split <;> simp
theorem eDiff_unf (n : Bs) (l : List Idn.Att) (m : Bs) (k : List Idn.Att) : eDiff n l m k =
  if eCheck n l != 0 || eCheck m k != 0 then [] else (Lib.compact (sorted (namesL l ++ namesL k))).flatMap fun x => difs x (getL l x) (getL k x) := rfl
theorem check_sm {n : Bs} {l : List Idn.Att} (h : eCheck n l = 0) (hs : ASm l) : Idn.ASm7 l ∧ (∀ a ∈ l, a.vals.length ≠ 0) ∧ ((namesL l).length ≤ 32 ∧ ∀ x ∈ namesL l, x.length ≤ 1000000000) ∧ ∀ x, (rGet l x).length ≤ 1000 := by
  have hc := eCheck_zero h
  have h6 := aCheck_zero hc
  have hg : ∀ x, (rGet l x).length ≤ 1000 := fun x => by
    rw [rGet_law]
    refine Nat.le_trans (insAll_len _) ?_
    have h1 := vals_len (l := l) (c := 16) (fun a ha => (h6.2 a ha).2) (Idn.lower x)
    have h2 : l.length * 16 ≤ 32 * 16 := Nat.mul_le_mul_right _ h6.1
    omega
  refine ⟨⟨by have := h6.1; omega, fun a ha => ⟨(hs.2 a ha).1, by have := (h6.2 a ha).2; omega, (hs.2 a ha).2.2⟩⟩, fun a ha => (h6.2 a ha).1, ⟨?_, ?_⟩, hg⟩
  case refine_2 =>
    intro x hx
    unfold namesL at hx
    obtain ⟨a, ha, rfl⟩ := List.mem_map.1 hx
    obtain ⟨b, hb, rfl⟩ := Idn.aSorted_from ha
    have hn : b.name ∈ (Idn.grp [] l).map (·.name) := List.mem_map.2 ⟨b, hb, rfl⟩
    rw [Idn.grp_names] at hn
    rcases hn with hn | hn
    · simp at hn
    · obtain ⟨a, ha, e⟩ := List.mem_map.1 hn
      show b.name.length ≤ _
      rw [← e, Idn.length_lower]
      exact (hs.1 |> fun _ => (hs.2 a ha).1)
  have := aSorted_len l
  unfold namesL
  rw [List.length_map]
  have := h6.1
  have h7 := grp_len l []
  simp at h7
  omega
set_option maxHeartbeats 4000000 in
set_option maxRecDepth 100000 in
theorem diff_any (n m : ByteArray) (a b : Value) (l k : List Idn.Att) (w : World) (ha : AttsV w w.heap.size a l) (hb : AttsV w w.heap.size b k) (hn : n.size ≤ 1000000000) (hm : m.size ≤ 1000000000) (hl : ASm l) (hk : ASm k) :
    Calls Tryz.prog 25 #[.agg #[.string n, a], .agg #[.string m, b]] w (RetMd w (eDiff (L n) l (L m) k)) := by
  have hA := fun W (hW : Below w.heap.size w W) => AttsV.mono (AttsV.keep ha hW) hW.size
  have hB := fun W (hW : Below w.heap.size w W) => AttsV.mono (AttsV.keep hb hW) hW.size
  have hC1 := fun W (hW : Below w.heap.size w W) => eCheck_any n a l W (hA W hW) hn hl
  have hC2 := fun W (hW : Below w.heap.size w W) => eCheck_any m b k W (hB W hW) hm hk
  have hsm1 := fun h => check_sm (n := L n) (l := l) h hl
  have hsm2 := fun h => check_sm (n := L m) (l := k) h hk
  have hNa := fun h1 h2 W (hW : Below w.heap.size w W) => names_any a l W (hA W hW) h1 h2
  have hNb := fun h1 h2 W (hW : Below w.heap.size w W) => names_any b k W (hB W hW) h1 h2
  have hGa := fun h1 x (hx : x.size ≤ 1000000000) W (hW : Below w.heap.size w W) => getG_any a l x W (hA W hW) h1 hx
  have hGb := fun h1 x (hx : x.size ≤ 1000000000) W (hW : Below w.heap.size w W) => getG_any b k x W (hB W hW) h1 hx
  have HR := Lib.hid (eDiff_unf (L n) l (L m) k)
  obtain ⟨A, c, rfl, hc⟩ := SlV.shape ha
  obtain ⟨A2, c2, rfl, hc2⟩ := SlV.shape hb
  generalize eDiff (L n) l (L m) k = r at *
  generalize eCheck (L n) l = k1 at *
  generalize eCheck (L m) k = k2 at *
  clear ha hb hA hB
  go_enter Tryz.func25, Tryz.ntmps25
  go_upto_region 1 with fail
  with_reducible refine gen2 (R := fun W => Code.wp Tryz.prog _ _ _ W) ?_
  intro W hbW hszW hc1 hc2'
  have a0 : W.cell? ⟨w.heap.size, 0, none⟩ = some (.string n) := hc1 0 _ rfl
  have a1 : W.cell? ⟨w.heap.size, 1, none⟩ = some (.slice A l.length c) := hc1 1 _ rfl
  have b0 : W.cell? ⟨w.heap.size + 1, 0, none⟩ = some (.string m) := hc2' 0 _ rfl
  have b1 : W.cell? ⟨w.heap.size + 1, 1, none⟩ = some (.slice A2 k.length c2) := hc2' 1 _ rfl
  clear hc1 hc2'
  by_cases h1 : k1 = 0
  case neg =>
    have hI : (k1 != 0) = true := by simpa using h1
    have HF : Hid (r = []) := by show _ = _; rw [HR.out, hI]; rfl
    clear HR h1 hsm1 hsm2 hNa hNb hGa hGb hC2
    go_wp2_with fail
    refine (hC1 W hbW).mono ?_
    rintro e w1 ⟨rfl, hb1⟩
    go_wp2
    go_ret
    exact ⟨_, [], rfl, ModOwn.nil _ _, HF.out.symm, hbW.trans (hb1.mono hbW.size)⟩
  subst h1
  by_cases h2 : k2 = 0
  case neg =>
    have hI : (k2 != 0) = true := by simpa using h2
    have HF : Hid (r = []) := by show _ = _; rw [HR.out, hI]; rfl
    clear HR h2 hsm1 hsm2 hNa hNb hGa hGb
    go_wp2_with fail
    refine (hC1 W hbW).mono ?_
    rintro e w1 ⟨rfl, hb1⟩
    replace b0 := cell_later hb1 b0
    replace b1 := cell_later hb1 b1
    have hbw1 := hbW.trans (hb1.mono hbW.size)
    clear hC1
    go_wp2_with fail
    refine (hC2 w1 hbw1).mono ?_
    rintro e w2 ⟨rfl, hb2⟩
    go_wp2
    go_ret
    exact ⟨_, [], rfl, ModOwn.nil _ _, HF.out.symm, hbw1.trans (hb2.mono hbw1.size)⟩
  subst h2
  obtain ⟨s1, s2, ⟨s3, s5⟩, s4⟩ := hsm1 rfl
  obtain ⟨t1, t2, ⟨t3, t5⟩, t4⟩ := hsm2 rfl
  have hgl : ∀ x, getL l x = rGet l x := fun x => (rGet_eq s2 x).symm
  have hgk : ∀ x, getL k x = rGet k x := fun x => (rGet_eq t2 x).symm
  have HR2 : Hid (r = (Lib.compact (sorted (namesL l ++ namesL k))).flatMap fun x => difs x (rGet l x) (rGet k x)) := by
    show _ = _
    rw [HR.out, if_neg (by decide)]
    simp only [hgl, hgk]
  have kNa := hNa s1 s2
  have kNb := hNb t1 t2
  have kGa := hGa s1
  have kGb := hGb t1
  have hcl : (Lib.compact (sorted (namesL l ++ namesL k))).length ≤ 64 := by
    have h1 := Lib.compact_length_le (sorted (namesL l ++ namesL k))
    have h2 : (sorted (namesL l ++ namesL k)).length = (namesL l ++ namesL k).length := by simp [sorted]
    rw [List.length_append] at h2
    omega
  have hcx : ∀ x ∈ Lib.compact (sorted (namesL l ++ namesL k)), x.length ≤ 1000000000 := fun x hx => by
    have h1 : x ∈ namesL l ++ namesL k := Idn.srt_mem (compact_mem hx)
    rcases List.mem_append.1 h1 with h1 | h1
    · exact s5 x h1
    · exact t5 x h1
  have hS4 := Lib.hid s4
  have hT4 := Lib.hid t4
  have HCX := Lib.hid hcx
  have A1W := Lib.hid a1
  have B1W := Lib.hid b1
  clear HR hsm1 hsm2 hNa hNb hGa hGb hgl hgk s1 s2 t1 t2 s5 t5 s4 t4 hcx
  go_wp2_with fail
  refine (hC1 W hbW).mono ?_
  rintro e w1 ⟨rfl, hb1⟩
  replace a1 := cell_later hb1 a1
  replace b0 := cell_later hb1 b0
  replace b1 := cell_later hb1 b1
  have hbw1 := hbW.trans (hb1.mono hbW.size)
  clear hC1
  go_wp2_with fail
  refine (hC2 w1 hbw1).mono ?_
  rintro e w2 ⟨rfl, hb2⟩
  replace hb2 : Below w1.heap.size w1 w2.drew := hb2.drew
  replace a1 : w2.drew.cell? ⟨w.heap.size, 1, none⟩ = some (.slice A l.length c) := cell_later hb2 a1
  replace b1 : w2.drew.cell? ⟨w.heap.size + 1, 1, none⟩ = some (.slice A2 k.length c2) := cell_later hb2 b1
  have hbB : Below W.heap.size W w2.drew := hb1.trans (hb2.mono hb1.size)
  have hbw2 : Below w.heap.size w w2.drew := hbW.trans (hbB.mono hbW.size)
  generalize namesL l = nl at *
  generalize namesL k = nk at *
  have hwW : w.heap.size ≤ W.heap.size := hbW.size
  clear hC2 a0 b0 hb1 hb2 hbw1
  go_wp2_with fail
  go_region_law (first
    | (go_simp
       go_at_call 66
       with_reducible refine (kNa _ (by first | exact hbw2 | exact hbY)).mono ?_
       rintro e wA ⟨vA, rfl, hoA, hbA⟩
       first | have hbX := hbY.trans (hbA.mono hbY.size) | have hbX := hbw2.trans (hbA.mono hbw2.size)
       first | have hbXB := hbYB.trans (hbA.mono hbYB.size) | have hbXB := hbB.trans (hbA.mono hbB.size)
       first | have b1A := cell_later hbA b1 | skip
       first | (have rB := own_below hoB hbA; have rA := hoA) | skip
       go_wp2_with fail)
    | (go_simp
       go_at_call 66
       with_reducible refine (kNb _ (by first | exact hbw2 | exact hbX)).mono ?_
       rintro e wB ⟨vB, rfl, hoB, hbb⟩
       first | have hbY := hbX.trans (hbb.mono hbX.size) | have hbY := hbw2.trans (hbb.mono hbw2.size)
       first | have hbYB := hbXB.trans (hbb.mono hbXB.size) | have hbYB := hbB.trans (hbb.mono hbB.size)
       first | have a1B := cell_later hbb a1 | skip
       first | (have rA := own_below hoA hbb; have rB := hoB) | skip
       go_wp2_with fail)
    | (refine step_appendS rfl _ _ 45 rfl W.heap.size 9 Tryz.underlying45 info_str _ _ _ (own_base rA (by first | exact hbB.size | exact hbYB.size)) rfl _ nk _ (StrsV.of_own rB) rfl (by omega) (by first | exact hbYB.size | exact hbXB.size) ?_
       intro v4 w4 hown4 hg4 _))
  all_goals
    have hbw4 : Below W.heap.size W w4 := hbYB.grown hg4 hbYB.size (fun x hx => Nat.le_trans hbB.size (rA.lt x hx).1)
    obtain ⟨A4, c4, hv4⟩ := own_shape hown4
    subst hv4
    have hown4' : w4.ownsRow W.heap.size 9 1 (.slice A4 (nl.length + nk.length) c4) (nl ++ nk).length ((nl ++ nk).map sv) := by rw [List.length_append, List.map_append]; exact hown4
    have hSt := sortS_any _ (nl ++ nk) W.heap.size w4 hown4' (by rw [List.length_append]; omega) hbw4.size
    have hslen : (sorted (nl ++ nk)).length ≤ 64 := by simp [sorted]; omega
    clear hown4 hown4' hg4 rA rB hoA hoB hbA hbb hbX hbY hbXB hbYB kNa kNb b1A a1 b1 hbB hbw2
    go_wp2_with fail
    refine hSt.mono ?_
    rintro e w5 ⟨rfl, hown5, hb5⟩
    have hbw5 := hbw4.trans hb5
    have hCm := compactS_any _ (sorted (nl ++ nk)) W.heap.size w5 hown5 (by omega) hbw5.size
    clear hSt hown5 hslen hb5 hbw4
    generalize Lib.compact (sorted (nl ++ nk)) = cs at *
    go_wp2_with fail
    refine hCm.mono ?_
    rintro e w6 ⟨v6, rfl, hown6, hb6⟩
    obtain ⟨A6, c6, hv6⟩ := own_shape hown6
    subst hv6
    have hbw6 := hbw5.trans hb6
    have N0 := ModOwn.nil w6 W.heap.size
    clear hCm hb6 hbw5
    go_wp2_with fail
    go_loopw [6, 29] (fun o i wr => ∃ (j : Nat) (ps : List (Md × Value)), j ≤ cs.length ∧ i = .int .i64 j ∧ ModOwn wr W.heap.size o ps ∧ wr.ownsRow W.heap.size 9 1 (.slice A6 cs.length c6) cs.length (cs.map sv) ∧ Below W.heap.size W wr ∧ Hid (ps.map (·.1) = (cs.take j).flatMap fun x => difs x (rGet l x) (rGet k x)) ∧ ps.length ≤ 2 * j) (fun _ i _ => cs.length - (intOf i).toNat)
    case atStart => exact ⟨0, [], Nat.zero_le _, rfl, N0, hown6, hbw6, rfl, Nat.le_refl _⟩
    case round =>
      obtain ⟨j, ps, hj, rfl, hown, hownC, hb, hinv, hpl⟩ := hrel
      obtain ⟨Ao, co, hoS⟩ := own_shape hown.1
      subst hoS
      obtain ⟨wo, hwo⟩ : ∃ wo : World, wo = wr := ⟨_, rfl⟩
      subst hwo
      by_cases hlt : j < cs.length
      · obtain ⟨g, hA6, hcell⟩ := own_open hownC (by omega)
        have e0 : wo.cell? ⟨g, j, none⟩ = some (.string (B cs[j])) := hcell j _ (by rw [List.getElem?_map, List.getElem?_eq_getElem hlt]; rfl)
        subst hA6
        have hltI : (j : Int) < (cs.length : Int) := by omega
        have hxl := HCX.out cs[j] (List.getElem_mem hlt)
        have kA := kGa (B cs[j]) (by rw [Idn.size_B]; exact hxl)
        have kB := kGb (B cs[j]) (by rw [Idn.size_B]; exact hxl)
        rw [Idn.L_B] at kA kB
        have hstep : Hid ((cs.take (j + 1)).flatMap (fun x => difs x (rGet l x) (rGet k x)) = ps.map (·.1) ++ difs cs[j] (rGet l cs[j]) (rGet k cs[j])) := by
          show _ = _
          rw [List.take_succ_eq_append_getElem hlt, List.flatMap_append, hinv.out]; simp
        have hdr : Below wo.heap.size wo wo.drew := (Below.refl _ _).drew
        have hbd : Below W.heap.size W wo.drew := hb.trans (hdr.mono hb.size)
        have hod := hown.keep hdr
        have hcd := own_below hownC hdr
        have a1 : wo.drew.cell? ⟨w.heap.size, 1, none⟩ = some (.slice A l.length c) := (hbd.cell (p := ⟨w.heap.size, 1, none⟩) (by show w.heap.size < W.heap.size; omega)).trans A1W.out
        have b1 : wo.drew.cell? ⟨w.heap.size + 1, 1, none⟩ = some (.slice A2 k.length c2) := (hbd.cell (p := ⟨w.heap.size + 1, 1, none⟩) (by show w.heap.size + 1 < W.heap.size; omega)).trans B1W.out
        have g1 := hS4.out cs[j]
        have g2 := hT4.out cs[j]
        have hdl := difs_len cs[j] (rGet l cs[j]) (rGet k cs[j])
        have hps64 : ps.length ≤ 128 := by omega
        have hDf := fun (W' : World) u v base (hu : StrsV W' W'.heap.size u (rGet l cs[j])) (hw9 : CutS W' base v (rGet k cs[j])) hbase => differences_any cs[j] u v (rGet l cs[j]) (rGet k cs[j]) base W' hu hw9 hbase (by omega) (by omega)
        clear hinv hcell hown hownC N0 hown6 hdr
        generalize difs cs[j] (rGet l cs[j]) (rGet k cs[j]) = dd at *
        generalize rGet l cs[j] = ga at *
        generalize rGet k cs[j] = gb at *
        generalize B cs[j] = bx at *
        go_wp2_with fail
        go_region_law (first
          | (go_simp
             go_at_call 70
             with_reducible refine (kA _ (hbW.trans (hbd.mono hwW))).mono ?_
             rintro e wA ⟨AA, cA, rfl, hoA, hbA⟩
             have b1A := cell_later hbA b1
             have hbX : Below W.heap.size W wA := hbd.trans (hbA.mono hbd.size)
             have oA := hod.keep hbA
             have nA := own_below hcd hbA
             go_wp2_with fail)
          | (go_simp
             go_at_call 70
             with_reducible refine (kB _ (hbW.trans (hbX.mono hwW))).mono ?_
             rintro e wB ⟨AB, cB, rfl, hoB, hbb⟩
             have hbY : Below W.heap.size W wB := hbX.trans (hbb.mono hbX.size)
             have oB := oA.keep hbb
             have nB := own_below nA hbb
             have rA : CutS wB W.heap.size (.slice AA ga.length ga.length) ga := ⟨AA, cA, ga.length, rfl, Nat.le_refl _, own_base (own_below hoA hbb) hbd.size⟩
             have rB : CutS wB W.heap.size (.slice AB gb.length gb.length) gb := ⟨AB, cB, gb.length, rfl, Nat.le_refl _, own_base hoB hbX.size⟩
             go_wp2_with fail)
          | (go_simp
             go_at_call 69
             refine (hDf _ _ _ W.heap.size rA.read rB hbY.size).mono ?_
             rintro e wD ⟨vD, qs, rfl, hMD, hqs, hbD⟩
             obtain ⟨AD, cD, hvD⟩ := own_shape hMD.1
             subst hvD
             have oD := oB.keep hbD
             have nD := own_below nB hbD
             have hbZ : Below W.heap.size W wD := hbY.trans (hbD.mono hbY.size)
             have hql : qs.length ≤ 2 := by rw [← List.length_map (f := (·.1)), hqs]; exact hdl
             have HQS := Lib.hid hqs
             clear hqs
             go_wp2_with fail)
          | (refine step_appendM rfl _ _ rfl W.heap.size _ ps oD rfl _ qs hMD rfl (by omega) hbZ.size ?_
             intro v7 w7 hM7 hb7 hg7))
        all_goals
          have nF := own_kept nD hg7 fun x h1 h2 => own_apart2 oD.1 nD (by decide) x h2 h1
          have hbF := hbZ.trans hb7
          obtain ⟨A7, c7, hv7⟩ := own_shape hM7.1
          subst hv7
          simp only [List.length_append] at hM7 ⊢
          have HM7 := Lib.hid hM7
          clear oD nD oB nB oA nA rA rB hoA hoB hMD hod hcd hM7 a1 b1 b1A hDf kA kB
          go_wp2_with fail
          go_roundw
          case rel => exact ⟨j + 1, ps ++ qs, by omega, by go_num, HM7.out, nF, hbF, by show _ = _; rw [List.map_append, HQS.out, hstep.out], by rw [List.length_append]; omega⟩
          case measure => simp [intOf]; omega
      · have hltI : ¬ (j : Int) < (cs.length : Int) := by omega
        have HF : Hid (ps.map (·.1) = r) := by show _ = _; rw [hinv.out, HR2.out, List.take_of_length_le (by omega)]
        clear hinv HR2 hownC hown6 N0
        go_wp2_with fail
        go_ret
        exact ⟨_, ps, rfl, hown.base hwW, HF.out, hbW.trans (hb.mono hwW)⟩
end Go.Proofs.YtoopoglkeeoamaaGreatDoor
/- attrs: set, limited. -/
namespace Go.Proofs.YtoopoglkeeoamaaGreatDoor
open Go.RowKit Go.Sort
open Idn (L B Bs drop_L take_L size_L)
theorem CLOS.predG {f : Nat} (h : CLOS f) (q : Nat) (nm : ByteArray) (g : Nat) (w : World) (hc : w.cell? ⟨q, 0, none⟩ = some (.string nm)) (hne : q ≠ g) : PredG g f #[.pointer (some ⟨q, 0, none⟩)] (fun x => decide (x.1 = L nm)) w :=
  fun W x A c hg => h x.1 A x.2 c q nm W (by
    have hq : q < w.heap.size := World.block_lt_of_cell? _ _ hc
    rw [World.cell?_of_block (w := w) (hg.block q hq (fun e => hne (by injection e)))]
    exact hc)
/-- strings that read, behind growth of another block -/
theorem StrsV.grownB {w w' : World} {hi : Nat} {A : Option Addr} {n c : Nat} {l : List Bs} {r : Option Nat} (h : StrsV w hi (.slice A n c) l) (hhi : hi ≤ w.heap.size) (hg : w.grownBy w' r) (hne : ∀ b off, A = some ⟨b, off, none⟩ → r ≠ some b) : StrsV w' hi (.slice A n c) l := by
  obtain ⟨A', c', hv, hc, h⟩ := h
  injection hv with e1 e2 e3
  subst e1 e2 e3
  refine ⟨A, c, rfl, hc, fun hp => ?_⟩
  obtain ⟨b, off, hA, hb, hx⟩ := h hp
  refine ⟨b, off, hA, hb, fun i x hix => ?_⟩
  obtain ⟨cs, h1, h2, h3⟩ := hx i x hix
  refine ⟨cs, h1, h2, fun j u hu => ?_⟩
  rw [World.cell?_of_block (w := w) (hg.block b (by omega) (fun e => hne b off hA e.symm))]
  exact h3 j u hu
/-- a row of attributes with one more behind it -/
theorem atts_push {w w' : World} {base : Nat} {v v' u : Value} {ps : List (Idn.Att × Value)} {n : Bs} {vals : List Bs} (h : AttOwn w base v ps) (hown : w'.ownsRow base 48 2 v' (ps.length + 1) (rowA ps ++ [sv n, u])) (hg : w.grownBy w' v.ownBlock) (hu : StrsV w' w'.heap.size u vals) : AttsV w' w'.heap.size v' (ps.map (·.1) ++ [⟨n, vals⟩]) := by
  have hl : (ps.map (·.1) ++ [(⟨n, vals⟩ : Idn.Att)]).length = ps.length + 1 := by simp
  rw [← hl] at hown
  have hrow : rowA ps ++ [sv n, u] = rowA (ps ++ [((⟨n, vals⟩ : Idn.Att), u)]) := by unfold rowA; rw [List.flatMap_append]; rfl
  rw [hrow] at hown
  refine SlV.own hown fun i x hx => ?_
  have hx' : ∃ q, (ps ++ [((⟨n, vals⟩ : Idn.Att), u)])[i]? = some q ∧ q.1 = x := by
    have e : (ps.map (·.1) ++ [(⟨n, vals⟩ : Idn.Att)]) = (ps ++ [((⟨n, vals⟩ : Idn.Att), u)]).map (·.1) := by simp
    rw [e, List.getElem?_map] at hx
    obtain ⟨q, hq, rfl⟩ := Option.map_eq_some_iff.1 hx
    exact ⟨q, hq, rfl⟩
  obtain ⟨q, hq, rfl⟩ := hx'
  obtain ⟨e1, e2⟩ := rowA_at _ i q hq
  refine ⟨[sv q.1.name, q.2], rfl, ⟨q.2, rfl, ?_⟩, fun j y hj => ?_⟩
  · rcases List.mem_append.1 (List.mem_of_getElem? hq) with hq | hq
    · have := own_kept (h.2.1 q hq) hg fun g h1 h2 => own_apart h.1 (h.2.1 q hq) (by decide) g h2 h1
      exact StrsV.of_own this
    · simp at hq; subst hq; exact hu
  · match j, hj with
    | 0, hj => simp at hj; subst hj; exact e1
    | 1, hj => simp at hj; subst hj; exact e2
set_option maxRecDepth 100000 in
theorem set1_any : CLOS 221 := by
  intro x A n c q nm w hc
  have hq : q < w.heap.size := World.block_lt_of_cell? _ _ hc
  have ht : ((B x).toList == nm.toList) = decide (x = L nm) := by rw [str_beq, Idn.L_B]
  generalize decide (x = L nm) = d at *
  generalize B x = bx at *
  go_enter Tryz.func221, Tryz.ntmps221
  go_wp2
  go_ret
  exact ⟨rfl, (Below.refl _ _).alloc (Nat.le_refl _) _⟩
theorem fn_set1 : FnB 221 := by intro a w; kernel_rfl
set_option maxHeartbeats 1000000 in
set_option maxRecDepth 100000 in
theorem set_any (v : Value) (base : Nat) (ps : List (Idn.Att × Value)) (n : ByteArray) (A : Option Addr) (c : Nat) (vals : List Bs) (w : World) (hown : AttOwn w base v ps) (hbase : base ≤ w.heap.size) (hu : StrsV w w.heap.size (.slice A vals.length c) vals)
    (hap : ∀ b off, A = some ⟨b, off, none⟩ → v.ownBlock ≠ some b) (hn : n.size ≤ 1000000000) (hs : Idn.ASm7 (ps.map (·.1))) (hl : ps.length ≤ 899) (hv : vals.length ≤ 1100000) (hx : ∀ x ∈ vals, x.length ≤ 1000000000) :
    Calls Tryz.prog 177 #[v, .string n, .slice A vals.length c] w fun e w' => ∃ v' ps', e = .returned v' ∧ AttOwn w' w.heap.size v' ps' ∧ ps'.map (·.1) = aSet (ps.map (·.1)) (L n) vals ∧ Below base w w' := by
  have hL := lower_any n w (by omega)
  obtain ⟨Av, cv, hv0⟩ := own_shape hown.1
  subst hv0
  have hres : Hid (aSet (ps.map (·.1)) (L n) vals = Idn.rSorted ((ps.map (·.1)).filter (fun a => !decide (a.name = Idn.lower (L n))) ++ [⟨Idn.lower (L n), vals⟩])) := rfl
  have hll : (Idn.lower (L n)).length ≤ 1000000000 := by rw [Idn.length_lower, ← size_L]; exact hn
  generalize aSet (ps.map (·.1)) (L n) vals = res at *
  generalize Idn.lower (L n) = nm at *
  go_enter Tryz.func177, Tryz.ntmps177
  go_wp2_with fail
  refine hL.mono ?_
  rintro e w1 ⟨rfl, hb1⟩
  clear hL
  go_upto_region 2 with fail
  with_reducible refine gen1 (R := fun W => Code.wp Tryz.prog _ _ _ W) ?_
  intro W hbW hszW hc1 _
  have q0 : W.cell? ⟨w1.heap.size, 0, none⟩ = some (.string (B nm)) := hc1 0 _ rfl
  have hbw := hb1.trans (hbW.mono hb1.size)
  have hownW := hown.keep hbw
  have hq1 : w1.heap.size < W.heap.size := by omega
  have hlo := fun g => own_lt hown.1 (g := g)
  have hwz := hb1.size
  have hD := delB_any 221 #[.pointer (some ⟨w1.heap.size, 0, none⟩)] fn_set1 (fun x => decide (x.1 = L (B nm))) base _ ps W hownW (Nat.le_trans hbase hbw.size) (by omega) (fun g hg => set1_any.predG w1.heap.size (B nm) g W q0 (fun e => by have := hlo g hg; omega))
  have huW := SlV.mono (SlV.keep hu hbw) hbw.size
  have hflt : (ps.filter fun q => !decide ((nmA q).1 = L (B nm))).map (·.1) = (ps.map (·.1)).filter (fun a => !decide (a.name = nm)) := by
    rw [List.filter_map]; rfl
  have hfl : (ps.filter fun q => !decide ((nmA q).1 = L (B nm))).length ≤ ps.length := List.length_filter_le _ _
  generalize (ps.filter fun q => !decide ((nmA q).1 = L (B nm))) = qs at *
  clear hc1 hszW hown
  go_wp2_with fail
  refine hD.mono ?_
  rintro e w2 ⟨v2, rfl, hown2, hb2, hg2, hvo⟩
  have q2 : w2.cell? ⟨w1.heap.size, 0, none⟩ = some (.string (B nm)) := by
    rw [World.cell?_of_block (w := W) (hg2.block w1.heap.size hq1 (fun e => by have := hlo _ e.symm; omega))]
    exact q0
  have hu2 := SlV.mono (StrsV.grownB huW (Nat.le_refl _) hg2 (fun b off e => hap b off e)) hg2.size
  have hbb2 := (hbw.mono hbase).trans hb2
  obtain ⟨A2, c2, hv2⟩ := own_shape hown2.1
  subst hv2
  have HVO := Lib.hid hvo
  clear hD huW q0 hvo
  go_wp2_with (at_builtin; refine wpList_push w2 rfl _ _ 22 rfl base 48 (.agg #[.string ⟨#[]⟩, .slice none 0 0]) 2 40 Tryz.underlying22 info_attr rfl (by decide) _ qs.length _ hown2.1 rfl [.string (B nm), .slice A vals.length c] rfl rfl (by intro u hu; simp at hu; rcases hu with rfl | rfl <;> rfl) (by omega) (Nat.le_trans hbase hbb2.size) ?_ rfl)
  intro v3 w3 hown3 hg3 _ hb3 _
  have hu3 := SlV.mono (StrsV.grownB hu2 (Nat.le_refl _) hg3 (fun b off e => by rw [HVO.out]; exact hap b off e)) hg3.size
  have hats := atts_push hown2 hown3 hg3 hu3
  have hS := sortedG_any _ _ w3 hats ⟨by simp; omega, fun a ha => by
    rcases List.mem_append.1 ha with ha | ha
    · rw [hflt] at ha
      exact hs.2 a (List.mem_filter.1 ha).1
    · simp at ha; subst ha; exact ⟨hll, hv, hx⟩⟩
  rw [hflt, ← hres.out] at hS
  have hbb3 := hbb2.trans hb3
  obtain ⟨A3, c3, hv3⟩ := own_shape hown3
  subst hv3
  clear hu3 hats hown2 hown3 hu2
  go_wp2_with fail
  refine hS.mono ?_
  rintro e w4 ⟨v4, ps4, rfl, hown4, hps4, hb4⟩
  clear hS
  go_wp2
  go_ret
  exact ⟨v4, ps4, rfl, hown4.base hbb3.size, hps4, hbb3.trans (hb4.mono (Nat.le_trans hbase hbb3.size))⟩
theorem aLim_eq (l : List Idn.Att) (n : Bs) : aLim l n = if 32 < l.length ∨ 16 < (rGet l n).length then ([], 3) else (l, 0) := rfl
set_option maxRecDepth 100000 in
theorem limited_any (v : Value) (ps : List (Idn.Att × Value)) (base : Nat) (l : List Idn.Att) (n : ByteArray) (w : World) (hown : AttOwn w base v ps) (hps : ps.map (·.1) = l) (hn : n.size ≤ 1000000000) (hs : Idn.ASm7 l) :
    Calls Tryz.prog 180 #[v, .string n] w fun e w' => ∃ v' ps', e = .returned (.tuple #[v', .int .i64 (aLim l (L n)).2]) ∧ AttOwn w' base v' ps' ∧ ps'.map (·.1) = (aLim l (L n)).1 ∧ Below w.heap.size w w' := by
  have hv := hown.atts hps
  have hG := getG_any v l n w hv hs hn
  have hl9 := hs.1
  have HPS := Lib.hid hps
  clear hps
  obtain ⟨A, c, rfl, hc⟩ := SlV.shape hv
  have HR := Lib.hid (aLim_eq l (L n))
  generalize aLim l (L n) = r at *
  have hgl := rGet_len hs (L n)
  generalize rGet l (L n) = q at *
  by_cases h1 : 32 < l.length
  · have hI : (32 : Int) < (l.length : Int) := by omega
    have HF : Hid (r = ([], 3)) := by show _ = _; rw [HR.out, if_pos (.inl h1)]
    clear h1 hG HR
    go_enter Tryz.func180, Tryz.ntmps180
    go_wp2
    go_ret2
    exact ⟨_, [], by rw [HF.out]; rfl, AttOwn.nil _ _, by rw [HF.out]; rfl, Below.refl _ _⟩
  have hI : ¬ (32 : Int) < (l.length : Int) := by omega
  by_cases h2 : 16 < q.length
  · have hI2 : (16 : Int) < (q.length : Int) := by omega
    have HF : Hid (r = ([], 3)) := by show _ = _; rw [HR.out, if_pos (.inr h2)]
    clear h1 h2 HR
    go_enter Tryz.func180, Tryz.ntmps180
    go_wp2_with fail
    refine hG.mono ?_
    rintro e w1 ⟨A1, c1, rfl, hown1, hb1⟩
    clear hown1
    go_wp2
    go_ret2
    exact ⟨_, [], by rw [HF.out]; rfl, AttOwn.nil _ _, by rw [HF.out]; rfl, hb1⟩
  · have hI2 : ¬ (16 : Int) < (q.length : Int) := by omega
    have HF : Hid (r = (l, 0)) := by show _ = _; rw [HR.out, if_neg (by omega)]
    clear h1 h2 HR
    go_enter Tryz.func180, Tryz.ntmps180
    go_wp2_with fail
    refine hG.mono ?_
    rintro e w1 ⟨A1, c1, rfl, hown1, hb1⟩
    clear hown1
    go_wp2
    go_ret2
    exact ⟨_, ps, by rw [HF.out]; rfl, hown.keep hb1, by rw [HF.out]; exact HPS.out, hb1⟩
end Go.Proofs.YtoopoglkeeoamaaGreatDoor
/- attrs: Add. -/
namespace Go.Proofs.YtoopoglkeeoamaaGreatDoor
open Go.RowKit Go.Sort
open Idn (L B Bs drop_L take_L size_L)
theorem rGet_all {p : Bs → Prop} {l : List Idn.Att} (h : ∀ a ∈ l, ∀ x ∈ a.vals, p x) (n : Bs) : ∀ x ∈ rGet l n, p x := by
  intro x hx
  rw [rGet_law, Idn.insAll_mem] at hx
  unfold Idn.valsOf at hx
  obtain ⟨a, ha, hx⟩ := List.mem_flatMap.1 hx
  exact h a (List.mem_filter.1 ha).1 x hx
section
variable {P : Program} {w : World} {ops : Array Oper} {rest : List Oper} {o : Oper} {a : Act} {Q : Exit → Act → World → Prop}
/-- 'append(old, more...)' at strings, where old has no room -/
theorem wpList_growS (hgd : o.guard = none) (s x : Operand) (t : TypeId) (ho : o.op = .call { callee := .builtin .append, args := #[s, x], argTypes := #[t, t] })
    (e : TypeId) (ht : P.underlying t = some (.slice e)) (hinf : (P.info? e).map (fun i => (i.zero, i.size, i.bytes)) = some (some (.string ⟨#[]⟩), 1, 16))
    (A : Option Addr) (old : List Bs) (hi : Nat) (hold : StrsV w hi (.slice A old.length old.length) old) (hs : a.eval s = .slice A old.length old.length) (hnil : A = none → old.length = 0) (u : Value) (l : List Bs) (hu : StrsV w hi u l) (hx : a.eval x = u) (hpos : 0 < l.length)
    (hn : (old.length + l.length) * 17 ≤ 140737488355328)
    (hK : ∀ v' w', w'.ownsRow w.heap.size e 1 v' (old ++ l).length ((old ++ l).map sv) → w.grownBy w' none → wpList P ops Q rest (a.put o.dst v') w') : wpList P ops Q (o :: rest) a w := by
  obtain ⟨i, hi', hz0, hz1, hz2⟩ := info_parts hinf
  obtain ⟨A', c, rfl, hc⟩ := SlV.shape hu
  obtain ⟨b, off, hA, _, _⟩ := hu.at_ (k := 0) hpos
  subst hA
  have hadd : ∀ (b off j : Nat), (⟨b, off, none⟩ : Addr).add j = ⟨b, off + j, none⟩ := fun b off j => by unfold Addr.add; split <;> simp_all
  refine wpList_append_grows w hgd s x t ho e i (.string ⟨#[]⟩) 1 16 ht hi' hz0 hz1 hz2 rfl (by decide) A old.length old.length (old.map sv) hs (fun h => ⟨hnil h, hnil h⟩) (by simp) ?_ ⟨b, off, none⟩ l.length c (l.map sv) hx (by simp) ?_ ?_ (by omega) (by unfold maxLen; omega) (by omega) ?_
  · intro b0 hb0 j q hj
    rw [List.getElem?_map] at hj
    obtain ⟨y, hy, rfl⟩ := Option.map_eq_some_iff.1 hj
    obtain ⟨hjl, rfl⟩ := List.getElem?_eq_some_iff.1 hy
    obtain ⟨b', off', hA', _, hcc⟩ := StrsV.cell hold hjl
    rw [hA'] at hb0
    injection hb0 with hb0
    subst hb0
    rw [hadd]
    exact hcc
  · intro j q hj
    rw [List.getElem?_map] at hj
    obtain ⟨y, hy, rfl⟩ := Option.map_eq_some_iff.1 hj
    obtain ⟨hjl, rfl⟩ := List.getElem?_eq_some_iff.1 hy
    obtain ⟨b', off', hA', _, hcc⟩ := StrsV.cell hu hjl
    injection hA' with hA'
    injection hA' with h1 h2
    subst h1 h2
    rw [hadd]
    exact hcc
  · intro q hq
    obtain ⟨y, _, rfl⟩ := List.mem_map.1 hq
    rfl
  · intro v' w' hown hg
    exact hK v' w' (by rw [List.length_append, List.map_append]; exact hown) hg
end
theorem own_view {w : World} {base : Nat} {A : Option Addr} {c : Nat} {l : List Bs} (h : w.ownsRow base 9 1 (.slice A l.length c) l.length (l.map sv)) : StrsV w w.heap.size (.slice A l.length l.length) l := by
  obtain ⟨A', c', e, hc, hx⟩ := StrsV.of_own h
  injection e with e1 e2 e3
  subst e1
  exact ⟨A, l.length, rfl, Nat.le_refl _, hx⟩
theorem own_nilA {w : World} {base : Nat} {A : Option Addr} {n c : Nat} {e : TypeId} {size : Nat} {xs : List Value} (h : w.ownsRow base e size (.slice A n c) n xs) : A = none → n = 0 := by
  rintro rfl
  rcases h.2 with ⟨_, hn⟩ | ⟨g, cap, cur, hv, _⟩
  · exact hn
  · cases hv
set_option maxHeartbeats 2000000 in
set_option maxRecDepth 100000 in
theorem add_any (v : Value) (l : List Idn.Att) (n : ByteArray) (mv : Value) (more : List Bs) (w : World) (hv : AttsV w w.heap.size v l) (hm : StrsV w w.heap.size mv more) (hs : Idn.ASm7 l) (hsr : Idn.ASm7 (Idn.rSorted l)) (hl : l.length ≤ 890) (hn : n.size ≤ 1000000000) (hml : more.length ≤ 1048600) (hmx : ∀ x ∈ more, x.length ≤ 1000000000) (hgn : (rGet l (L n)).length ≤ 10000) (hfin : Idn.ASm7 (aSet (Idn.rSorted l) (L n) (rGet l (L n) ++ more))) :
    Calls Tryz.prog 116 #[v, .string n, mv] w (RetA w (aAdd l (L n) more)) := by
  have hN := name_any n w (by omega)
  have hG := fun W (hW : Below w.heap.size w W) => getG_any v l n W (AttsV.mono (AttsV.keep hv hW) hW.size) hs hn
  have hSo := fun W (hW : Below w.heap.size w W) => sortedG_any v l W (AttsV.mono (AttsV.keep hv hW) hW.size) hs
  have hga := rGet_all (p := fun x => x.length ≤ 1000000000) (fun a ha x hx => (hs.2 a ha).2.2 x hx) (L n)
  have hsl := rSorted_le l
  obtain ⟨A, c, rfl, hc⟩ := SlV.shape hv
  obtain ⟨Am, cm, rfl, hcm⟩ := SlV.shape hm
  have HR : Hid (aAdd l (L n) more = if !Idn.name (L n) then ([], 5) else if more.length = 0 then ([], 6) else if vErr (rGet l (L n)) [] more != 0 then ([], vErr (rGet l (L n)) [] more) else aLim (aSet (Idn.rSorted l) (L n) (rGet l (L n) ++ more)) (L n)) := rfl
  generalize aAdd l (L n) more = r at *
  cases hnm : Idn.name (L n)
  · rw [hnm] at hN
    have HF : Hid (r = ([], 5)) := by show _ = _; rw [HR.out, hnm]; rfl
    clear HR hG hSo hnm
    go_enter Tryz.func116, Tryz.ntmps116
    go_wp2_with (go_at_call 86; refine hN.mono ?_; rintro e w1 ⟨rfl, rfl⟩)
    go_ret2
    exact ⟨_, [], by rw [HF.out]; rfl, AttOwn.nil _ _, by rw [HF.out]; rfl, Below.refl _ _⟩
  rw [hnm] at hN
  by_cases hm0 : more.length = 0
  · have hI : ((more.length : Int) == 0) = true := by rw [hm0]; rfl
    have HF : Hid (r = ([], 6)) := by show _ = _; rw [HR.out, hnm, if_pos hm0]; rfl
    clear HR hG hSo hnm hm0
    go_enter Tryz.func116, Tryz.ntmps116
    go_wp2_with (go_at_call 86; refine hN.mono ?_; rintro e w1 ⟨rfl, rfl⟩)
    go_ret2
    exact ⟨_, [], by rw [HF.out]; rfl, AttOwn.nil _ _, by rw [HF.out]; rfl, Below.refl _ _⟩
  have hI : ((more.length : Int) == 0) = false := by rw [beq_eq_false_iff_ne]; omega
  replace HR : Hid (r = if vErr (rGet l (L n)) [] more != 0 then ([], vErr (rGet l (L n)) [] more) else aLim (aSet (Idn.rSorted l) (L n) (rGet l (L n) ++ more)) (L n)) := by show _ = _; rw [HR.out, hnm, if_neg hm0]; rfl
  have hmpos : 0 < more.length := by omega
  generalize rGet l (L n) = old at *
  generalize Idn.rSorted l = sl at *
  clear hnm hm0
  go_enter Tryz.func116, Tryz.ntmps116
  go_wp2_with fail
  refine hN.mono ?_
  rintro e w0 ⟨rfl, rfl⟩
  clear hN
  go_wp2_with fail
  refine (hG _ (Below.refl _ _)).mono ?_
  rintro e w1 ⟨Ao, co, rfl, hown, hb1⟩
  have hov := own_view hown
  have hon := own_nilA hown
  clear hG hown
  go_wp2_with fail
  go_loopw [22] (fun i wr => ∃ k : Nat, k ≤ more.length ∧ i = .int .i64 k ∧ Below w1.heap.size w1 wr ∧ Hid (vErr old [] more = vErr old (more.take k) (more.drop k))) (fun i _ => more.length - (intOf i).toNat)
  case atStart => exact ⟨0, Nat.zero_le _, rfl, Below.refl _ _, by show _ = _; simp⟩
  case round =>
    obtain ⟨k, hk, rfl, hb, hinv⟩ := hrel
    have hbw := hb1.trans (hb.mono hb1.size)
    by_cases hlt : k < more.length
    · obtain ⟨bm, om, hA, hbl, d0⟩ := StrsV.cell (SlV.keep hm hbw) hlt
      subst hA
      have hltI : (k : Int) < (more.length : Int) := by omega
      have hk0 : (0 : Int) ≤ (k : Int) := by omega
      have hkc : (k : Int) ≤ (cm : Int) := by omega
      have hszB : (B more[k]).size ≤ 1000000000000 := by rw [Idn.size_B]; have := hmx more[k] (List.getElem_mem hlt); omega
      have hCl := fun W => clean_any (B more[k]) W hszB
      have hC1 := fun W (hW : Below w1.heap.size w1 W) => contains_any _ old (B more[k]) W (SlV.mono (SlV.keep hov hW) hW.size) (by omega)
      have hC2 := fun W (hW : Below w1.heap.size w1 W) => contains_any _ (more.take k) (B more[k]) W (SlV.take (SlV.mono (SlV.keep hm (hb1.trans (hW.mono hb1.size))) (Nat.le_trans hb1.size hW.size)) k hk) (by rw [List.length_take]; omega)
      rw [Idn.L_B] at hCl hC1 hC2
      obtain ⟨s1, s2, s3, s4⟩ := vErr_step old more k hlt _ hinv.out
      clear hinv hSo
      cases h1 : Idn.clean more[k]
      · have HE : vErr old [] more = 4 := s1 h1
        have HF : Hid (r = ([], 4)) := by show _ = _; rw [HR.out, HE]; rfl
        rw [h1] at hCl
        clear s1 s2 s3 s4 h1 HE HR
        go_wp2_with fail
        refine (hCl wr).mono ?_
        rintro e w2 ⟨rfl, hb2⟩
        go_wp2
        go_ret2
        exact ⟨_, [], by rw [HF.out]; rfl, AttOwn.nil _ _, by rw [HF.out]; rfl, hbw.trans (hb2.mono hbw.size)⟩
      rw [h1] at hCl
      cases h2 : old.contains more[k]
      · rw [h2] at hC1
        cases h3 : (more.take k).contains more[k]
        · rw [h3] at hC2
          have HE : Hid (vErr old [] more = vErr old (more.take (k + 1)) (more.drop (k + 1))) := s4 h1 h2 h3
          clear s1 s2 s3 s4 h1 h2 h3
          go_wp2_with fail
          refine (hCl wr).mono ?_
          rintro e w2 ⟨rfl, hb2⟩
          have hb12 := hb.trans (hb2.mono hb.size)
          go_wp2_with fail
          refine (hC1 w2 hb12).mono ?_
          rintro e w3 ⟨rfl, rfl⟩
          go_wp2_with fail
          refine (hC2 w2 hb12).mono ?_
          rintro e w3 ⟨rfl, rfl⟩
          go_wp2
          go_roundw
          case rel => exact ⟨k + 1, by omega, by go_num, hb12, HE⟩
          case measure => simp [intOf]; omega
        · rw [h3] at hC2
          have HE : vErr old [] more = 7 := s3 h1 h2 h3
          have HF : Hid (r = ([], 7)) := by show _ = _; rw [HR.out, HE]; rfl
          clear s1 s2 s3 s4 h1 h2 h3 HE HR
          go_wp2_with fail
          refine (hCl wr).mono ?_
          rintro e w2 ⟨rfl, hb2⟩
          have hb12 := hb.trans (hb2.mono hb.size)
          go_wp2_with fail
          refine (hC1 w2 hb12).mono ?_
          rintro e w3 ⟨rfl, rfl⟩
          go_wp2_with fail
          refine (hC2 w2 hb12).mono ?_
          rintro e w3 ⟨rfl, rfl⟩
          go_wp2
          go_ret2
          exact ⟨_, [], by rw [HF.out]; rfl, AttOwn.nil _ _, by rw [HF.out]; rfl, hbw.trans (hb2.mono hbw.size)⟩
      · rw [h2] at hC1
        have HE : vErr old [] more = 7 := s2 h1 h2
        have HF : Hid (r = ([], 7)) := by show _ = _; rw [HR.out, HE]; rfl
        clear s1 s2 s3 s4 h1 h2 HE HR hC2
        go_wp2_with fail
        refine (hCl wr).mono ?_
        rintro e w2 ⟨rfl, hb2⟩
        have hb12 := hb.trans (hb2.mono hb.size)
        go_wp2_with fail
        refine (hC1 w2 hb12).mono ?_
        rintro e w3 ⟨rfl, rfl⟩
        go_wp2
        go_ret2
        exact ⟨_, [], by rw [HF.out]; rfl, AttOwn.nil _ _, by rw [HF.out]; rfl, hbw.trans (hb2.mono hbw.size)⟩
    · have hltI : ¬ (k : Int) < (more.length : Int) := by omega
      have HE : vErr old [] more = 0 := by rw [hinv.out, List.drop_eq_nil_of_le (by omega)]; rfl
      have HF : Hid (r = aLim (aSet sl (L n) (old ++ more)) (L n)) := by show _ = _; rw [HR.out, HE]; rfl
      have hov2 := SlV.mono (SlV.keep hov hb) hb.size
      have hmv2 := SlV.mono (SlV.keep hm hbw) hbw.size
      clear hinv HE HR
      go_wp2_with fail
      refine (hSo wr hbw).mono ?_
      rintro e w2 ⟨v2, ps2, rfl, hown2, hps2, hb2⟩
      obtain ⟨A2, c2, hv2⟩ := own_shape hown2.1
      subst hv2
      have hov3 := SlV.mono (SlV.keep hov2 hb2) hb2.size
      have hmv3 := SlV.mono (SlV.keep hmv2 hb2) hb2.size
      have HPS := Lib.hid hps2
      clear hSo hps2
      go_wp2_with (at_builtin; refine wpList_growS rfl _ _ 45 rfl 9 Tryz.underlying45 info_str Ao old w2.heap.size hov3 rfl hon _ more hmv3 rfl hmpos (by omega) ?_)
      intro v3 w3 hown3 hg3
      have hb3 : Below w2.heap.size w2 w3 := (Below.refl _ _).grown hg3 (Nat.le_refl _) (fun k hk => by cases hk)
      have hown2' := hown2.keep hb3
      obtain ⟨A3, c3, hv3⟩ := own_shape hown3
      subst hv3
      have hown3' : w3.ownsRow w2.heap.size 9 1 (.slice A3 (old ++ more).length c3) (old ++ more).length ((old ++ more).map sv) := by rw [List.length_append, List.map_append]; exact hown3
      have hu3 := StrsV.of_own hown3'
      have hlt2 := fun g => own_lt hown2.1 (g := g)
      have hge3 : ∀ b off, A3 = some ⟨b, off, none⟩ → (Value.slice A2 ps2.length c2).ownBlock ≠ some b := fun b off e h => by
        subst e
        have h1 := hlt2 b h
        rcases hown3.2 with ⟨h0, _⟩ | ⟨g, cap, cur, hv, hbg, _⟩
        · cases h0
        · injection hv with hv
          injection hv with hv
          injection hv with hv
          omega
      have hbs2 := hb2.size
      have hbs3 := hb3.size
      have hps1 : ps2.length ≤ 899 := by
        have e := congrArg List.length HPS.out
        rw [List.length_map] at e
        omega
      have hSet := set_any _ wr.heap.size ps2 n A3 c3 (old ++ more) w3 hown2' (by omega) hu3 hge3 hn (by rw [HPS.out]; exact hsr) hps1 (by rw [List.length_append]; omega) (fun x hx => by
        rcases List.mem_append.1 hx with hx | hx
        · exact hga x hx
        · exact hmx x hx)
      rw [HPS.out, List.length_append] at hSet
      have hbw2 := hbw.trans (hb2.mono hbw.size)
      have hbw3 := hbw2.trans (hb3.mono hbw2.size)
      have HFIN := hfin
      generalize aSet sl (L n) (old ++ more) = fl at *
      clear hown2 hown2' hown3 hown3' hu3 hge3 hlt2 hov3 hmv3 hov2 hmv2
      go_wp2_with fail
      refine hSet.mono ?_
      rintro e w4 ⟨v4, ps4, rfl, hown4, hps4, hb4⟩
      have hbw4 : Below w.heap.size w w4 := hbw3.trans (hb4.mono hbw.size)
      have hLm := limited_any v4 ps4 w3.heap.size fl n w4 hown4 hps4 hn hfin
      obtain ⟨A4, c4, hv4⟩ := own_shape hown4.1
      subst hv4
      clear hSet
      go_wp2_with fail
      refine hLm.mono ?_
      rintro e w5 ⟨v5, ps5, rfl, hown5, hps5, hb5⟩
      obtain ⟨A5, c5, hv5⟩ := own_shape hown5.1
      have HV5 := Lib.hid hv5
      clear hLm hv5
      go_wp2
      go_ret2
      exact ⟨_, ps5, by rw [HF.out]; rfl, hown5.base hbw3.size, by rw [HF.out]; exact hps5, hbw4.trans (hb5.mono hbw4.size)⟩
end Go.Proofs.YtoopoglkeeoamaaGreatDoor
/- attrs: Replace. -/
namespace Go.Proofs.YtoopoglkeeoamaaGreatDoor
open Go.RowKit Go.Sort
open Idn (L B Bs drop_L take_L size_L)
theorem cloneS_any (v : Value) (l : List Bs) (w : World) (hv : StrsV w w.heap.size v l) (hl : l.length ≤ 1000000000) :
    Calls Tryz.prog 181 #[v] w fun e w' => ∃ v', e = .returned v' ∧ w'.ownsRow w.heap.size 9 1 v' l.length (l.map sv) ∧ Below w.heap.size w w' := by
  obtain ⟨A, c, rfl, hc⟩ := hv.shape
  by_cases h0 : l.length = 0
  · have hl0 : l = [] := List.eq_nil_of_length_eq_zero h0
    subst hl0
    cases A with
    | none => exact (Tryz.slices_Clone_string_nil 0 c w).mono fun e w' ⟨h1, h2⟩ => ⟨_, h1, by rw [h2]; exact World.ownsRow_nil _ _ _ _, by rw [h2]; exact Below.refl _ _⟩
    | some a => exact (Tryz.slices_Clone_string_zero a c w).mono fun e w' ⟨v', h1, h2, _, h4⟩ => ⟨v', h1, h2, h4⟩
  · obtain ⟨b, off, rfl, hb, _⟩ := StrsV.cell hv (k := 0) (by omega)
    refine (Tryz.slices_Clone_string b off l.length c (l.map B) w (by simp) (by omega) (fun j hj => ?_)).mono fun e w' ⟨v', h1, h2, _, h4⟩ => ⟨v', h1, ?_, h4⟩
    · rw [List.length_map] at hj
      obtain ⟨b', off', hA', _, hcc⟩ := StrsV.cell hv hj
      injection hA' with hA'
      injection hA' with h1 h2
      subst h1 h2
      rw [hcc]
      simp [List.getD_eq_getElem?_getD, hj]
    · have e : ((l.map B).take l.length).map Value.string = l.map sv := by
        rw [List.take_of_length_le (by simp), List.map_map]; rfl
      rw [e] at h2; exact h2
set_option maxHeartbeats 1000000 in
set_option maxRecDepth 100000 in
theorem replace_any (v : Value) (l : List Idn.Att) (n : ByteArray) (mv : Value) (vals : List Bs) (w : World) (hv : AttsV w w.heap.size v l) (hm : StrsV w w.heap.size mv vals) (hs : Idn.ASm7 l) (hsr : Idn.ASm7 (Idn.rSorted l)) (hl : l.length ≤ 890) (hn : n.size ≤ 1000000000) (hml : vals.length ≤ 1048600) (hmx : ∀ x ∈ vals, x.length ≤ 1000000000) (hfin : Idn.ASm7 (aSet (Idn.rSorted l) (L n) vals)) :
    Calls Tryz.prog 117 #[v, .string n, mv] w (RetA w (aReplace l (L n) vals)) := by
  have hN := name_any n w (by omega)
  have hVs := fun W (hW : Below w.heap.size w W) => values_any mv vals W (SlV.mono (SlV.keep hm hW) hW.size) ⟨by omega, fun x hx => by have := hmx x hx; omega⟩
  have hSo := fun W (hW : Below w.heap.size w W) => sortedG_any v l W (AttsV.mono (AttsV.keep hv hW) hW.size) hs
  have hCl := fun W (hW : Below w.heap.size w W) => cloneS_any mv vals W (SlV.mono (SlV.keep hm hW) hW.size) (by omega)
  have hsl := rSorted_le l
  obtain ⟨A, c, rfl, hc⟩ := SlV.shape hv
  obtain ⟨Am, cm, rfl, hcm⟩ := SlV.shape hm
  have HR : Hid (aReplace l (L n) vals = if !Idn.name (L n) then ([], 5) else if Idn.valsErr [] vals != 0 then ([], Idn.valsErr [] vals) else if 16 < vals.length then ([], 3)
    else aLim (aSet (Idn.rSorted l) (L n) vals) (L n)) := rfl
  generalize aReplace l (L n) vals = r at *
  generalize Idn.valsErr [] vals = ve at *
  generalize Idn.rSorted l = sl at *
  cases hnm : Idn.name (L n)
  · rw [hnm] at hN
    have HF : Hid (r = ([], 5)) := by show _ = _; rw [HR.out, hnm]; rfl
    clear HR hSo hCl hVs hnm
    go_enter Tryz.func117, Tryz.ntmps117
    go_wp2_with (go_at_call 86; refine hN.mono ?_; rintro e w1 ⟨rfl, rfl⟩)
    go_ret2
    exact ⟨_, [], by rw [HF.out]; rfl, AttOwn.nil _ _, by rw [HF.out]; rfl, Below.refl _ _⟩
  rw [hnm] at hN
  replace HR : Hid (r = if ve != 0 then ([], ve) else if 16 < vals.length then ([], 3) else aLim (aSet sl (L n) vals) (L n)) := by show _ = _; rw [HR.out, hnm]; rfl
  clear hnm
  by_cases hve : ve = 0
  case neg =>
    have hI : (ve != 0) = true := by simpa using hve
    have HF : Hid (r = ([], ve)) := by show _ = _; rw [HR.out, if_pos hI]
    clear HR hSo hCl hve
    go_enter Tryz.func117, Tryz.ntmps117
    go_wp2_with fail
    refine hN.mono ?_
    rintro e w0 ⟨rfl, rfl⟩
    go_wp2_with fail
    refine (hVs _ (Below.refl _ _)).mono ?_
    rintro e w1 ⟨rfl, hb1⟩
    go_wp2
    go_ret2
    exact ⟨_, [], by rw [HF.out]; rfl, AttOwn.nil _ _, by rw [HF.out]; rfl, hb1⟩
  subst hve
  replace HR : Hid (r = if 16 < vals.length then ([], 3) else aLim (aSet sl (L n) vals) (L n)) := by show _ = _; rw [HR.out]; rfl
  by_cases h16 : 16 < vals.length
  · have hI : (16 : Int) < (vals.length : Int) := by omega
    have HF : Hid (r = ([], 3)) := by show _ = _; rw [HR.out, if_pos h16]
    clear HR hSo hCl h16
    go_enter Tryz.func117, Tryz.ntmps117
    go_wp2_with fail
    refine hN.mono ?_
    rintro e w0 ⟨rfl, rfl⟩
    go_wp2_with fail
    refine (hVs _ (Below.refl _ _)).mono ?_
    rintro e w1 ⟨rfl, hb1⟩
    go_wp2
    go_ret2
    exact ⟨_, [], by rw [HF.out]; rfl, AttOwn.nil _ _, by rw [HF.out]; rfl, hb1⟩
  have hI : ¬ (16 : Int) < (vals.length : Int) := by omega
  have HF : Hid (r = aLim (aSet sl (L n) vals) (L n)) := by show _ = _; rw [HR.out, if_neg h16]
  clear HR h16
  go_enter Tryz.func117, Tryz.ntmps117
  go_wp2_with fail
  refine hN.mono ?_
  rintro e w0 ⟨rfl, rfl⟩
  go_wp2_with fail
  refine (hVs _ (Below.refl _ _)).mono ?_
  rintro e w1 ⟨rfl, hb1⟩
  clear hVs hN
  go_wp2_with fail
  refine (hSo w1 hb1).mono ?_
  rintro e w2 ⟨v2, ps2, rfl, hown2, hps2, hb2⟩
  obtain ⟨A2, c2, hv2⟩ := own_shape hown2.1
  subst hv2
  have HPS := Lib.hid hps2
  have hbw2 := hb1.trans (hb2.mono hb1.size)
  clear hSo hps2
  go_wp2_with fail
  refine (hCl w2 hbw2).mono ?_
  rintro e w3 ⟨v3, rfl, hown3, hb3⟩
  have hown2' := hown2.keep hb3
  obtain ⟨A3, c3, hv3⟩ := own_shape hown3
  subst hv3
  have hu3 := StrsV.of_own hown3
  have hlt2 := fun g => own_lt hown2.1 (g := g)
  have hge3 : ∀ b off, A3 = some ⟨b, off, none⟩ → (Value.slice A2 ps2.length c2).ownBlock ≠ some b := fun b off e h => by
    subst e
    have h1 := hlt2 b h
    rcases hown3.2 with ⟨h0, _⟩ | ⟨g, cap, cur, hv, hbg, _⟩
    · cases h0
    · injection hv with hv
      injection hv with hv
      injection hv with hv
      omega
  have hbs1 := hb1.size
  have hbs2 := hb2.size
  have hbs3 := hb3.size
  have hps1 : ps2.length ≤ 899 := by
    have e := congrArg List.length HPS.out
    rw [List.length_map] at e
    omega
  have hSet := set_any _ w1.heap.size ps2 n A3 c3 vals w3 hown2' (by omega) hu3 hge3 hn (by rw [HPS.out]; exact hsr) hps1 (by omega) hmx
  rw [HPS.out] at hSet
  have hbw3 := hbw2.trans (hb3.mono hbw2.size)
  generalize aSet sl (L n) vals = fl at *
  clear hown2 hown2' hown3 hu3 hge3 hlt2 hCl
  go_wp2_with fail
  refine hSet.mono ?_
  rintro e w4 ⟨v4, ps4, rfl, hown4, hps4, hb4⟩
  have hbw4 : Below w.heap.size w w4 := hbw3.trans (hb4.mono hbs1)
  have hLm := limited_any v4 ps4 w3.heap.size fl n w4 hown4 hps4 hn hfin
  obtain ⟨A4, c4, hv4⟩ := own_shape hown4.1
  subst hv4
  clear hSet
  go_wp2_with fail
  refine hLm.mono ?_
  rintro e w5 ⟨v5, ps5, rfl, hown5, hps5, hb5⟩
  clear hLm
  go_wp2
  go_ret2
  exact ⟨_, ps5, by rw [HF.out]; rfl, hown5.base hbw3.size, by rw [HF.out]; exact hps5, hbw4.trans (hb5.mono hbw4.size)⟩
end Go.Proofs.YtoopoglkeeoamaaGreatDoor
/- attrs: Remove. -/
namespace Go.Proofs.YtoopoglkeeoamaaGreatDoor
open Go.RowKit Go.Sort
open Idn (L B Bs drop_L take_L size_L)
theorem del_own (g cap k0 i : Nat) (q : List Bs) (base : Nat) (w : World) (hown : w.ownsRow base 9 1 (.slice (some ⟨g, 0, none⟩) q.length cap) q.length (q.map sv)) (hi : i < q.length) (hk : q.length ≤ k0) (hk9 : k0 ≤ 1000000000) :
    Calls Tryz.prog 179 #[.slice (some ⟨g, 0, none⟩) q.length k0, .int .i64 (i : Int), .int .i64 ((i : Int) + 1)] w fun e w' => e = .returned (.slice (some ⟨g, 0, none⟩) (q.take i ++ q.drop (i + 1)).length k0) ∧
      w'.ownsRow base 9 1 (.slice (some ⟨g, 0, none⟩) (q.take i ++ q.drop (i + 1)).length cap) (q.take i ++ q.drop (i + 1)).length ((q.take i ++ q.drop (i + 1)).map sv) ∧ w.grownBy w' (some g) := by
  rcases hown.2 with ⟨hnil, hn0⟩ | ⟨g', cap', cur, hu, hbase, hbk, h1, h2, h3, h4⟩
  · omega
  injection hu with hu1 hu2 hu3
  injection hu1 with hu1
  injection hu1 with hu1
  subst hu1 hu3
  have hh : Holds encStr w g 0 q.toArray := holds_of_block hbk (by have := h4; rw [Nat.mul_one] at this; exact this)
  have hlen : (q.take i ++ q.drop (i + 1)).length = q.length - 1 := by simp; omega
  have hD := Tryz.slices_Delete_string g 0 k0 i (i + 1) q w hh hk (by omega) (by omega) (by omega)
  refine Calls.mono hD ?_
  rintro e w3 ⟨rfl, n, rfl⟩
  have e1 : i + 1 - i = 1 := by omega
  rw [e1]
  have hl2 : (q.take i ++ q.drop (i + 1) ++ List.replicate 1 []).length = q.length := by rw [List.length_append, hlen]; simp; omega
  have e0 := (grow_empty (putRow encStr (Go.Sort.ahead w n) g 0 (q.take i ++ q.drop (i + 1) ++ List.replicate 1 []).toArray)).symm
  refine ⟨by rw [hlen], ?_, ?_⟩
  · rw [e0]
    refine ⟨by simp, .inr ⟨g, cap, _, rfl, hbase, heap_sorted _ hbk, by omega, h2, by simp [putCells, h3], ?_⟩⟩
    have ht := take_putCells cur (q.take i ++ q.drop (i + 1) ++ List.replicate 1 []) (by omega)
    have ht2 := congrArg (List.take (q.take i ++ q.drop (i + 1)).length) ht
    rw [List.take_take, Nat.min_eq_left (by rw [hl2, hlen]; omega), ← List.map_take, List.take_left' rfl] at ht2
    rw [Nat.mul_one]
    exact ht2
  · rw [e0]
    exact grownBy_sorted _
theorem idxS_from (x : Bs) : ∀ (l : List Bs) (k : Nat), (l.contains x = false ∧ Lib.idxFromS (l.map B) (B x) k = -1) ∨ ∃ i, i < l.length ∧ Lib.idxFromS (l.map B) (B x) k = ((k + i : Nat) : Int) ∧ l.erase x = l.take i ++ l.drop (i + 1) ∧ l.contains x = true
  | [], k => .inl ⟨rfl, rfl⟩
  | y :: l, k => by
    by_cases h : y = x
    · subst h
      exact .inr ⟨0, by simp, by simp [Lib.idxFromS], by simp, by simp⟩
    · have hB : ¬ B y = B x := fun e => h (B_inj e)
      have hc : (y :: l).contains x = l.contains x := by
        rw [List.contains_cons]
        have : (x == y) = false := by rw [beq_eq_false_iff_ne]; exact fun e => h e.symm
        rw [this, Bool.false_or]
      have he : (y :: l).erase x = y :: l.erase x := by rw [List.erase_cons_tail (by simpa using h)]
      have hi : Lib.idxFromS ((y :: l).map B) (B x) k = Lib.idxFromS (l.map B) (B x) (k + 1) := by simp [Lib.idxFromS, hB]
      rw [hc, he, hi]
      rcases idxS_from x l (k + 1) with ⟨a, b⟩ | ⟨i, a, b, c, d⟩
      · exact .inl ⟨a, b⟩
      · exact .inr ⟨i + 1, by simp; omega, by rw [b]; congr 1; omega, by rw [c]; simp, d⟩
theorem idxS_law (x : Bs) (l : List Bs) : (l.contains x = false ∧ Lib.idxOfS (l.map B) (B x) = -1) ∨ ∃ i, i < l.length ∧ Lib.idxOfS (l.map B) (B x) = (i : Int) ∧ l.erase x = l.take i ++ l.drop (i + 1) ∧ l.contains x = true := by
  have := idxS_from x l 0
  simpa [Lib.idxOfS] using this
theorem index9_any (A : Option Addr) (n c : Nat) (l : List Bs) (x : Bs) (w : World) (hv : StrsV w w.heap.size (.slice A n c) l) (hl : l.length ≤ 1000000000) :
    Calls Tryz.prog 178 #[.slice A n c, .string (B x)] w fun e w' => e = .returned (.int .i64 (Lib.idxOfS (l.map B) (B x))) ∧ w = w' := by
  have hn := hv.len
  subst hn
  by_cases h0 : l.length = 0
  · have hl0 : l = [] := List.eq_nil_of_length_eq_zero h0
    subst hl0
    exact (Tryz.slices_Index_string_empty A c (B x) w).mono fun e w' ⟨h1, h2⟩ => ⟨h1, h2.symm⟩
  · obtain ⟨b, off, rfl, hb, _⟩ := StrsV.cell hv (k := 0) (by omega)
    refine (Tryz.slices_Index_string b off l.length c (l.map B) (B x) w (by simp) (by omega) (fun j hj => ?_)).mono fun e w' ⟨h1, h2⟩ => ⟨?_, h2.symm⟩
    · rw [List.length_map] at hj
      obtain ⟨b', off', hA', _, hcc⟩ := StrsV.cell hv hj
      injection hA' with hA'
      injection hA' with h1 h2
      subst h1 h2
      rw [hcc]
      simp [List.getD_eq_getElem?_getD, hj]
    · have e1 : (l.map B).take l.length = l.map B := List.take_of_length_le (by simp)
      rw [e1] at h1; exact h1
end Go.Proofs.YtoopoglkeeoamaaGreatDoor
/- attrs: Remove, walked. -/
namespace Go.Proofs.YtoopoglkeeoamaaGreatDoor
open Go.RowKit Go.Sort
open Idn (L B Bs drop_L take_L size_L)
theorem rmK_step (l : List Bs) (k : Nat) (hk : k < l.length) (cur : List Bs) (r : Option (List Bs)) (h : r = rmK cur (l.drop k)) : (cur.contains l[k] = false → r = none) ∧ (cur.contains l[k] = true → r = rmK (cur.erase l[k]) (l.drop (k + 1))) := by
  rw [List.drop_eq_getElem_cons hk, rmK] at h
  exact ⟨fun hn => by rw [h, hn]; rfl, fun hn => by rw [h, hn]; rfl⟩
def rmRes (sl : List Idn.Att) (n : Bs) : Option (List Bs) → List Idn.Att × Int
  | none => ([], 6)
  | some o => (aSet sl n o, 0)
theorem aRemove_unf (l : List Idn.Att) (n : Bs) (v : List Bs) : aRemove l n v = if !Idn.name n then ([], 5) else if (rGet l n).length = 0 then ([], 6) else if v.length = 0 then (aSet (Idn.rSorted l) n [], 0) else rmRes (Idn.rSorted l) n (rmK (rGet l n) v) := by
  unfold aRemove
  split
  · rfl
  · split
    · rfl
    · split
      · rfl
      · cases rmK (rGet l n) v <;> rfl
set_option maxHeartbeats 1000000 in
set_option maxRecDepth 100000 in
theorem remove_any (v : Value) (l : List Idn.Att) (n : ByteArray) (mv : Value) (less : List Bs) (w : World) (hv : AttsV w w.heap.size v l) (hm : StrsV w w.heap.size mv less) (hs : Idn.ASm7 l) (hsr : Idn.ASm7 (Idn.rSorted l)) (hl : l.length ≤ 890) (hn : n.size ≤ 1000000000) (hml : less.length ≤ 1048600) (hgn : (rGet l (L n)).length ≤ 10000) :
    Calls Tryz.prog 115 #[v, .string n, mv] w (RetA w (aRemove l (L n) less)) := by
  have hN := name_any n w (by omega)
  have hG := fun W (hW : Below w.heap.size w W) => getG_any v l n W (AttsV.mono (AttsV.keep hv hW) hW.size) hs hn
  have hSo := fun W (hW : Below w.heap.size w W) => sortedG_any v l W (AttsV.mono (AttsV.keep hv hW) hW.size) hs
  have hga := rGet_all (p := fun x => x.length ≤ 1000000000) (fun a ha x hx => (hs.2 a ha).2.2 x hx) (L n)
  have hsl := rSorted_le l
  obtain ⟨A, c, rfl, hc⟩ := SlV.shape hv
  obtain ⟨Am, cm, rfl, hcm⟩ := SlV.shape hm
  have HR := Lib.hid (aRemove_unf l (L n) less)
  generalize aRemove l (L n) less = r at *
  generalize rGet l (L n) = old at *
  generalize Idn.rSorted l = sl at *
  cases hnm : Idn.name (L n)
  · rw [hnm] at hN
    have HF : Hid (r = ([], 5)) := by show _ = _; rw [HR.out, hnm]; rfl
    clear HR hSo hG hnm
    go_enter Tryz.func115, Tryz.ntmps115
    go_wp2_with (go_at_call 86; refine hN.mono ?_; rintro e w1 ⟨rfl, rfl⟩)
    go_ret2
    exact ⟨_, [], by rw [HF.out]; rfl, AttOwn.nil _ _, by rw [HF.out]; rfl, Below.refl _ _⟩
  rw [hnm] at hN
  by_cases ho : old.length = 0
  · have hI : ((old.length : Int) == 0) = true := by rw [ho]; rfl
    have HF : Hid (r = ([], 6)) := by show _ = _; rw [HR.out, hnm, if_pos ho]; rfl
    clear HR hSo hnm ho
    go_enter Tryz.func115, Tryz.ntmps115
    go_wp2_with fail
    refine hN.mono ?_
    rintro e w0 ⟨rfl, rfl⟩
    go_wp2_with fail
    refine (hG _ (Below.refl _ _)).mono ?_
    rintro e w1 ⟨Ao, co, rfl, hown, hb1⟩
    clear hown
    go_wp2
    go_ret2
    exact ⟨_, [], by rw [HF.out]; rfl, AttOwn.nil _ _, by rw [HF.out]; rfl, hb1⟩
  have hI : ((old.length : Int) == 0) = false := by rw [beq_eq_false_iff_ne]; omega
  replace HR : Hid (r = if less.length = 0 then (aSet sl (L n) [], 0) else rmRes sl (L n) (rmK old less)) := by show _ = _; rw [HR.out, hnm, if_neg ho]; rfl
  clear hnm
  -- set at the end, whatever is left
  have hSet := fun W (hW : Below w.heap.size w W) (ps2 : List (Idn.Att × Value)) v2 (B1 : Nat) (hB : w.heap.size ≤ B1) (hBW : B1 ≤ W.heap.size) (hown : AttOwn W B1 v2 ps2) (hps : ps2.map (·.1) = sl) (A3 : Option Addr) (c3 : Nat) (q : List Bs) (hq : StrsV W W.heap.size (.slice A3 q.length c3) q) (hap : ∀ b off, A3 = some ⟨b, off, none⟩ → v2.ownBlock ≠ some b) (hql : q.length ≤ 100000) (hqx : ∀ x ∈ q, x.length ≤ 1000000000) =>
    set_any v2 B1 ps2 n A3 c3 q W hown hBW hq hap hn (by rw [hps]; exact hsr) (by
      have e := congrArg List.length hps
      rw [List.length_map] at e
      omega) (by omega) hqx
  by_cases hl0 : less.length = 0
  · have hI2 : ((less.length : Int) == 0) = true := by rw [hl0]; rfl
    have HF : Hid (r = (aSet sl (L n) [], 0)) := by show _ = _; rw [HR.out, if_pos hl0]
    clear HR hl0 ho
    go_enter Tryz.func115, Tryz.ntmps115
    go_wp2_with fail
    refine hN.mono ?_
    rintro e w0 ⟨rfl, rfl⟩
    go_wp2_with fail
    refine (hG _ (Below.refl _ _)).mono ?_
    rintro e w1 ⟨Ao, co, rfl, hown, hb1⟩
    clear hown hG
    go_wp2_with fail
    refine (hSo w1 hb1).mono ?_
    rintro e w2 ⟨v2, ps2, rfl, hown2, hps2, hb2⟩
    obtain ⟨A2, c2, hv2⟩ := own_shape hown2.1
    subst hv2
    have hbw2 := hb1.trans (hb2.mono hb1.size)
    have hS2 := hSet w2 hbw2 ps2 _ w1.heap.size hb1.size hb2.size hown2 hps2 none 0 [] (SlV.nil _ _ _ _) (by simp) (by simp) (by simp)
    rw [hps2] at hS2
    generalize aSet sl (L n) [] = fl at *
    clear hSo hSet hown2 hps2
    go_wp2_with fail
    refine hS2.mono ?_
    rintro e w3 ⟨v3, ps3, rfl, hown3, hps3, hb3⟩
    clear hS2
    go_wp2
    go_ret2
    exact ⟨_, ps3, by rw [HF.out]; rfl, hown3.base hbw2.size, by rw [HF.out]; exact hps3, hbw2.trans (hb3.mono hb1.size)⟩
  have hI2 : ((less.length : Int) == 0) = false := by rw [beq_eq_false_iff_ne]; omega
  replace HR : Hid (r = rmRes sl (L n) (rmK old less)) := by show _ = _; rw [HR.out, if_neg hl0]
  clear hl0
  go_enter Tryz.func115, Tryz.ntmps115
  go_wp2_with fail
  refine hN.mono ?_
  rintro e w0 ⟨rfl, rfl⟩
  go_wp2_with fail
  refine (hG _ (Below.refl _ _)).mono ?_
  rintro e w1 ⟨Ao, co, rfl, hown, hb1⟩
  obtain ⟨g, cap, hu, hgb, hgl⟩ := hown.form (by omega)
  injection hu with hu1 hu2 hu3
  subst hu1 hu3
  clear hG
  go_wp2_with fail
  have hview : ∀ (W : World) (cur : List Bs), W.ownsRow w.heap.size 9 1 (.slice (some ⟨g, 0, none⟩) cur.length co) cur.length (cur.map sv) → cur.length ≤ old.length → StrsV W W.heap.size (.slice (some ⟨g, 0, none⟩) cur.length old.length) cur := fun W cur h hle => by
    obtain ⟨A', c', e, hc, hx⟩ := StrsV.of_own h
    injection e with e1 e2 e3
    subst e1
    exact ⟨_, old.length, rfl, hle, hx⟩
  go_loopw [8, 30] (fun o i wr => ∃ (k : Nat) (cur : List Bs), k ≤ less.length ∧ i = .int .i64 k ∧ o = .slice (some ⟨g, 0, none⟩) cur.length old.length ∧ wr.ownsRow w.heap.size 9 1 (.slice (some ⟨g, 0, none⟩) cur.length co) cur.length (cur.map sv) ∧ Below w.heap.size w wr ∧ Hid (rmK old less = rmK cur (less.drop k)) ∧ cur.length ≤ old.length ∧ Hid (∀ x ∈ cur, x.length ≤ 1000000000)) (fun _ i _ => less.length - (intOf i).toNat)
  case atStart => exact ⟨0, old, Nat.zero_le _, rfl, rfl, hown, hb1, by show _ = _; simp, Nat.le_refl _, hga⟩
  case round =>
    obtain ⟨k, cur, hk, rfl, rfl, hownc, hb, hinv, hcl, hcx⟩ := hrel
    have hvc := hview wr cur hownc hcl
    by_cases hlt : k < less.length
    · obtain ⟨bm, om, hA, hbl, d0⟩ := StrsV.cell (SlV.keep hm hb) hlt
      subst hA
      have hltI : (k : Int) < (less.length : Int) := by omega
      obtain ⟨t1, t2⟩ := rmK_step less k hlt cur _ hinv.out
      have hIx := index9_any _ _ _ cur less[k] wr hvc (by omega)
      rcases idxS_law less[k] cur with ⟨h1, h2⟩ | ⟨i, hi, h2, h3, h4⟩
      · have HF : Hid (r = ([], 6)) := by show _ = _; rw [HR.out, t1 h1]; rfl
        rw [h2] at hIx
        clear t1 t2 h1 h2 HR hinv hownc hvc hSo hSet hview
        go_wp2_with fail
        refine hIx.mono ?_
        rintro e w2 ⟨rfl, rfl⟩
        go_wp2
        go_ret2
        exact ⟨_, [], by rw [HF.out]; rfl, AttOwn.nil _ _, by rw [HF.out]; rfl, hb⟩
      · have HE : Hid (rmK old less = rmK (cur.take i ++ cur.drop (i + 1)) (less.drop (k + 1))) := by show _ = _; rw [t2 h4, h3]
        rw [h2] at hIx
        have hD := del_own g co old.length i cur w.heap.size wr hownc hi hcl (by omega)
        have hi0 : ¬ ((i : Int) < 0) := by omega
        have hiB : (i : Int) < 1000000 := by omega
        have hsub : (cur.take i ++ cur.drop (i + 1)).length ≤ old.length := by simp; omega
        have HX : Hid (∀ x ∈ cur.take i ++ cur.drop (i + 1), x.length ≤ 1000000000) := by
          show ∀ x ∈ _, _
          intro x hx
          rcases List.mem_append.1 hx with hx | hx
          · exact hcx.out x (List.mem_of_mem_take hx)
          · exact hcx.out x (List.mem_of_mem_drop hx)
        generalize cur.take i ++ cur.drop (i + 1) = cu2 at *
        clear t1 t2 h2 h3 h4 HR hinv hownc hvc hSo hSet hview hcx hga hsr hs hsl hown hgl hi0
        have hneg : decide ((i : Int) < 0) = false := decide_eq_false (by omega)
        have HD := Lib.hid hD
        have hi9 : (i : Int) + 1 ≤ 1000000 := by omega
        have hi8 : (0 : Int) ≤ (i : Int) := by omega
        clear hD
        go_wp2_with fail
        refine hIx.mono ?_
        rintro e w2 ⟨rfl, rfl⟩
        go_wp2_with fail
        refine HD.out.mono ?_
        rintro e w2 ⟨rfl, hown2, hg2⟩
        have hb2 := hb.grown hg2 hb.size (fun x hx => by injection hx with hx; omega)
        clear HD hIx
        go_wp2_with fail
        go_roundw
        case rel => exact ⟨k + 1, cu2, by omega, by go_num, rfl, hown2, hb2, HE, hsub, HX⟩
        case measure => simp [intOf]; omega
    · have hltI : ¬ (k : Int) < (less.length : Int) := by omega
      have HE : rmK old less = some cur := by rw [hinv.out, List.drop_eq_nil_of_le (by omega)]; rfl
      have HF : Hid (r = (aSet sl (L n) cur, 0)) := by show _ = _; rw [HR.out, HE]; rfl
      have hgw := (own_cell hownc).2.2.2
      clear HR hinv HE hownc hview
      go_wp2_with fail
      refine (hSo wr hb).mono ?_
      rintro e w2 ⟨v2, ps2, rfl, hown2, hps2, hb2⟩
      obtain ⟨A2, c2, hv2⟩ := own_shape hown2.1
      subst hv2
      have hbw2 := hb.trans (hb2.mono hb.size)
      have hS2 := hSet w2 hbw2 ps2 _ wr.heap.size hb.size hb2.size hown2 hps2 _ _ cur (SlV.mono (SlV.keep hvc hb2) hb2.size) (fun b off e h => by
        injection e with e
        injection e with e1 e2
        have := (hown2.1.lt _ h).1
        omega) (by omega) hcx.out
      rw [hps2] at hS2
      generalize aSet sl (L n) cur = fl at *
      clear hSo hSet hown2 hps2 hvc hcx
      go_wp2_with fail
      refine hS2.mono ?_
      rintro e w3 ⟨v3, ps3, rfl, hown3, hps3, hb3⟩
      clear hS2
      go_wp2
      go_ret2
      exact ⟨_, ps3, by rw [HF.out]; rfl, hown3.base hbw2.size, by rw [HF.out]; exact hps3, hbw2.trans (hb3.mono hb.size)⟩
end Go.Proofs.YtoopoglkeeoamaaGreatDoor
