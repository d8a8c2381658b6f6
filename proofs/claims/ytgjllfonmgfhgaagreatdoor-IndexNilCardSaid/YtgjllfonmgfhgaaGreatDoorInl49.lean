/- Part 49 of the proof that identitylaw11.IndexNil returns true at every entry, name and filter: the package variables hold what the program lays; nothing else is asked. -/
import Derived.Test.YtgjllfonmgfhgaaGreatDoorInl08
import Derived.Test.YtgjllfonmgfhgaaGreatDoorInl14
import Derived.Test.YtgjllfonmgfhgaaGreatDoorInl39
import Derived.Test.YtgjllfonmgfhgaaGreatDoorInl40
import Derived.Test.YtgjllfonmgfhgaaGreatDoorInl47
import Derived.Test.YtgjllfonmgfhgaaGreatDoorInl48
import Derived.Deep.RegionWith
set_option linter.unusedVariables false
set_option linter.unusedSimpArgs false
/- Schemas cloned: slices.Clone at types and classes, index.owned. -/
namespace Go.Proofs.YtgjllfonmgfhgaaGreatDoor
open Go.RowKit Go.Sort
open Idn (L B Bs drop_L take_L size_L)
section
variable {α : Type}
/-- elements with their cells, one after the other -/
def rowQ (qs : List (α × List Value)) : List Value := qs.flatMap (·.2)
theorem rowQ_len {size : Nat} : ∀ {qs : List (α × List Value)}, (∀ q ∈ qs, q.2.length = size) → (rowQ qs).length = qs.length * size
  | [], _ => by simp [rowQ]
  | q :: qs, h => by
    have h1 := h q List.mem_cons_self
    have h2 := rowQ_len fun p hp => h p (List.mem_cons_of_mem _ hp)
    have e : rowQ (q :: qs) = q.2 ++ rowQ qs := rfl
    rw [e, List.length_append, h1, h2, List.length_cons, Nat.add_mul]; omega
theorem rowQ_at {size : Nat} : ∀ {qs : List (α × List Value)}, (∀ q ∈ qs, q.2.length = size) → ∀ {i : Nat} {q : α × List Value}, qs[i]? = some q → ∀ {k : Nat} {u : Value}, q.2[k]? = some u → (rowQ qs)[i * size + k]? = some u
  | [], _, i, q, h, _, _, _ => by simp at h
  | p :: qs, hs, 0, q, h, k, u, hk => by
    simp at h
    subst h
    have e : rowQ (p :: qs) = p.2 ++ rowQ qs := rfl
    have hkl := (List.getElem?_eq_some_iff.1 hk).1
    rw [e, Nat.zero_mul, Nat.zero_add, List.getElem?_append_left hkl]
    exact hk
  | p :: qs, hs, i + 1, q, h, k, u, hk => by
    have h1 := hs p List.mem_cons_self
    have h2 := rowQ_at (fun p hp => hs p (List.mem_cons_of_mem _ hp)) (by simpa using h) hk
    have e : rowQ (p :: qs) = p.2 ++ rowQ qs := rfl
    rw [e, List.getElem?_append_right (by rw [h1, Nat.add_mul]; omega), h1, show (i + 1) * size + k - size = i * size + k by rw [Nat.add_mul]; omega]
    exact h2
theorem rowQ_inv {size : Nat} : ∀ {qs : List (α × List Value)}, (∀ q ∈ qs, q.2.length = size) → ∀ {j : Nat} {u : Value}, (rowQ qs)[j]? = some u → ∃ i q k, qs[i]? = some q ∧ q.2[k]? = some u ∧ j = i * size + k
  | [], _, j, u, h => by simp [rowQ] at h
  | p :: qs, hs, j, u, h => by
    have h1 := hs p List.mem_cons_self
    have e : rowQ (p :: qs) = p.2 ++ rowQ qs := rfl
    rw [e] at h
    by_cases hj : j < p.2.length
    · rw [List.getElem?_append_left hj] at h
      exact ⟨0, p, j, rfl, h, by omega⟩
    · rw [List.getElem?_append_right (by omega)] at h
      obtain ⟨i, q, k, h2, h3, h4⟩ := rowQ_inv (fun p hp => hs p (List.mem_cons_of_mem _ hp)) h
      exact ⟨i + 1, q, k, by simpa using h2, h3, by rw [Nat.add_mul]; omega⟩
theorem SlV.cellsQ {E : α → List Value → Prop} {w : World} {hi size : Nat} {A : Option Addr} {n c : Nat} {l : List α} (h : SlV E w hi size (.slice A n c) l) :
    ∃ qs : List (α × List Value), qs.map (·.1) = l ∧ (∀ q ∈ qs, q.2.length = size ∧ E q.1 q.2) ∧ ∀ b off, A = some ⟨b, off, none⟩ → ∀ (j : Nat) u, (rowQ qs)[j]? = some u → w.cell? ⟨b, off + j, none⟩ = some u := by
  obtain ⟨qs, h1, h2⟩ := exL (fun i (q : α × List Value) => l[i]? = some q.1 ∧ q.2.length = size ∧ E q.1 q.2 ∧ ∀ b off, A = some ⟨b, off, none⟩ → ∀ (j : Nat) u, q.2[j]? = some u → w.cell? ⟨b, off + (i * size + j), none⟩ = some u) l.length fun i hil => by
    obtain ⟨A', c', hv, _, hp⟩ := h
    injection hv with hv1 _ _
    obtain ⟨b, off, hA, hb, hx⟩ := hp (by omega)
    obtain ⟨cs, g1, g2, g3⟩ := hx i l[i] (List.getElem?_eq_getElem hil)
    refine ⟨(l[i], cs), List.getElem?_eq_getElem hil, g1, g2, fun b' off' e j u hj => ?_⟩
    rw [hv1, hA] at e
    injection e with e
    injection e with e1 e2
    subst e1 e2
    exact g3 j u hj
  have hall : ∀ q ∈ qs, q.2.length = size ∧ E q.1 q.2 := fun q hq => by
    obtain ⟨i, hi', rfl⟩ := List.getElem_of_mem hq
    have := h2 i _ (List.getElem?_eq_getElem hi')
    exact ⟨this.2.1, this.2.2.1⟩
  refine ⟨qs, ?_, hall, fun b off hA j u hj => ?_⟩
  · apply List.ext_getElem?
    intro i
    rw [List.getElem?_map]
    by_cases hi' : i < qs.length
    · rw [(h2 i _ (List.getElem?_eq_getElem hi')).1, List.getElem?_eq_getElem hi']; rfl
    · rw [List.getElem?_eq_none (by omega), List.getElem?_eq_none (by omega)]; rfl
  · obtain ⟨i, q, k, hq, hk, rfl⟩ := rowQ_inv (fun q hq => (hall q hq).1) hj
    exact (h2 i q hq).2.2.2 b off hA k u hk
theorem SlV.ofQ {E : α → List Value → Prop} {w : World} {size base : Nat} {e : TypeId} {v : Value} {l : List α} {qs : List (α × List Value)} (h : w.ownsRow base e size v l.length (rowQ qs)) (hl : qs.map (·.1) = l) (hE : ∀ q ∈ qs, q.2.length = size ∧ E q.1 q.2) : SlV E w w.heap.size size v l := by
  subst hl
  refine SlV.own h fun i x hx => ?_
  rw [List.getElem?_map] at hx
  obtain ⟨q, hq, rfl⟩ := Option.map_eq_some_iff.1 hx
  obtain ⟨h1, h2⟩ := hE q (List.mem_of_getElem? hq)
  exact ⟨q.2, h1, h2, fun j u hj => rowQ_at (fun q hq => (hE q hq).1) hq hj⟩
end
section
variable {w : World} {ops : Array Oper} {rest : List Oper} {o : Oper} {a : Act} {Q : Exit → Act → World → Prop}
/-- 'append([]T{}, l...)' where the elements' cells are whole values -/
theorem wpList_appendQ {α : Type} {E : α → List Value → Prop} (hgd : o.guard = none) (s x : Operand) (st et : TypeId) (ho : o.op = .call { callee := .builtin .append, args := #[s, x], argTypes := #[st, st] }) (hst : Tryz.prog.underlying st = some (.slice et)) (z : Value) (size bytes : Nat) (hinf : (Tryz.prog.info? et).map (fun i => (i.zero, i.size, i.bytes)) = some (some z, size, bytes)) (hzf : z.cells.size = size) (hs0 : 0 < size) (hby : bytes ≤ 100)
    (base : Nat) (v : Value) (hown : w.ownsRow base et size v 0 []) (hs : a.eval s = v) (u : Value) (l : List α) (hi : Nat) (hu : SlV E w hi size u l) (hx : a.eval x = u) (hE : ∀ x cs, E x cs → ∀ u ∈ cs, u.oneCell' = true)
    (hn : l.length ≤ 1000000) (hbase : base ≤ w.heap.size)
    (hK : ∀ v' w' qs, Hid (qs.map (·.1) = l) → (∀ q ∈ qs, q.2.length = size ∧ E q.1 q.2) → w'.ownsRow base et size v' l.length (rowQ qs) → Below base w w' → wpList Tryz.prog ops Q rest (a.put o.dst v') w') : wpList Tryz.prog ops Q (o :: rest) a w := by
  obtain ⟨i, hi', hz0, hz1, hz2⟩ := info_parts hinf
  obtain ⟨A, c, rfl, hc⟩ := SlV.shape hu
  obtain ⟨qs, p1, p2, p3⟩ := SlV.cellsQ hu
  by_cases hl : l.length = 0
  · have hl0 : l = [] := List.eq_nil_of_length_eq_zero hl
    subst hl0
    have hp0 : qs = [] := List.map_eq_nil_iff.1 p1
    subst hp0
    refine wpList_plain hgd fun K hK' => ?_
    have hrun := run_append_nilsrc (P := Tryz.prog) (w := w) base st o.type et i size hst hi' v 0 [] hown A c
    unfold Oper.wp execOp
    simp only [List.length_nil] at hx
    simp only [ho, resolve, invoke, builtin, Sem.run_bind, Sem.run_pure, Result.andThen_ok, List.map_toArray, List.map_cons, List.map_nil, hs, hx, hrun]
    exact hK' _ _ (hK v w [] rfl p2 (by simpa [rowQ] using hown) (Below.refl _ _))
  · obtain ⟨b, off, hA, _, _⟩ := hu.at_ (k := 0) (by omega)
    subst hA
    have hpl : qs.length = l.length := by rw [← p1, List.length_map]
    have hql := rowQ_len fun q hq => (p2 q hq).1
    refine wpList_append_own_at _ hgd s x st ho base et i z size bytes hst hi' hz0 hz1 hz2 hzf hs0 v 0 [] hs hown ⟨b, off, none⟩ l.length c (rowQ qs) hx (by rw [hql, hpl]) ?_ ?_ (by unfold maxLen; omega) ?_ hbase ?_
    · intro j q hj
      have hadd : (⟨b, off, none⟩ : Addr).add j = ⟨b, off + j, none⟩ := by unfold Addr.add; split <;> simp_all
      rw [hadd]
      exact p3 b off rfl j q hj
    · intro u hu'
      unfold rowQ at hu'
      obtain ⟨q, hq, hu'⟩ := List.mem_flatMap.1 hu'
      exact hE q.1 q.2 (p2 q hq).2 u hu'
    · have := Nat.mul_le_mul (show 0 + l.length ≤ 1000000 by omega) hby
      omega
    · intro v' w' hown' hg _ hat
      rw [Nat.zero_add, List.nil_append] at hown'
      exact hK v' w' qs p1 p2 hown' ((Below.refl base w).grown hg hbase (fun k hk => (hown.lt k hk).1))
end
theorem et_one : ∀ x cs, ET x cs → ∀ u ∈ cs, u.oneCell' = true := by
  rintro x cs rfl u hu
  simp at hu
  rcases hu with rfl | rfl | rfl <;> rfl
theorem ec_one {w : World} {hi : Nat} : ∀ x cs, EC w hi x cs → ∀ u ∈ cs, u.oneCell' = true := by
  rintro x cs ⟨v, u, rfl, h1, h2⟩ y hy
  obtain ⟨A, c, rfl, _⟩ := SlV.shape h1
  obtain ⟨A', c', rfl, _⟩ := SlV.shape h2
  simp at hy
  rcases hy with rfl | rfl | rfl | rfl <;> rfl
set_option maxRecDepth 100000 in
theorem cloneT_any (v : Value) (l : List Idn.AT) (w : World) (hv : TypesV w w.heap.size v l) (hl : l.length ≤ 1000000) :
    Calls Tryz.prog 80 #[v] w fun e w' => ∃ v' qs, e = .returned v' ∧ w'.ownsRow w.heap.size 85 3 v' l.length (rowQ qs) ∧ qs.map (·.1) = l ∧ (∀ q ∈ qs, q.2.length = 3 ∧ ET q.1 q.2) ∧ Below w.heap.size w w' := by
  obtain ⟨A, c, rfl, hc⟩ := SlV.shape hv
  have hnil := fun W => Lib.run_eql_slice_nil (P := Tryz.prog) W 22 85 A l.length c 0 0 Tryz.underlying22
  cases A with
  | none =>
    have hl0 : l = [] := by
      cases l with
      | nil => rfl
      | cons a l =>
        obtain ⟨b, off, hA, _⟩ := SlV.at_ hv (k := 0) (by simp)
        cases hA
    subst hl0
    replace hnil : ∀ W, (binOp .eql 22 (.slice none 0 c) (.slice none 0 0)).run Tryz.prog W = .ok (.bool true) W := hnil
    go_enter Tryz.func80, Tryz.ntmps80
    go_wp2
    go_ret
    exact ⟨_, [], rfl, World.ownsRow_nil _ _ _ _, rfl, by simp, Below.refl _ _⟩
  | some ad =>
    replace hnil : ∀ W, (binOp .eql 22 (.slice (some ad) l.length c) (.slice none 0 0)).run Tryz.prog W = .ok (.bool false) W := hnil
    have ba := (Below.refl w.heap.size w).alloc (Nat.le_refl _) (.cells #[] 85)
    have hlit := World.ownsRow_lit (base := w.heap.size) (e := 85) (size := 3) w #[] 0 (Nat.le_refl _) (by decide) rfl
    have hva := SlV.keep hv ba
    go_enter Tryz.func80, Tryz.ntmps80
    go_wp2_with (at_builtin; refine wpList_appendQ rfl _ _ 22 85 rfl Tryz.underlying22 _ 3 32 info_at rfl (by decide) (by decide) w.heap.size _ hlit rfl _ l w.heap.size hva rfl et_one hl ba.size ?_)
    intro v' w' qs P1 P2 hown hb
    go_wp2
    go_ret
    exact ⟨_, qs, rfl, hown, P1.out, fun q hq => P2 q.1 q.2 hq, ba.trans hb⟩
set_option maxRecDepth 100000 in
theorem cloneC_any (v : Value) (l : List Idn.Cl) (w : World) (hi : Nat) (hhi : hi ≤ w.heap.size) (hv : ClassesV w hi v l) (hl : l.length ≤ 1000000) :
    Calls Tryz.prog 81 #[v] w fun e w' => ∃ v' qs, e = .returned v' ∧ w'.ownsRow w.heap.size 87 4 v' l.length (rowQ qs) ∧ qs.map (·.1) = l ∧ (∀ q ∈ qs, q.2.length = 4 ∧ EC w hi q.1 q.2) ∧ Below w.heap.size w w' := by
  obtain ⟨A, c, rfl, hc⟩ := SlV.shape hv
  have hnil := fun W => Lib.run_eql_slice_nil (P := Tryz.prog) W 23 87 A l.length c 0 0 Tryz.underlying23
  cases A with
  | none =>
    have hl0 : l = [] := by
      cases l with
      | nil => rfl
      | cons a l =>
        obtain ⟨b, off, hA, _⟩ := SlV.at_ hv (k := 0) (by simp)
        cases hA
    subst hl0
    replace hnil : ∀ W, (binOp .eql 23 (.slice none 0 c) (.slice none 0 0)).run Tryz.prog W = .ok (.bool true) W := hnil
    go_enter Tryz.func81, Tryz.ntmps81
    go_wp2
    go_ret
    exact ⟨_, [], rfl, World.ownsRow_nil _ _ _ _, rfl, by simp, Below.refl _ _⟩
  | some ad =>
    replace hnil : ∀ W, (binOp .eql 23 (.slice (some ad) l.length c) (.slice none 0 0)).run Tryz.prog W = .ok (.bool false) W := hnil
    have ba := (Below.refl w.heap.size w).alloc (Nat.le_refl _) (.cells #[] 87)
    have hlit := World.ownsRow_lit (base := w.heap.size) (e := 87) (size := 4) w #[] 0 (Nat.le_refl _) (by decide) rfl
    have hva : SlV (EC w hi) (w.alloc (.cells #[] 87)) hi 4 (.slice (some ad) l.length c) l := SlV.keep hv (ba.mono hhi)
    go_enter Tryz.func81, Tryz.ntmps81
    go_wp2_with (at_builtin; refine wpList_appendQ rfl _ _ 23 87 rfl Tryz.underlying23 _ 4 80 info_cl rfl (by decide) (by decide) w.heap.size _ hlit rfl _ l hi hva rfl ec_one hl ba.size ?_)
    intro v' w' qs P1 P2 hown hb
    go_wp2
    go_ret
    exact ⟨_, qs, rfl, hown, P1.out, fun q hq => P2 q.1 q.2 hq, ba.trans hb⟩
/-- a class with its two lists' values -/
abbrev ClQ := Idn.Cl × Value × Value
def clQ (t : ClQ) : Idn.Cl × List Value := (t.1, [sv t.1.name, sv t.1.super, t.2.1, t.2.2])
def rowKC (ts : List ClQ) : List Value := rowQ (ts.map clQ)
theorem rowKC_at {ts : List ClQ} {i : Nat} {t : ClQ} (h : ts[i]? = some t) {k : Nat} {u : Value} (hk : (clQ t).2[k]? = some u) : (rowKC ts)[i * 4 + k]? = some u := by
  unfold rowKC
  refine rowQ_at (size := 4) (fun q hq => ?_) (i := i) (q := clQ t) (by rw [List.getElem?_map, h]; rfl) hk
  obtain ⟨t, _, rfl⟩ := List.mem_map.1 hq
  rfl
theorem rowKC_set : ∀ (ts : List ClQ) (i : Nat) (t : ClQ) (v u : Value), ts[i]? = some t → ((rowKC ts).set (i * 4 + 2) v).set (i * 4 + 3) u = rowKC (ts.set i (t.1, v, u))
  | [], i, t, v, u, h => by simp at h
  | p :: ts, 0, t, v, u, h => by
    simp at h
    subst h
    rfl
  | p :: ts, i + 1, t, v, u, h => by
    have ih := rowKC_set ts i t v u (by simpa using h)
    have e : rowKC (p :: ts) = sv p.1.name :: sv p.1.super :: p.2.1 :: p.2.2 :: rowKC ts := rfl
    have e' : rowKC ((p :: ts).set (i + 1) (t.1, v, u)) = sv p.1.name :: sv p.1.super :: p.2.1 :: p.2.2 :: rowKC (ts.set i (t.1, v, u)) := rfl
    rw [e, e', show (i + 1) * 4 + 2 = (i * 4 + 2) + 1 + 1 + 1 + 1 by omega, show (i + 1) * 4 + 3 = (i * 4 + 3) + 1 + 1 + 1 + 1 by omega]
    simp only [List.set_cons_succ]
    rw [ih]
/-- classes as cloned: their lists are still the elder ones -/
theorem clQ_of {w : World} {hi : Nat} : ∀ (qs : List (Idn.Cl × List Value)), (∀ q ∈ qs, q.2.length = 4 ∧ EC w hi q.1 q.2) → ∃ ts : List ClQ, ts.map clQ = qs ∧ ∀ t ∈ ts, StrsV w hi t.2.1 t.1.must ∧ StrsV w hi t.2.2 t.1.may
  | [], _ => ⟨[], rfl, by simp⟩
  | q :: qs, h => by
    obtain ⟨ts, h1, h2⟩ := clQ_of qs fun p hp => h p (List.mem_cons_of_mem _ hp)
    obtain ⟨_, v, u, h3, h4, h5⟩ := h q List.mem_cons_self
    refine ⟨(q.1, v, u) :: ts, ?_, ?_⟩
    · rw [List.map_cons, h1]
      have : clQ (q.1, v, u) = q := by
        unfold clQ
        exact Prod.ext rfl h3.symm
      rw [this]
    · intro t ht
      rcases List.mem_cons.1 ht with rfl | ht
      · exact ⟨h4, h5⟩
      · exact h2 t ht
/-- the classes' row: the first k lists are the call's own -/
def ClRow (w0 w : World) (base k : Nat) (v : Value) (ts : List ClQ) : Prop :=
  w.ownsRow base 87 4 v ts.length (rowKC ts) ∧ ∀ i t, ts[i]? = some t → if i < k then w.ownsRow base 9 1 t.2.1 t.1.must.length (t.1.must.map sv) ∧ w.ownsRow base 9 1 t.2.2 t.1.may.length (t.1.may.map sv) else StrsV w0 w0.heap.size t.2.1 t.1.must ∧ StrsV w0 w0.heap.size t.2.2 t.1.may
theorem ClRow.keep {w0 w w' : World} {base k : Nat} {v : Value} {ts : List ClQ} (h : ClRow w0 w base k v ts) (hb : Below w.heap.size w w') : ClRow w0 w' base k v ts := by
  refine ⟨own_below h.1 hb, fun i t ht => ?_⟩
  have := h.2 i t ht
  split
  · rename_i hi
    rw [if_pos hi] at this
    exact ⟨own_below this.1 hb, own_below this.2 hb⟩
  · rename_i hi
    rwa [if_neg hi] at this
theorem ClRow.setB {w0 w : World} {base k : Nat} {v : Value} {ts : List ClQ} (h : ClRow w0 w base k v ts) {a : Addr} (ha : a.block < base) (u : Value) : ClRow w0 (w.setCell a u) base k v ts := by
  refine ⟨ownsRow_setCell_below h.1 ha u, fun i t ht => ?_⟩
  have := h.2 i t ht
  split
  · rename_i hi
    rw [if_pos hi] at this
    exact ⟨ownsRow_setCell_below this.1 ha u, ownsRow_setCell_below this.2 ha u⟩
  · rename_i hi
    rwa [if_neg hi] at this
/-- one class's lists replaced -/
theorem ClRow.step {w0 w : World} {base k g n cap : Nat} {ts : List ClQ} {t : ClQ} {v u : Value} (h : ClRow w0 w base k (.slice (some ⟨g, 0, none⟩) n cap) ts) (ht : ts[k]? = some t)
    (hv : w.ownsRow base 9 1 v t.1.must.length (t.1.must.map sv)) (hu : w.ownsRow base 9 1 u t.1.may.length (t.1.may.map sv)) :
    ClRow w0 ((w.setCell ⟨g, k * 4 + 2, none⟩ v).setCell ⟨g, k * 4 + 3, none⟩ u) base (k + 1) (.slice (some ⟨g, 0, none⟩) n cap) (ts.set k (t.1, v, u)) := by
  have hkl := (List.getElem?_eq_some_iff.1 ht).1
  have hnn : n = ts.length := by
    rcases h.1.2 with ⟨hn, _⟩ | ⟨g', cap', cur, hv, _⟩
    · cases hn
    · injection hv
  subst hnn
  have hg : ∀ {x : Value} {m : Nat} {xs : List Value}, w.ownsRow base 9 1 x m xs → x.ownBlock ≠ some g := fun {x m xs} hx => own_apart h.1 hx (by decide) g rfl
  have keep : ∀ {x : Value} {m : Nat} {xs : List Value}, w.ownsRow base 9 1 x m xs → ((w.setCell ⟨g, k * 4 + 2, none⟩ v).setCell ⟨g, k * 4 + 3, none⟩ u).ownsRow base 9 1 x m xs := fun {x m xs} hx =>
    ownsRow_setCell_other (ownsRow_setCell_other hx (a := ⟨g, k * 4 + 2, none⟩) (hg hx) v) (a := ⟨g, k * 4 + 3, none⟩) (hg hx) u
  refine ⟨?_, fun i t' hi' => ?_⟩
  · rw [List.length_set, ← rowKC_set ts k t v u ht]
    exact own_set (own_set h.1 (k * 4 + 2) (by omega) v) (k * 4 + 3) (by omega) u
  · by_cases hik : i = k
    · subst hik
      rw [List.getElem?_set_self hkl] at hi'
      injection hi' with hi'
      subst hi'
      rw [if_pos (by omega)]
      exact ⟨keep hv, keep hu⟩
    · rw [List.getElem?_set_ne (fun e => hik e.symm)] at hi'
      have := h.2 i t' hi'
      by_cases hlt : i < k
      · rw [if_pos hlt] at this
        rw [if_pos (by omega)]
        exact ⟨keep this.1, keep this.2⟩
      · rw [if_neg hlt] at this
        rw [if_neg (by omega)]
        exact this
theorem ClRow.read {w0 w : World} {base : Nat} {v : Value} {ts : List ClQ} {l : List Idn.Cl} (h : ClRow w0 w base l.length v ts) (hl : ts.map (·.1) = l) : ClassesV w w.heap.size v l := by
  subst hl
  have h0 := h.1
  have hlen : ts.length = (ts.map (·.1)).length := by simp
  rw [hlen] at h0
  refine SlV.own h0 fun i x hx => ?_
  rw [List.getElem?_map] at hx
  obtain ⟨t, ht, rfl⟩ := Option.map_eq_some_iff.1 hx
  have h2 := h.2 i t ht
  have hil := (List.getElem?_eq_some_iff.1 ht).1
  rw [if_pos (by simpa using hil)] at h2
  exact ⟨(clQ t).2, rfl, ⟨t.2.1, t.2.2, rfl, StrsV.of_own h2.1, StrsV.of_own h2.2⟩, fun j u hj => rowKC_at ht hj⟩
end Go.Proofs.YtgjllfonmgfhgaaGreatDoor
/- The program's index: owned. -/
namespace Go.Proofs.YtgjllfonmgfhgaaGreatDoor
open Go.RowKit Go.Sort
open Idn (L B Bs drop_L take_L size_L)
/-- a variable of two cells -/
structure BoxP (X : World) (p : Nat) (a b : Value) : Prop where
  c0 : X.cell? ⟨p, 0, none⟩ = some a
  c1 : X.cell? ⟨p, 1, none⟩ = some b
  fz : ∀ i, X.frozen? ⟨p, i, none⟩ = false
  lt : p < X.heap.size
theorem BoxP.later {X Y : World} {p : Nat} {a b : Value} (h : BoxP X p a b) (hb : Below X.heap.size X Y) : BoxP Y p a b :=
  ⟨cell_later hb h.c0, cell_later hb h.c1, fun i => frozen_later hb (h.fz i) h.lt, Nat.lt_of_lt_of_le h.lt hb.size⟩
theorem BoxP.off {X : World} {p : Nat} {a b : Value} (h : BoxP X p a b) {c : Addr} (hc : p ≠ c.block) (u : Value) : BoxP (X.setCell c u) p a b :=
  ⟨by rw [World.cell?_setCell_other _ _ _ _ (by rintro rfl; exact hc rfl)]; exact h.c0, by rw [World.cell?_setCell_other _ _ _ _ (by rintro rfl; exact hc rfl)]; exact h.c1, fun i => by rw [World.frozen?_setCell]; exact h.fz i, by simpa using h.lt⟩
theorem BoxP.put {X : World} {p : Nat} {a b : Value} (h : BoxP X p a b) (a' b' : Value) : BoxP ((X.setCell ⟨p, 0, none⟩ a').setCell ⟨p, 1, none⟩ b') p a' b' := by
  have h0 := h.c0
  have h1 := h.c1
  refine ⟨?_, ?_, fun i => ?_, ?_⟩
  · go_simp
  · go_simp
  · rw [World.frozen?_setCell, World.frozen?_setCell]; exact h.fz i
  · simpa using h.lt
theorem own_frozen {w : World} {base : Nat} {e : TypeId} {size n n' g cap : Nat} {xs : List Value} (h : w.ownsRow base e size (.slice (some ⟨g, 0, none⟩) n cap) n' xs) : (∀ j, w.frozen? ⟨g, j, none⟩ = false) ∧ base ≤ g ∧ g < w.heap.size := by
  rcases id h.2 with ⟨hn, _⟩ | ⟨g', cap', cur, hv, hb, hgg, _⟩
  · cases hn
  · injection hv with hv1 _ _
    injection hv1 with hv1
    injection hv1 with hv1 _
    subst hv1
    exact ⟨fun j => Lib.frozen_of_heap hgg j, hb, (Array.getElem?_eq_some_iff.1 hgg).1⟩
theorem set_same {α : Type} : ∀ {l : List α} {k : Nat} {x : α}, l[k]? = some x → l.set k x = l
  | [], _, _, h => by simp at h
  | a :: l, 0, x, h => by simp at h; subst h; rfl
  | a :: l, k + 1, x, h => by rw [List.set_cons_succ, set_same (by simpa using h)]
theorem owned_mid {w W w1 w2 : World} {a5 a6 x0 x1 y0 y1 : Value} {n5 : Nat} {qs : List (Idn.AT × List Value)} {qc : List (Idn.Cl × List Value)} {l : List Idn.Cl} {p : Nat} (hbW : Below w.heap.size w W) (hb1 : Below W.heap.size W w1) (hb2 : Below w1.heap.size w1 w2) (hp : w.heap.size ≤ p) (B1 : BoxP W p x0 x1) (B2 : BoxP W (p + 1) y0 y1)
    (hown1 : w1.ownsRow W.heap.size 85 3 a5 n5 (rowQ qs)) (hown2 : w2.ownsRow w1.heap.size 87 4 a6 l.length (rowQ qc)) (hq3 : qc.map (·.1) = l) (hq4 : ∀ q ∈ qc, q.2.length = 4 ∧ EC w1 w.heap.size q.1 q.2) :
    ∃ ts : List ClQ, BoxP ((w2.setCell ⟨p, 0, none⟩ a5).setCell ⟨p, 1, none⟩ a6) p a5 a6 ∧ BoxP ((w2.setCell ⟨p, 0, none⟩ a5).setCell ⟨p, 1, none⟩ a6) (p + 1) y0 y1 ∧ ((w2.setCell ⟨p, 0, none⟩ a5).setCell ⟨p, 1, none⟩ a6).ownsRow W.heap.size 85 3 a5 n5 (rowQ qs) ∧ ClRow w ((w2.setCell ⟨p, 0, none⟩ a5).setCell ⟨p, 1, none⟩ a6) W.heap.size 0 a6 ts ∧ ts.map (·.1) = l ∧ Below w.heap.size w ((w2.setCell ⟨p, 0, none⟩ a5).setCell ⟨p, 1, none⟩ a6) := by
  have h01 := hbW.trans (hb1.mono hbW.size)
  have hback : ∀ b off u, b < w.heap.size → w1.cell? ⟨b, off, none⟩ = some u → w.cell? ⟨b, off, none⟩ = some u := fun b off u hb hc => by
    rw [← hc]; exact (World.cell?_of_block (h01.block b hb)).symm
  obtain ⟨ts, e1, e2⟩ := clQ_of (w := w) (hi := w.heap.size) qc fun q hq => ⟨(hq4 q hq).1, by
    obtain ⟨v, u, e, p1, p2⟩ := (hq4 q hq).2
    exact ⟨v, u, e, SlV.keepC p1 hback, SlV.keepC p2 hback⟩⟩
  have hB1 := (B1.later hb1).later hb2
  have hB2 := (B2.later hb1).later hb2
  have hpW := B1.lt
  have hmap : ts.map (·.1) = l := by
    rw [← hq3, ← e1, List.map_map]; rfl
  have htl : ts.length = l.length := by rw [← hmap, List.length_map]
  refine ⟨ts, hB1.put _ _, (hB2.off (c := ⟨p, 0, none⟩) (by simp) _).off (c := ⟨p, 1, none⟩) (by simp) _, ownsRow_setCell_below (ownsRow_setCell_below (own_below hown1 hb2) (a := ⟨p, 0, none⟩) hpW _) (a := ⟨p, 1, none⟩) hpW _, ?_, hmap, ((h01.trans (hb2.mono h01.size)).setCell (p := ⟨p, 0, none⟩) hp _).setCell (p := ⟨p, 1, none⟩) hp _⟩
  refine ClRow.setB (ClRow.setB (w := w2) ⟨?_, fun i t ht => ?_⟩ (a := ⟨p, 0, none⟩) hpW _) (a := ⟨p, 1, none⟩) hpW _
  · rw [htl]
    unfold rowKC
    rw [e1]
    exact own_lower hown2 hb1.size
  · rw [if_neg (by omega)]
    exact e2 t (List.mem_of_getElem? ht)
set_option maxHeartbeats 4000000 in
set_option maxRecDepth 100000 in
theorem owned_any (v : Value) (s : Idn.Sch) (w : World) (hv : SchV w w.heap.size v s) (hTl : s.types.length ≤ 1000000) (hCl : s.classes.length ≤ 1000000) (hML : ∀ c ∈ s.classes, c.must.length ≤ 1000000000 ∧ c.may.length ≤ 1000000000) :
    Calls Tryz.prog 41 #[v] w fun e w' => ∃ v', e = .returned v' ∧ SchV w' w'.heap.size v' s ∧ Below w.heap.size w w' := by
  obtain ⟨sa, sb, rfl, hT, hC⟩ := hv
  obtain ⟨A1, c1, rfl, _⟩ := SlV.shape hT
  obtain ⟨A2, c2, rfl, _⟩ := SlV.shape hC
  have kT := fun W (hW : Below w.heap.size w W) => cloneT_any _ s.types W (SlV.mono (SlV.keep hT hW) hW.size) hTl
  have kC := fun W (hW : Below w.heap.size w W) => cloneC_any _ s.classes W w.heap.size hW.size (ClassesV.keep hC hW) hCl
  go_enter Tryz.func41, Tryz.ntmps41
  go_upto_region 1 with fail
  with_reducible refine gen2g (R := fun W => Code.wp Tryz.prog _ _ _ W) ?_
  intro W hbW hszW hc1 hc2 hf1 hf2
  have B1 : BoxP W w.heap.size (.slice A1 s.types.length c1) (.slice A2 s.classes.length c2) := ⟨hc1 0 _ rfl, hc1 1 _ rfl, hf1, by omega⟩
  have B2 : BoxP W (w.heap.size + 1) (.slice none 0 0) (.slice none 0 0) := ⟨hc2 0 _ rfl, hc2 1 _ rfl, hf2, by omega⟩
  clear hc1 hc2 hf1 hf2
  have hl2 : w.heap.size + 1 < W.heap.size := by omega
  clear hszW
  go_cut [] (fun wx => ∃ (v5 : Value) (qs : List (Idn.AT × List Value)) (v6 : Value) (ts : List ClQ), BoxP wx w.heap.size v5 v6 ∧ BoxP wx (w.heap.size + 1) (.slice none 0 0) (.slice none 0 0) ∧ wx.ownsRow W.heap.size 85 3 v5 s.types.length (rowQ qs) ∧ qs.map (·.1) = s.types ∧ (∀ q ∈ qs, q.2.length = 3 ∧ ET q.1 q.2) ∧ ClRow w wx W.heap.size 0 v6 ts ∧ ts.map (·.1) = s.classes ∧ Below w.heap.size w wx)
  case first =>
    have r0 := B1.c0
    have r1 := B1.c1
    have f0 := B1.fz 0
    have f1 := B1.fz 1
    have hbX := hbW
    go_region_with (first
      | (go_at_call 80; refine (kT _ ?_).mono ?_; (repeat (first | with_reducible exact hbW | with_reducible apply Below.drew)); rintro e w1 ⟨v5, qs, rfl, hown1, hq1, hq2, hb1⟩; replace r0 := cell_later hb1 r0; replace r1 := cell_later hb1 r1; replace f0 := frozen_later hb1 f0 B1.lt; replace f1 := frozen_later hb1 f1 B1.lt; obtain ⟨A5, c5, hs5⟩ := own_shape hown1; subst hs5)
      | (go_at_call 81; refine (kC _ ?_).mono ?_; (repeat (first | with_reducible exact hbW | with_reducible apply Below.drew | with_reducible refine Below.on ?_ hb1)); rintro e w2 ⟨v6, qc, rfl, hown2, hq3, hq4, hb2⟩; replace r0 := cell_later hb2 r0; replace r1 := cell_later hb2 r1; replace f0 := frozen_later hb2 f0 (Nat.lt_of_lt_of_le B1.lt hb1.size); replace f1 := frozen_later hb2 f1 (Nat.lt_of_lt_of_le B1.lt hb1.size); obtain ⟨A6, c6, hs6⟩ := own_shape hown2; subst hs6))
    all_goals (go_wp2_with fail; go_meet)
    all_goals
      obtain ⟨ts, m1, m2, m3, m4, m5, m6⟩ := owned_mid hbW ((Below.refl _ W).drew.trans hb1) hb2 (Nat.le_refl _) B1 B2 hown1 hown2 hq3 hq4
      exact ⟨_, qs, _, ts, m1, m2, m3, hq1, hq2, m4, m5, m6⟩
  case rest =>
    obtain ⟨v5, qs, v6, ts, B1', B2', hown5, hq1, hq2, hrow, hts, hb⟩ := hcut
    clear B1 B2 kT kC
    obtain ⟨A5, c5, hs5⟩ := own_shape hown5
    subst hs5
    obtain ⟨A6, c6, hs6⟩ := own_shape hrow.1
    subst hs6
    have htl : ts.length = s.classes.length := by rw [← hts, List.length_map]
    have b1 := B1'.c1
    generalize ts.length = n at *
    have hn6 : n ≤ 1000000 := by omega
    replace htl := Lib.hid htl
    go_wp2_with fail
    clear b1
    go_loopw [16] (fun i wr => ∃ (k : Nat) (ts : List ClQ), k ≤ n ∧ i = .int .i64 k ∧ ts.length = n ∧ BoxP wr w.heap.size (.slice A5 s.types.length c5) (.slice A6 n c6) ∧ BoxP wr (w.heap.size + 1) (.slice none 0 0) (.slice none 0 0) ∧ wr.ownsRow W.heap.size 85 3 (.slice A5 s.types.length c5) s.types.length (rowQ qs) ∧ ClRow w wr W.heap.size k (.slice A6 n c6) ts ∧ ts.map (·.1) = s.classes ∧ Below w.heap.size w wr) (fun i _ => n - (intOf i).toNat)
    case atStart => exact ⟨0, ts, Nat.zero_le _, rfl, by rw [← List.length_map (f := (·.1)), hts, htl.out], B1', B2', hown5, hrow, hts, hb⟩
    case round =>
      clear B1' B2' hown5 hrow hts hb htl
      obtain ⟨k, ts, hk9, rfl, htn, B1, B2, hown5, hrow, hts, hb⟩ := hrel
      by_cases hlt : k < n
      · obtain ⟨⟨cl, mv, uv⟩, htk⟩ : ∃ t, ts[k]? = some t := ⟨_, List.getElem?_eq_getElem (by omega)⟩
        obtain ⟨g, rfl, hcells⟩ := own_open hrow.1 (by omega)
        obtain ⟨hfz, hgB, hgl⟩ := own_frozen hrow.1
        have hst := hrow.2 k _ htk
        rw [if_neg (by omega)] at hst
        dsimp only at hst
        have hmem : cl ∈ s.classes := by
          rw [← hts]
          exact List.mem_map.2 ⟨_, List.mem_of_getElem? htk, rfl⟩
        obtain ⟨hm1, hm2⟩ := hML cl hmem
        have k2 : wr.cell? ⟨g, k * 4 + 2, none⟩ = some mv := hcells _ _ (rowKC_at htk (k := 2) rfl)
        have k3 : wr.cell? ⟨g, k * 4 + 3, none⟩ = some uv := hcells _ _ (rowKC_at htk (k := 3) rfl)
        have f2 := hfz (k * 4 + 2)
        have f3 := hfz (k * 4 + 3)
        have kM := fun W' (hW : Below wr.heap.size wr W') => cloneS_any mv cl.must W' (SlV.mono (SlV.keep hst.1 (hb.trans (hW.mono hb.size))) (Nat.le_trans hb.size hW.size)) hm1
        have kU := fun W' (hW : Below wr.heap.size wr W') => cloneS_any uv cl.may W' (SlV.mono (SlV.keep hst.2 (hb.trans (hW.mono hb.size))) (Nat.le_trans hb.size hW.size)) hm2
        have hltI : (k : Int) < (n : Int) := by omega
        have b1 := B1.c1
        clear hcells hfz hst
        go_upto_region 6 with fail
        clear b1
        have hB : W.heap.size ≤ wr.heap.size := by omega
        have hwg : w.heap.size ≤ g := by omega
        have hfin : ∀ (v7 u7 : Value) (wm : World), Below wr.heap.size wr wm → wm.ownsRow wr.heap.size 9 1 v7 cl.must.length (cl.must.map sv) → wm.ownsRow wr.heap.size 9 1 u7 cl.may.length (cl.may.map sv) →
            ∃ ts' : List ClQ, ts'.length = n ∧ BoxP ((wm.setCell ⟨g, k * 4 + 2, none⟩ v7).setCell ⟨g, k * 4 + 3, none⟩ u7) w.heap.size (.slice A5 s.types.length c5) (.slice (some ⟨g, 0, none⟩) n c6) ∧ BoxP ((wm.setCell ⟨g, k * 4 + 2, none⟩ v7).setCell ⟨g, k * 4 + 3, none⟩ u7) (w.heap.size + 1) (.slice none 0 0) (.slice none 0 0) ∧ ((wm.setCell ⟨g, k * 4 + 2, none⟩ v7).setCell ⟨g, k * 4 + 3, none⟩ u7).ownsRow W.heap.size 85 3 (.slice A5 s.types.length c5) s.types.length (rowQ qs) ∧ ClRow w ((wm.setCell ⟨g, k * 4 + 2, none⟩ v7).setCell ⟨g, k * 4 + 3, none⟩ u7) W.heap.size (k + 1) (.slice (some ⟨g, 0, none⟩) n c6) ts' ∧ ts'.map (·.1) = s.classes ∧ Below w.heap.size w ((wm.setCell ⟨g, k * 4 + 2, none⟩ v7).setCell ⟨g, k * 4 + 3, none⟩ u7) := fun v7 u7 wm hbm ho7 hu7 => by
          have hrow' := (hrow.keep hbm).step htk (own_lower ho7 hB) (own_lower hu7 hB)
          have hpg : w.heap.size ≠ g := by omega
          have hpg2 : w.heap.size + 1 ≠ g := by omega
          have hT' := ownsRow_setCell_other (ownsRow_setCell_other (own_below hown5 hbm) (a := ⟨g, k * 4 + 2, none⟩) (own_apart hrow.1 hown5 (by decide) g rfl) v7) (a := ⟨g, k * 4 + 3, none⟩) (own_apart hrow.1 hown5 (by decide) g rfl) u7
          refine ⟨ts.set k (cl, v7, u7), by rw [List.length_set, htn], ((B1.later hbm).off (c := ⟨g, k * 4 + 2, none⟩) hpg _).off (c := ⟨g, k * 4 + 3, none⟩) hpg _, ((B2.later hbm).off (c := ⟨g, k * 4 + 2, none⟩) hpg2 _).off (c := ⟨g, k * 4 + 3, none⟩) hpg2 _, hT', hrow', ?_, ((hb.trans (hbm.mono hb.size)).setCell (p := ⟨g, k * 4 + 2, none⟩) hwg _).setCell (p := ⟨g, k * 4 + 3, none⟩) hwg _⟩
          rw [List.map_set, hts]
          exact set_same (by rw [← hts, List.getElem?_map, htk]; rfl)
        have hN := Lib.hid hk9
        clear B1 B2 hown5 hrow hb
        go_region_with (first
          | (go_at_call 82; refine (kM _ ?_).mono ?_; (repeat (first | with_reducible exact Below.refl _ _ | with_reducible apply Below.drew)); rintro e w1 ⟨v7, rfl, hown7, hb1⟩; replace k2 := cell_later hb1 k2; replace k3 := cell_later hb1 k3; replace f2 := frozen_later hb1 f2 hgl; replace f3 := frozen_later hb1 f3 hgl; obtain ⟨A7, c7, hs7⟩ := own_shape hown7; subst hs7)
          | (go_at_call 82; refine (kU _ ?_).mono ?_; (repeat (first | with_reducible exact Below.refl _ _ | with_reducible apply Below.drew | with_reducible refine Below.on ?_ hb1)); rintro e w2 ⟨u7, rfl, hownu7, hb2⟩; replace k2 := cell_later hb2 k2; replace k3 := cell_later hb2 k3; replace f2 := frozen_later hb2 f2 (Nat.lt_of_lt_of_le hgl hb1.size); replace f3 := frozen_later hb2 f3 (Nat.lt_of_lt_of_le hgl hb1.size); obtain ⟨A8, c8, hs8⟩ := own_shape hownu7; subst hs8))
        all_goals
          obtain ⟨ts', m1, m2, m3, m4, m5, m6, m7⟩ := hfin _ _ w2 (Below.on ((Below.refl _ wr).drew.trans hb1) hb2) (own_below hown7 hb2) (own_lower hownu7 hb1.size)
          clear hfin
          go_wp2_with fail
          go_roundw
          case rel => exact ⟨k + 1, ts', by have := hN.out; omega, by go_num, m1, m2, m3, m4, m5, m6, m7⟩
          case measure => simp [intOf]; omega
      · have hkn : k = n := by omega
        subst hkn
        have hltI : ¬ (k : Int) < (k : Int) := by omega
        have b0 := B1.c0
        have b1 := B1.c1
        have z0 := B2.c0
        have z1 := B2.c1
        have g0 := B2.fz 0
        have g1 := B2.fz 1
        have hpB : w.heap.size + 1 < W.heap.size := hl2
        have hT' := ownsRow_setCell_below (ownsRow_setCell_below hown5 (a := ⟨w.heap.size + 1, 0, none⟩) hpB (.slice A5 s.types.length c5)) (a := ⟨w.heap.size + 1, 1, none⟩) hpB (.slice A6 k c6)
        have hR' := ClRow.setB (ClRow.setB hrow (a := ⟨w.heap.size + 1, 0, none⟩) hpB (.slice A5 s.types.length c5)) (a := ⟨w.heap.size + 1, 1, none⟩) hpB (.slice A6 k c6)
        have hkl : Hid (k = s.classes.length) := by show _ = _; rw [← hts, List.length_map, htn]
        have hbf := (hb.setCell (p := ⟨w.heap.size + 1, 0, none⟩) (Nat.le_succ _) (.slice A5 s.types.length c5)).setCell (p := ⟨w.heap.size + 1, 1, none⟩) (Nat.le_succ _) (.slice A6 k c6)
        clear hrow hown5
        go_wp2_with fail
        exact bodyPost_ret (v := .agg #[.slice A5 s.types.length c5, .slice A6 k c6]) (by simp [results, Tryz.results41, go_sem, z0, z1, g0, g1]) rfl ⟨_, rfl, ⟨_, _, rfl, SlV.ofQ hT' hq1 hq2, ClRow.read (by rw [← hkl.out]; exact hR') hts⟩, hbf⟩
end Go.Proofs.YtgjllfonmgfhgaaGreatDoor
/- The program's index: New. -/
namespace Go.Proofs.YtgjllfonmgfhgaaGreatDoor
open Go.RowKit Go.Sort
open Idn (L B Bs drop_L take_L size_L)
/-- what New answers -/
def nwE (s : Idn.Sch) (ns : List Bs) : Int := if Idn.sCheck s = 0 then (ixNew s ns []).1 else Idn.sCheck s
theorem ixNew_zero {s : Idn.Sch} : ∀ {ns acc : List Bs}, (ixNew s ns acc).1 = 0 → acc.Nodup → (∀ n ∈ ns, (tyLook (sound s) n).2 = true) ∧ (acc ++ ns.map Idn.lower).Nodup
  | [], acc, _, h => ⟨by simp, by simpa using h⟩
  | n :: l, acc, h, hn => by
    rw [ixNew] at h
    by_cases c1 : (!(tyLook (sound s) n).2) = true
    · rw [if_pos c1] at h; cases h
    · rw [if_neg c1] at h
      by_cases c2 : acc.contains (Idn.lower n) = true
      · rw [if_pos c2] at h; cases h
      · rw [if_neg c2] at h
        have hnd : (acc ++ [Idn.lower n]).Nodup := by
          rw [List.nodup_append]
          refine ⟨hn, by simp, fun a ha b hb e => ?_⟩
          simp at hb
          subst e hb
          exact c2 (List.contains_iff_mem.2 ha)
        obtain ⟨h1, h2⟩ := ixNew_zero h hnd
        refine ⟨fun m hm => ?_, by simpa using h2⟩
        rcases List.mem_cons.1 hm with rfl | hm
        · simpa using c1
        · exact h1 m hm
theorem nwE_zero {s : Idn.Sch} {ns : List Bs} (hsm : SSm s) (h : nwE s ns = 0) : GdI s ns [] := by
  unfold nwE at h
  by_cases c : Idn.sCheck s = 0
  · rw [if_pos c] at h
    obtain ⟨h1, h2⟩ := ixNew_zero h List.nodup_nil
    have hso : sound s = s := by unfold sound; rw [if_pos c]
    rw [hso] at h1
    exact ⟨⟨List.Pairwise.nil, by simp⟩, by simp, by simp, by simp, by simp, c, h1, by simpa using h2, hsm⟩
  · rw [if_neg c] at h; exact absurd h c
theorem tsF_add {ts : List (Bs × Nat)} {tn : Bs} {b : Nat} (h : tn ∉ ts.map (·.1)) : (fun y => if y = tn then some (Value.map (some b)) else tsF ts y) = tsF (ts ++ [(tn, b)]) := by
  funext y
  unfold tsF
  rw [List.find?_append]
  by_cases e : y = tn
  · subst e
    have h0 : ts.find? (fun t => decide (t.1 = y)) = none := by
      rw [List.find?_eq_none]
      intro t ht
      simp only [decide_eq_true_eq]
      intro e
      exact h (List.mem_map.2 ⟨t, ht, e⟩)
    rw [h0]
    simp
  · rw [if_neg e]
    cases hf : ts.find? (fun t => decide (t.1 = y)) with
    | some u => rfl
    | none =>
      have : ¬ tn = y := fun h => e h.symm
      simp [this]
theorem VlV.add {w w' : World} {vb b : Nat} {ts : List (Bs × Nat)} {tn : Bs} (h : VlV w vb ts (fun _ _ => none) (fun _ _ _ => false)) (hm : Mv (· = vb) w w') (hb : MapF w' b (fun _ => none)) (hf : w.heap.size ≤ b) (hn : tn ∉ ts.map (·.1))
    (htop : MapF w' vb (fun y => if y = tn then some (.map (some b)) else tsF ts y)) : VlV w' vb (ts ++ [(tn, b)]) (fun _ _ => none) (fun _ _ _ => false) := by
  rw [tsF_add hn] at htop
  have hlt := fun (t : Bs × Nat) (ht : t ∈ ts) => (h.blk t ht).lt
  refine ⟨htop, fun t ht => ?_, (by rintro t _ v b ⟨⟩), (fun _ _ _ _ _ => rfl), ?_, ?_, fun t ht => ?_, (by rintro t _ v b ⟨⟩), (by rintro t _ u _ v v' b ⟨⟩)⟩
  · rcases List.mem_append.1 ht with ht | ht
    · exact (h.blk t ht).mv hm (h.vne t ht)
    · simp at ht
      subst ht
      exact hb
  · rw [List.map_append, List.nodup_append]
    refine ⟨h.nam, by simp, fun x hx y hy e => ?_⟩
    simp at hy
    subst e hy
    exact hn hx
  · rw [List.map_append, List.nodup_append]
    refine ⟨h.one, by simp, fun x hx y hy e => ?_⟩
    simp at hy
    subst e hy
    obtain ⟨t, ht, e⟩ := List.mem_map.1 hx
    have := hlt t ht
    omega
  · rcases List.mem_append.1 ht with ht | ht
    · exact h.vne t ht
    · simp at ht
      subst ht
      have := h.top.lt
      dsimp only
      omega
theorem VlS_none {ts : List (Bs × Nat)} {k : Nat} (h : VlS ts (fun _ _ => none) k) : ∃ t ∈ ts, t.2 = k := by
  rcases h with h | ⟨_, _, _, h⟩
  · exact h
  · cases h
/-- what New returns -/
def RetNew (w : World) (s : Idn.Sch) (ns : List Bs) (r : Int) (e : Ending) (w' : World) : Prop :=
  Below w.heap.size w w' ∧ ((r = 0 ∧ ∃ (px eb vb hs : Nat) (ta cb : Value) (ts : List (Bs × Nat)), e = .returned (.tuple #[.pointer (some ⟨px, 0, none⟩), .int .i64 0]) ∧ w.heap.size ≤ hs ∧ IxV w' hs hs px s ns [] ta cb eb vb (fun _ => .map none) ts (fun _ _ => none)) ∨ (r ≠ 0 ∧ e = .returned (.tuple #[.pointer none, .int .i64 r])))
set_option maxHeartbeats 4000000 in
set_option maxRecDepth 100000 in
theorem ixNew_any (v nv : Value) (s : Idn.Sch) (ns : List Bs) (w : World) (hv : SchV w w.heap.size v s) (hsm : SSm s) (hTl : s.types.length ≤ 1000000) (hCl : s.classes.length ≤ 1000000) (hML : ∀ c ∈ s.classes, c.must.length ≤ 1000000000 ∧ c.may.length ≤ 1000000000)
    (hn : StrsV w w.heap.size nv ns) (hnl : ns.length ≤ 1000000) (hnb : ∀ n ∈ ns, n.length ≤ 1000000000) :
    Calls Tryz.prog 13 #[v, nv] w (RetNew w s ns (nwE s ns)) := by
  have kCk := fun W (hW : Below w.heap.size w W) => schCheck_any v s W (SchV.mono (SchV.keep hv hW) hW.size) hsm
  have kOw := fun W (hW : Below w.heap.size w W) => owned_any v s W (SchV.mono (SchV.keep hv hW) hW.size) hTl hCl hML
  have kTy := fun (n : Bs) (hn : n ∈ ns) W (hW : Below w.heap.size w W) => type_any v s (B n) W (SchV.mono (SchV.keep hv hW) hW.size) hsm (by rw [Idn.size_B]; exact hnb n hn)
  simp only [Idn.L_B] at kTy
  obtain ⟨A0, cn, rfl, _⟩ := SlV.shape hn
  obtain ⟨sa, sb, rfl, hT, hC⟩ := hv
  obtain ⟨A1, c1, rfl, _⟩ := SlV.shape hT
  obtain ⟨A2, c2, rfl, _⟩ := SlV.shape hC
  have HR : Hid (nwE s ns = if Idn.sCheck s = 0 then (ixNew s ns []).1 else Idn.sCheck s) := rfl
  generalize nwE s ns = r at *
  go_enter Tryz.func13, Tryz.ntmps13
  go_upto_region 1 with fail
  with_reducible refine gen1 (R := fun W => Code.wp Tryz.prog _ _ _ W) ?_
  intro W hbW hszW hc _
  have b0 : W.cell? ⟨w.heap.size, 0, none⟩ = some (.slice A1 s.types.length c1) := hc 0 _ rfl
  have b1 : W.cell? ⟨w.heap.size, 1, none⟩ = some (.slice A2 s.classes.length c2) := hc 1 _ rfl
  clear hc hszW
  go_upto_region 2 with (go_at_call 40; refine (kCk W hbW).mono ?_; rintro e w1 ⟨rfl, hb1⟩)
  replace b0 := cell_later hb1 b0
  replace b1 := cell_later hb1 b1
  have hbw1 := hbW.trans (hb1.mono hbW.size)
  by_cases hck : Idn.sCheck s = 0
  case neg =>
    have hI : (Idn.sCheck s != 0) = true := by simpa using hck
    have HF : Hid (r = Idn.sCheck s) := by show _ = _; rw [HR.out, if_neg hck]
    have hr0 : Hid (r ≠ 0) := by show _ ≠ _; rw [HF.out]; exact hck
    generalize Idn.sCheck s = ck at *
    clear HR kCk kOw kTy hck
    go_wp2
    go_ret2
    exact ⟨hbw1, .inr ⟨hr0.out, by rw [HF.out]; rfl⟩⟩
  have HR2 : Hid (r = (ixNew s (ns.drop 0) []).1) := by show _ = _; rw [HR.out, if_pos hck]; rfl
  rw [hck]
  clear HR kCk
  have hmm := @run_makeMap Tryz.prog
  replace kOw := kOw w1 hbw1
  go_upto_region 4 with fail
  have hbO := hbw1
  go_upto_region 5 with (go_at_call 41; refine kOw.mono ?_; rintro e w2 ⟨v2, rfl, hv2, hb2⟩; obtain ⟨ta, cb, hsh, hT2, hC2⟩ := hv2; subst hsh; obtain ⟨A3, c3, h3, _⟩ := SlV.shape hT2; subst h3; obtain ⟨A4, c4, h4, _⟩ := SlV.shape hC2; subst h4)
  have hbw2 := hbw1.trans (hb2.mono hbw1.size)
  replace b0 := cell_later hb2 b0
  replace b1 := cell_later hb2 b1
  have hs2 : SchV w2 w2.heap.size (.agg #[.slice A3 s.types.length c3, .slice A4 s.classes.length c4]) s := ⟨_, _, rfl, hT2, hC2⟩
  have e1 : (w2.alloc (.map #[] 0)).heap.size = w2.heap.size + 1 := by simp
  have e2 : ((w2.alloc (.map #[] 0)).alloc (.map #[] 0)).heap.size = w2.heap.size + 1 + 1 := by simp
  have m0 := MapF.made w2
  have m1 := MapF.made (w2.alloc (.map #[] 0))
  have a1 : Below w2.heap.size w2 (w2.alloc (.map #[] 0)) := (Below.refl _ _).alloc (Nat.le_refl _) _
  have a2 : Below (w2.alloc (.map #[] 0)).heap.size (w2.alloc (.map #[] 0)) ((w2.alloc (.map #[] 0)).alloc (.map #[] 0)) := (Below.refl _ _).alloc (Nat.le_refl _) _
  replace m0 := m0.keep a2
  replace a2 := a1.trans (a2.mono a1.size)
  rw [e1] at m1
  clear a1 hT2 hC2 e1
  generalize hZ : (w2.alloc (.map #[] 0)).alloc (.map #[] 0) = Z at *
  clear hZ
  with_reducible refine gen1 (R := fun W => Code.wp Tryz.prog _ _ _ W) ?_
  intro W3 hb3 hsz3 hc3 _
  rw [e2] at hc3 hsz3
  have d0 : W3.cell? ⟨w2.heap.size + 1 + 1, 0, none⟩ = some (.slice A3 s.types.length c3) := hc3 0 _ rfl
  have d1 : W3.cell? ⟨w2.heap.size + 1 + 1, 1, none⟩ = some (.slice A4 s.classes.length c4) := hc3 1 _ rfl
  have d2 : W3.cell? ⟨w2.heap.size + 1 + 1, 2, none⟩ = some (.map (some w2.heap.size)) := hc3 2 _ rfl
  have d3 : W3.cell? ⟨w2.heap.size + 1 + 1, 3, none⟩ = some (.map (some (w2.heap.size + 1))) := hc3 3 _ rfl
  replace m0 := m0.keep hb3
  replace m1 := m1.keep hb3
  have hb23 := a2.trans (hb3.mono a2.size)
  have hbw3 := hbw2.trans (hb23.mono hbw2.size)
  replace b0 := cell_later hb23 b0
  replace b1 := cell_later hb23 b1
  have hs3 : SchV W3 w2.heap.size (.agg #[.slice A3 s.types.length c3, .slice A4 s.classes.length c4]) s := SchV.keep hs2 hb23
  have hzw : w.heap.size ≤ w2.heap.size := hbw2.size
  clear hc3 a2 hb3 e2 hb2 hbO hs2 hb23 hbw2 hb1 kOw
  generalize w2.heap.size = hz at *
  have hV3 : VlV W3 (hz + 1) [] (fun _ _ => none) (fun _ _ _ => false) := ⟨m1, by simp, by simp, by simp, by simp, by simp, by simp, by simp, by simp⟩
  have hall : AllMap W3 (· = hz + 1) := fun k hk => by have e : k = hz + 1 := hk; rw [e]; exact m1.isMap
  have hso : sound s = s := by unfold sound; rw [if_pos hck]
  rw [hso] at kTy
  replace hck := Lib.hid hck
  have hso' := Lib.hid hso
  clear hso
  go_wp2_with fail
  go_loopw [27] (fun i wr => ∃ (k : Nat) (ts : List (Bs × Nat)), k ≤ ns.length ∧ i = .int .i64 k ∧ VlV wr (hz + 1) ts (fun _ _ => none) (fun _ _ _ => false) ∧ Hid (ts.map (·.1) = (ns.take k).map (tyN s)) ∧ (∀ t ∈ ts, W3.heap.size ≤ t.2) ∧ Mv (· = hz + 1) W3 wr ∧ Hid (r = (ixNew s (ns.drop k) ((ns.take k).map Idn.lower)).1) ∧ Hid (∀ n ∈ ns.take k, (tyLook s n).2 = true)) (fun i _ => ns.length - (intOf i).toNat)
  case atStart => exact ⟨0, [], Nat.zero_le _, rfl, hV3, rfl, by simp, Mv.refl _ _, HR2, fun n hn => by simp at hn⟩
  case round =>
    obtain ⟨k, ts, hk9, rfl, hV, hts, hfr, hmv, hinv, hty⟩ := hrel
    clear HR2 hV3
    by_cases hlt : k < ns.length
    · obtain ⟨b, off, rfl, hbl, q0⟩ := StrsV.cell (SlV.keepC hn fun b off u _ hc => hmv.cell hall (cell_later hbw3 hc)) hlt
      have hltI : (k : Int) < (ns.length : Int) := by omega
      have hbwr : Below w.heap.size w wr := hbw3.trans (hmv.below (lo := w.heap.size) (fun j hj => by have e : j = hz + 1 := hj; omega) hbw3.size)
      have hT := kTy ns[k] (List.getElem_mem hlt) wr hbwr
      have hxl := tyName_len hsm ns[k]
      rw [hso'.out] at hxl
      have p0 := hmv.cell hall b0
      have p1 := hmv.cell hall b1
      have p3 := hmv.cell hall d3
      have hstep : Hid (r = (if !(tyLook s ns[k]).2 then (6, []) else if ((ns.take k).map Idn.lower).contains (Idn.lower ns[k]) then (7, []) else ixNew s (ns.drop (k + 1)) ((ns.take k).map Idn.lower ++ [Idn.lower ns[k]])).1) := by
        show _ = _
        rw [hinv.out, List.drop_eq_getElem_cons hlt, ixNew, hso'.out]
      have hty' : (tyLook s ns[k]).2 = true → Hid (∀ n ∈ ns.take (k + 1), (tyLook s n).2 = true) := fun h n hn => by
        rw [List.take_succ_eq_append_getElem hlt, List.mem_append, List.mem_singleton] at hn
        rcases hn with hn | rfl
        · exact hty.out n hn
        · exact h
      have htw : (tyLook s ns[k]).2 = true → ((tyLook s ns[k]).1.name ∈ ts.map (·.1) ↔ ((ns.take k).map Idn.lower).contains (Idn.lower ns[k]) = true) := fun h => by
        rw [hts.out, ← new_twice h _ hty.out, List.contains_iff_mem]
        unfold tyN
        rw [hso'.out]
      have htk : Hid ((ns.take (k + 1)).map (tyN s) = (ns.take k).map (tyN s) ++ [(tyLook s ns[k]).1.name]) := by
        show _ = _
        rw [List.take_succ_eq_append_getElem hlt, List.map_append]
        unfold tyN
        rw [hso'.out]; rfl
      have hlw : Hid ((ns.take (k + 1)).map Idn.lower = (ns.take k).map Idn.lower ++ [Idn.lower ns[k]]) := by
        show _ = _
        rw [List.take_succ_eq_append_getElem hlt, List.map_append]; rfl
      generalize Idn.lower ns[k] = lx at *
      generalize tyLook s ns[k] = tl at *
      obtain ⟨⟨tn, ty, tg⟩, tk⟩ := tl
      dsimp only at hxl hty' htw
      unfold tyV at hT
      simp only [sv] at hT
      generalize ns[k] = x at *
      clear hinv kTy
      go_wp2_with fail
      refine hT.mono ?_
      rintro e w5 ⟨rfl, hb5⟩
      clear hT
      go_upto_region 9 with fail
      with_reducible refine gen1 (R := fun W => Code.wp Tryz.prog _ _ _ W) ?_
      intro W6 hb6 hsz6 hc6 _
      have t0 : W6.cell? ⟨w5.heap.size, 0, none⟩ = some (.string (B tn)) := hc6 0 _ rfl
      have hb56 := hb5.trans (hb6.mono hb5.size)
      have hV6 := hV.keep hb56
      replace p3 := cell_later hb56 p3
      have hmv6 := hmv.then_below hb56
      have hbw6 := hbwr.trans (hb56.mono hbwr.size)
      clear hc6 hsz6 p0 p1 q0 hb6 hb5 hV
      cases tk
      · have HF : Hid (r = 6) := hstep.out
        clear hstep hty' htw
        go_wp2
        go_ret2
        exact ⟨hbw6, .inr ⟨by rw [HF.out]; decide, by rw [HF.out]; rfl⟩⟩
      · replace htw := htw rfl
        replace hty' := hty' rfl
        have hst2 : Hid (r = (if ((ns.take k).map Idn.lower).contains lx then (7, []) else ixNew s (ns.drop (k + 1)) ((ns.take k).map Idn.lower ++ [lx])).1) := hstep.out
        clear hstep
        have hfo := tsF_of ts tn
        have hom := ofB_mem (ts := ts) (n := tn)
        have htnl : tn.length ≤ maxLen := by unfold maxLen; omega
        have k0 : W6.drew.cell? ⟨w5.heap.size, 0, none⟩ = some (.string (B tn)) := t0
        have k3 : W6.drew.cell? ⟨hz + 1 + 1, 3, none⟩ = some (.map (some (hz + 1))) := p3
        have hVd := hV6.keep (Below.refl _ W6).drew
        have hlk : (Instr.lookup 76 (.map (some (hz + 1))) (.string (B tn)) true).run Tryz.prog W6.drew = .ok (.tuple #[.map (ofB ts tn), .bool (ofB ts tn).isSome]) W6.drew := by
          have := hVd.top.run_look Tryz.underlying76 (zeroByV _) htnl
          rwa [hfo.1, hfo.2] at this
        have hbwd : Below w.heap.size w W6.drew := hbw6.drew
        have hmvd : Mv (· = hz + 1) W3 W6.drew := hmv6.then_below (Below.refl _ W6).drew
        clear hfo
        go_upto_region 11 with fail
        refine wp_still_drew (by kernel_rfl) (by kernel_rfl) ?_
        repeat still_step
        refine wpStill_nil ?_
        clear hlk t0 p3
        cases ho : (ofB ts tn).isSome with
        | true =>
          have hcn : ((ns.take k).map Idn.lower).contains lx = true := htw.1 (hom.1 ho)
          have HF : Hid (r = 7) := by show _ = _; rw [hst2.out, if_pos hcn]
          clear hst2 htw hom hcn hty' ho
          go_wp2
          go_ret2
          exact ⟨hbwd, .inr ⟨by rw [HF.out]; decide, by rw [HF.out]; rfl⟩⟩
        | false =>
          have hni : tn ∉ ts.map (·.1) := fun h => by rw [hom.2 h] at ho; cases ho
          have hcn : ¬ ((ns.take k).map Idn.lower).contains lx = true := fun h => hni (htw.2 h)
          have HF : Hid (r = (ixNew s (ns.drop (k + 1)) ((ns.take k).map Idn.lower ++ [lx])).1) := by show _ = _; rw [hst2.out, if_neg hcn]
          clear hst2 htw hom hcn hmv6
          generalize ofB ts tn = o at *
          generalize W6.drew = W7 at *
          go_upto_region 14 with fail
          have hallv : AllMap W7 (· = hz + 1) := fun k hk => by have e : k = hz + 1 := hk; rw [e]; exact hVd.top.isMap
          have hnl' : (ts.map (·.1)).length ≤ 1000000000 := by rw [hts.out, List.length_map, List.length_take]; omega
          refine wp_region_held_drew (S := fun W' => Mv (· = hz + 1) W7.drew W') (by kernel_rfl) (Mv.refl _ _) (fun hHeld => ?_)
          refine wpAnyH_take (i := 0) (oi := ⟨_, _, _, _, _, _⟩) (v := ?x1v) rfl (by kernel_rfl) (by kernel_rfl) (by kernel_rfl) (fun _ _ _ h => h) (Or.inl ⟨by rfl, ?x1h⟩) (by assumption) ?x1r
          rotate_left 1
          · (intro w hSw; (try dsimp only at hSw); go_simp; (try with_reducible rfl))
          try simp only [Act.put, List.setIfInBounds_toArray, List.set_cons_zero, List.set_cons_succ]
          refine wpAnyH_take (i := 1) (oi := ⟨_, _, _, _, _, _⟩) (v := ?x2v) rfl (by kernel_rfl) (by kernel_rfl) (by kernel_rfl) (fun _ _ _ h => h) (Or.inl ⟨by rfl, ?x2h⟩) (by assumption) ?x2r
          rotate_left 1
          · (intro w hSw; (try dsimp only at hSw); go_simp; (try with_reducible rfl))
          try simp only [Act.put, List.setIfInBounds_toArray, List.set_cons_zero, List.set_cons_succ]
          refine wpAnyH_take (i := 2) (oi := ⟨_, _, _, _, _, _⟩) (v := ?x3v) rfl (by kernel_rfl) (by kernel_rfl) (by kernel_rfl) (fun _ _ _ h => h) (Or.inl ⟨by rfl, ?x3h⟩) (by assumption) ?x3r
          rotate_left 1
          · (intro w hSw; (try dsimp only at hSw); go_simp; (try with_reducible rfl))
          try simp only [Act.put, List.setIfInBounds_toArray, List.set_cons_zero, List.set_cons_succ]
          refine wpAnyH_take (i := 3) (oi := ⟨_, _, _, _, _, _⟩) (v := ?x4v) rfl (by kernel_rfl) (by kernel_rfl) (by kernel_rfl) (fun _ _ _ h => h) (Or.inl ⟨by rfl, ?x4h⟩) (by assumption) ?x4r
          rotate_left 1
          · (intro w hSw; (try dsimp only at hSw); have f3 := hSw.cell hallv k3; go_simp; (try with_reducible rfl))
          try simp only [Act.put, List.setIfInBounds_toArray, List.set_cons_zero, List.set_cons_succ]
          refine wpAnyH_take (i := 4) (oi := ⟨_, _, _, _, _, _⟩) (v := ?x5v) rfl (by kernel_rfl) (by kernel_rfl) (by kernel_rfl) (fun _ _ _ h => h) (Or.inl ⟨by rfl, ?x5h⟩) (by assumption) ?x5r
          rotate_left 1
          · (intro w hSw; (try dsimp only at hSw); go_simp; (try with_reducible rfl))
          try simp only [Act.put, List.setIfInBounds_toArray, List.set_cons_zero, List.set_cons_succ]
          refine wpAnyH_take (i := 5) (oi := ⟨_, _, _, _, _, _⟩) (v := ?x6v) rfl (by kernel_rfl) (by kernel_rfl) (by kernel_rfl) (fun _ _ _ h => h) (Or.inl ⟨by rfl, ?x6h⟩) (by assumption) ?x6r
          rotate_left 1
          · (intro w hSw; (try dsimp only at hSw); have f0 := hSw.cell hallv k0; go_simp; (try with_reducible rfl))
          try simp only [Act.put, List.setIfInBounds_toArray, List.set_cons_zero, List.set_cons_succ]
          refine wpAnyH_ready (rs := [6]) (by kernel_rfl) (by simp) ?_
          refine AllReadyH.cons (o := ⟨_, _, _, _, _, _⟩) rfl (fun K hK => ?_) AllReadyH.nil
          go_simp
          refine hK.out _ _ ?_ (fun hHeld => ?_)
          · exact Mv.of_below ((Below.refl _ _).alloc (Nat.le_refl _) _) _
          clear hK K
          try simp only [Act.put, List.setIfInBounds_toArray, List.set_cons_zero, List.set_cons_succ]
          have hmade : MapF (W7.alloc (.map #[] 0)).drew W7.heap.size (fun _ => none) := (MapF.made W7).block rfl
          have hba7 : Below W7.heap.size W7 (W7.alloc (.map #[] 0)).drew := ((Below.refl _ W7).alloc (Nat.le_refl _) _).drew
          obtain ⟨W9, hrun, hm9, hv9, _⟩ := MapF.run_put (w := (W7.alloc (.map #[] 0)).drew) ((hVd.keep hba7).top) Tryz.underlying76 (l := ts.map (·.1)) (fun y hy => by
            cases e : tsF ts y with
            | none => exact absurd e hy
            | some v =>
              obtain ⟨t, ht, rfl, _⟩ := tsF_some e
              exact List.mem_map.2 ⟨t, ht, rfl⟩) hnl' htnl (.map (some W7.heap.size))
          refine wpAnyH_ready (rs := [7]) (by kernel_rfl) (by simp) ?_
          refine AllReadyH.cons (o := ⟨_, _, _, _, _, _⟩) rfl (fun K hK => ?_) AllReadyH.nil
          go_simp
          refine hK.out _ _ ?_ (fun hHeld => ?_)
          · exact hHeld.trans hv9 fun j hj => .inl hj
          clear hK K
          try simp only [Act.put, List.setIfInBounds_toArray, List.set_cons_zero, List.set_cons_succ]
          refine wpAnyH_done (by kernel_rfl) ?_ _
          have hsz7 : (W7.alloc (.map #[] 0)).drew.heap.size = W7.heap.size + 1 := by simp [World.drew]
          have hne7 : ¬ (W7.heap.size = hz + 1) := by have := hVd.top.lt; omega
          have h79 : Mv (· = hz + 1) W7 W9 := (Mv.of_below hba7 _).trans hv9 fun j hj => .inl hj
          have hV9 := hVd.add h79 (hmade.mv hv9 hne7) (Nat.le_refl _) hni hm9
          have hmv9 : Mv (· = hz + 1) W3 W9 := hmvd.trans h79 fun j hj => .inl hj
          clear hrun hHeld hm9 hv9 hmade
          go_wp2_with fail
          go_roundw
          case rel =>
            refine ⟨k + 1, ts ++ [(tn, W7.heap.size)], by omega, by go_num, hV9, ?_, fun t ht => ?_, hmv9, ?_, hty'⟩
            · show _ = _
              rw [htk.out, List.map_append, hts.out]; rfl
            · rcases List.mem_append.1 ht with ht | ht
              · exact hfr t ht
              · simp at ht
                subst ht
                exact hmvd.size
            · show _ = _
              rw [HF.out, hlw.out]
          case measure => simp [intOf]; omega
    · have hltI : ¬ (k : Int) < (ns.length : Int) := by omega
      have hbwr : Below w.heap.size w wr := hbw3.trans (hmv.below (lo := w.heap.size) (fun j hj => by have e : j = hz + 1 := hj; omega) hbw3.size)
      have HF : Hid (r = 0) := by show _ = _; rw [hinv.out, List.drop_eq_nil_of_le (by omega)]; rfl
      have htk : ts.map (·.1) = ns.map (tyN s) := by rw [hts.out, List.take_of_length_le (by omega)]
      have hblk : ∀ k, VlS ts (fun _ _ => none) k → W3.heap.size ≤ k := fun k hk => by
        obtain ⟨t, ht, rfl⟩ := VlS_none hk
        exact hfr t ht
      have hszr := hmv.size
      have hI : IxV wr hz hz (hz + 1 + 1) s ns [] (.slice A3 s.types.length c3) (.slice A4 s.classes.length c4) hz (hz + 1) (fun _ => .map none) ts (fun _ _ => none) :=
        { c0 := hmv.cell hall d0
          c1 := hmv.cell hall d1
          c2 := hmv.cell hall d2
          c3 := hmv.cell hall d3
          sch := hs3.keepC fun b off u _ hc => hmv.cell hall hc
          ent := by
            have e : entF [] (fun _ => Value.map none) = fun _ => none := rfl
            rw [e]
            exact m0.mv hmv (by omega)
          att := by simp
          vl := hV
          tsn := htk
          ebv := by omega
          ebs := fun hk => by have := hblk _ hk; omega
          hsz := by omega
          hsp := by omega
          hse := Nat.le_refl _
          hsv := by omega
          hss := fun k hk => by have := hblk k hk; omega
          loz := by omega }
      clear hinv hts hty htk hblk hn hV hmv kTy
      go_wp2_with fail
      go_ret2
      exact ⟨hbwr, .inl ⟨HF.out, _, _, _, _, _, _, ts, rfl, hzw, hI⟩⟩
end Go.Proofs.YtgjllfonmgfhgaaGreatDoor
/- The values of the small case of identitylaw11, reckoned. -/
namespace Go.Proofs.YtgjllfonmgfhgaaGreatDoor
open Go.RowKit Go.Sort
open Idn (L B Bs)
namespace E11
def AGEN : Bs := [65, 71, 69]
def xN : Bs := [120]
def smallS : Idn.Sch := ⟨[⟨Idn.mainN, 1, false⟩, ⟨E8.cnN, 1, false⟩, ⟨E9.mailN, 1, false⟩, ⟨E9.ageN, 3, false⟩], []⟩
def annN : Bs := [99, 110, 61, 97, 110, 110]
def annL : List Idn.Att := [⟨E8.cnN, [[65, 110, 110]]⟩, ⟨E9.ageN, [[55]]⟩]
def srtL : List Idn.Att := [⟨E9.ageN, [[55]]⟩, ⟨E8.cnN, [[65, 110, 110]]⟩]
def ns : List Bs := [E8.cnN, AGEN]
def idx : List Bs := [E8.cnN, E9.ageN]
def es : List IxE := [(annN, srtL)]
def F1 : Flt := .mk 4 E9.mailN xN [] []
def F2 : Flt := .mk 4 E8.cnN [97, 110, 110] [] []
def FA : Flt := .mk 1 [] [] [] [F1, F2]
def FO : Flt := .mk 2 [] [] [] [F1, F2]
theorem small_ssm : SSm smallS := by unfold SSm TSm CSm Sm smallS; decide
theorem ev_check : Idn.sCheck smallS = 0 := by kernel_rfl
theorem ev_idx : ns.map Idn.lower = idx := by kernel_rfl
theorem ann_asm : Idn.ASm7 annL := by unfold Idn.ASm7 annL; decide
theorem ev_n1 : nwE smallS ns = 0 := by kernel_rfl
theorem ev_n2 : nwE smallS [E8.cnN, [67, 78]] = 7 := by kernel_rfl
theorem ev_n3 : nwE smallS [xN] = 6 := by kernel_rfl
theorem ev_put : ixPut [] annN annL = (0, es) := by kernel_rfl
theorem ev_f1 : ixFind smallS idx es E8.cnN [65, 78, 78] = ([annN], true) := by kernel_rfl
theorem ev_r1 : ixRange smallS idx es AGEN [] [49, 48] = ([annN], true) := by kernel_rfl
theorem ev_r2 : ixRange smallS idx es E9.ageN [49, 48] [57] = ([], true) := by kernel_rfl
theorem ev_f2 : ixFind smallS idx es E9.mailN xN = ([], false) := by kernel_rfl
theorem ev_c1 : ixCand smallS idx es FA = ([annN], true) := by kernel_rfl
theorem ev_c2 : (ixCand smallS idx es FO).2 = false := by kernel_rfl
theorem ev_p2 : ixPut es [] [] = (5, es) := by kernel_rfl
theorem fsA : FSm 1000 FA := ⟨by decide, by unfold FA F1 F2; simp [fOk, fOks, E8.cnN, E9.mailN, xN]⟩
theorem fsO : FSm 1000 FO := ⟨by decide, by unfold FO F1 F2; simp [fOk, fOks, E8.cnN, E9.mailN, xN]⟩
end E11
theorem nil_ssm : Idn.ASm7 [] := ⟨by decide, by simp⟩
/-- strings written out in a new block -/
theorem genS {R : World → Prop} {w : World} {C : Array Value} {t : TypeId} (l : List Bs) (hC : C = (l.map sv).toArray) (hl : l.length ≤ maxLen)
    (h : ∀ W, Below w.heap.size w W → StrsV W W.heap.size (.slice (some ⟨w.heap.size, 0, none⟩) l.length l.length) l → R W) : R (w.alloc (.cells C t)) := by
  subst hC
  refine h _ ((Below.refl _ _).alloc (Nat.le_refl _) _) (StrsV.of_own (base := 0) (e := t) ?_)
  have := litR w (l.map sv).toArray l.length 1 t _ rfl hl (by simp)
  simpa using this
set_option maxHeartbeats 1000000 in
set_option maxRecDepth 100000 in
theorem small11_any (w : World) :
    Calls Tryz.prog 39 #[] w fun e w' => ∃ v, e = .returned v ∧ SchV w' w'.heap.size v E11.smallS ∧ Below w.heap.size w w' := by
  go_enter Tryz.func39, Tryz.ntmps39
  go_wp2
  with_reducible refine genW (R := fun W => bodyPost _ _ _ _ _ W) (Q := fun W => (W.cell? ⟨w.heap.size, 0, none⟩ = some (.slice (some ⟨w.heap.size + 1, 0, none⟩) 4 4) ∧ W.cell? ⟨w.heap.size, 1, none⟩ = some (.slice none 0 0)) ∧
    SchV W W.heap.size (.agg #[.slice (some ⟨w.heap.size + 1, 0, none⟩) 4 4, .slice none 0 0]) E11.smallS ∧ Below w.heap.size w W) ?_ ?_
  · refine ⟨⟨?_, ?_⟩, ⟨_, _, rfl, ?_, ?_⟩, ?_⟩
    · refine Eq.trans (World.ownsRow.cellAt (n := 1) (size := 2) ((litR w _ 1 2 _ _ rfl (by decide) rfl).alloc _) 0 (by decide)) ?_
      rfl
    · refine Eq.trans (World.ownsRow.cellAt (n := 1) (size := 2) ((litR w _ 1 2 _ _ rfl (by decide) rfl).alloc _) 1 (by decide)) ?_
      rfl
    · refine SlV.own (litR _ _ 4 3 _ _ (by simp) (by decide) rfl) fun i x hx => ?_
      match i, hx with
      | 0, hx => injection hx with hx; subst hx; exact ⟨_, rfl, rfl, fun j u hj => by match j, hj with | 0, hj => exact hj | 1, hj => exact hj | 2, hj => exact hj⟩
      | 1, hx => injection hx with hx; subst hx; exact ⟨_, rfl, rfl, fun j u hj => by match j, hj with | 0, hj => exact hj | 1, hj => exact hj | 2, hj => exact hj⟩
      | 2, hx => injection hx with hx; subst hx; exact ⟨_, rfl, rfl, fun j u hj => by match j, hj with | 0, hj => exact hj | 1, hj => exact hj | 2, hj => exact hj⟩
      | 3, hx => injection hx with hx; subst hx; exact ⟨_, rfl, rfl, fun j u hj => by match j, hj with | 0, hj => exact hj | 1, hj => exact hj | 2, hj => exact hj⟩
    · exact SlV.nil _ _ _ _
    · repeat (first | with_reducible exact Below.refl _ _ | with_reducible refine Below.lay ?_ _)
  · rintro W ⟨⟨k0, k1⟩, hS, hb⟩
    exact bodyPost_ret (by simp [results, Tryz.results39, go_sem, k0, k1]) rfl ⟨_, rfl, hS, hb⟩
end Go.Proofs.YtgjllfonmgfhgaaGreatDoor
/- law11: alive. -/
namespace Go.Proofs.YtgjllfonmgfhgaaGreatDoor
open Go.RowKit Go.Sort
open Idn (L B Bs drop_L take_L size_L)
theorem new11_ok (v nv : Value) (w : World) (hv : SchV w w.heap.size v E11.smallS) (hn : StrsV w w.heap.size nv E11.ns) :
    Calls Tryz.prog 13 #[v, nv] w fun e w' => ∃ (px eb vb hs : Nat) (ta cb : Value) (ts : List (Bs × Nat)), e = .returned (.tuple #[.pointer (some ⟨px, 0, none⟩), .int .i64 0]) ∧ w.heap.size ≤ hs ∧ IxV w' hs hs px E11.smallS E11.ns [] ta cb eb vb (fun _ => .map none) ts (fun _ _ => none) ∧ Below w.heap.size w w' := by
  refine (ixNew_any v nv E11.smallS E11.ns w hv E11.small_ssm (by decide) (by decide) (by decide) hn (by decide) (by decide)).mono ?_
  rintro e w' ⟨hb, ⟨_, px, eb, vb, hs, ta, cb, ts, h1, h2, h3⟩ | ⟨h, _⟩⟩
  · exact ⟨px, eb, vb, hs, ta, cb, ts, h1, h2, h3, hb⟩
  · exact absurd E11.ev_n1 h
theorem new11_bad (v nv : Value) (ns : List Bs) (r : Int) (hr : nwE E11.smallS ns = r) (hr0 : r ≠ 0) (hl : ns.length ≤ 1000000) (hb : ∀ n ∈ ns, n.length ≤ 1000000000) (w : World) (hv : SchV w w.heap.size v E11.smallS) (hn : StrsV w w.heap.size nv ns) :
    Calls Tryz.prog 13 #[v, nv] w fun e w' => e = .returned (.tuple #[.pointer none, .int .i64 r]) ∧ Below w.heap.size w w' := by
  refine (ixNew_any v nv E11.smallS ns w hv E11.small_ssm (by decide) (by decide) (by decide) hn hl hb).mono ?_
  rintro e w' ⟨hb, ⟨h, _⟩ | ⟨_, h⟩⟩
  · exact absurd (hr.symm.trans h) hr0
  · exact ⟨by rw [h, hr], hb⟩
theorem gd_nil : GdI E11.smallS E11.ns [] := nwE_zero E11.small_ssm E11.ev_n1
theorem gd_es : GdI E11.smallS E11.ns E11.es := by
  have h := gd_nil.ins (n := E11.annN) (A := E11.annL) (by kernel_rfl) (by decide) (by kernel_rfl) (.inr (by decide))
  have e : insE E11.annN (Idn.rSorted E11.annL) [] = E11.es := by kernel_rfl
  rwa [e] at h
theorem two_read (w : World) (p : Nat) (hp : w.heap.size = p) (k : Int) (f : Flt) (hf : f = .mk k [] [] [] [E11.F1, E11.F2]) : FltV (w.alloc (.cells #[.int .i64 4, .string ⟨#[109, 97, 105, 108]⟩, .string ⟨#[120]⟩, .slice none 0 0, .slice none 0 0, .int .i64 4, .string ⟨#[99, 110]⟩, .string ⟨#[97, 110, 110]⟩, .slice none 0 0, .slice none 0 0] 56))
    (w.alloc (.cells #[.int .i64 4, .string ⟨#[109, 97, 105, 108]⟩, .string ⟨#[120]⟩, .slice none 0 0, .slice none 0 0, .int .i64 4, .string ⟨#[99, 110]⟩, .string ⟨#[97, 110, 110]⟩, .slice none 0 0, .slice none 0 0] 56)).heap.size 1 (.agg #[.int .i64 k, .string ⟨#[]⟩, .string ⟨#[]⟩, .slice none 0 0, .slice (some ⟨p, 0, none⟩) 2 2]) f := by
  subst hf
  refine ⟨_, _, rfl, SlV.nil _ _ _ _, ?_⟩
  refine SlV.own (litR _ _ 2 5 _ _ hp (by decide) rfl) fun i x hx => ?_
  match i, hx with
  | 0, hx => injection hx with hx; subst hx; exact ⟨_, rfl, ⟨_, _, rfl, SlV.nil _ _ _ _, SlV.nil _ _ _ _⟩, fun j u hj => by match j, hj with | 0, hj => exact hj | 1, hj => exact hj | 2, hj => exact hj | 3, hj => exact hj | 4, hj => exact hj⟩
  | 1, hx => injection hx with hx; subst hx; exact ⟨_, rfl, ⟨_, _, rfl, SlV.nil _ _ _ _, SlV.nil _ _ _ _⟩, fun j u hj => by match j, hj with | 0, hj => exact hj | 1, hj => exact hj | 2, hj => exact hj | 3, hj => exact hj | 4, hj => exact hj⟩
theorem ann_read (w : World) (p : Nat) (hp : w.heap.size = p) : AttsV (((w.alloc (.cells #[.string ⟨#[65, 110, 110]⟩] 9)).alloc (.cells #[.string ⟨#[55]⟩] 9)).alloc (.cells #[.string ⟨#[99, 110]⟩, .slice (some ⟨p, 0, none⟩) 1 1, .string ⟨#[97, 103, 101]⟩, .slice (some ⟨p + 1, 0, none⟩) 1 1] 90))
    (((w.alloc (.cells #[.string ⟨#[65, 110, 110]⟩] 9)).alloc (.cells #[.string ⟨#[55]⟩] 9)).alloc (.cells #[.string ⟨#[99, 110]⟩, .slice (some ⟨p, 0, none⟩) 1 1, .string ⟨#[97, 103, 101]⟩, .slice (some ⟨p + 1, 0, none⟩) 1 1] 90)).heap.size (.slice (some ⟨p + 1 + 1, 0, none⟩) 2 2) E11.annL := by
  subst hp
  refine SlV.own (litR _ _ 2 2 _ _ (by simp) (by decide) rfl) fun i x hx => ?_
  match i, hx with
  | 0, hx => injection hx with hx; subst hx; exact ⟨_, rfl, ⟨_, rfl, oneS (x := [65, 110, 110]) (((litR w _ 1 1 _ _ rfl (by decide) rfl).alloc _).alloc _)⟩, fun j u hj => by match j, hj with | 0, hj => exact hj | 1, hj => exact hj⟩
  | 1, hx => injection hx with hx; subst hx; exact ⟨_, rfl, ⟨_, rfl, oneS (x := [55]) ((litR _ _ 1 1 _ (w.heap.size + 1) (by simp) (by decide) rfl).alloc _)⟩, fun j u hj => by match j, hj with | 0, hj => exact hj | 1, hj => exact hj⟩
theorem e11_f1 : ixFind E11.smallS (E11.ns.map Idn.lower) E11.es (L ⟨#[99, 110]⟩) (L ⟨#[65, 78, 78]⟩) = ([E11.annN], true) := by rw [E11.ev_idx]; exact E11.ev_f1
theorem e11_r1 : ixRange E11.smallS (E11.ns.map Idn.lower) E11.es (L ⟨#[65, 71, 69]⟩) (L ⟨#[]⟩) (L ⟨#[49, 48]⟩) = ([E11.annN], true) := by rw [E11.ev_idx]; exact E11.ev_r1
theorem e11_r2 : ixRange E11.smallS (E11.ns.map Idn.lower) E11.es (L ⟨#[97, 103, 101]⟩) (L ⟨#[49, 48]⟩) (L ⟨#[57]⟩) = ([], true) := by rw [E11.ev_idx]; exact E11.ev_r2
theorem e11_f2 : ixFind E11.smallS (E11.ns.map Idn.lower) E11.es (L ⟨#[109, 97, 105, 108]⟩) (L ⟨#[120]⟩) = ([], false) := by rw [E11.ev_idx]; exact E11.ev_f2
theorem e11_c1 : ixCand E11.smallS (E11.ns.map Idn.lower) E11.es E11.FA = ([E11.annN], true) := by rw [E11.ev_idx]; exact E11.ev_c1
theorem e11_c2 : (ixCand E11.smallS (E11.ns.map Idn.lower) E11.es E11.FO).2 = false := by rw [E11.ev_idx]; exact E11.ev_c2
set_option maxHeartbeats 8000000 in
set_option maxRecDepth 100000 in
theorem alive11_any (w : World) (hE : Env w) (hU : EnvU w) :
    Calls Tryz.prog 12 #[] w fun e w' => e = .returned (.bool true) ∧ Below w.heap.size w w' := by
  go_enter Tryz.func12, Tryz.ntmps12
  go_upto_region 2 with (go_at_call 39; refine (small11_any _).mono ?_; rintro e w1 ⟨v1, rfl, hs1, hb1⟩)
  with_reducible refine genS (R := fun W => Calls Tryz.prog 13 _ W _) E11.ns ?_ ?_ ?_
  · rfl
  · unfold maxLen; decide
  intro W1 hW1 hn1
  refine (new11_ok _ _ W1 (SchV.mono (SchV.keep hs1 hW1) hW1.size) hn1).mono ?_
  rintro e w2 ⟨px, eb, vb, hs, ta, cb, ts, rfl, hhs, hI, hb2⟩
  go_upto_region 2 with fail
  have hbw1 := hb1.trans (hW1.mono hb1.size)
  have hhs2 : w.heap.size ≤ hs := Nat.le_trans hbw1.size hhs
  have hbw2 := hbw1.trans (hb2.mono hbw1.size)
  clear hs1 hb1 hW1 hn1 hb2 hhs hbw1
  go_upto_region 3 with (go_at_call 39; refine (small11_any _).mono ?_; rintro e w3 ⟨v3, rfl, hs3, hb3⟩)
  with_reducible refine genS (R := fun W => Calls Tryz.prog 13 _ W _) [E8.cnN, [67, 78]] ?_ ?_ ?_
  · rfl
  · unfold maxLen; decide
  intro W3 hW3 hn3
  refine (new11_bad _ _ _ 7 E11.ev_n2 (by decide) (by decide) (by decide) W3 (SchV.mono (SchV.keep hs3 hW3) hW3.size) hn3).mono ?_
  rintro e w4 ⟨rfl, hb4⟩
  go_upto_region 3 with fail
  go_upto_region 4 with (go_at_call 39; refine (small11_any _).mono ?_; rintro e w5 ⟨v5, rfl, hs5, hb5⟩)
  with_reducible refine genS (R := fun W => Calls Tryz.prog 13 _ W _) [E11.xN] ?_ ?_ ?_
  · rfl
  · unfold maxLen; decide
  intro W5 hW5 hn5
  refine (new11_bad _ _ _ 6 E11.ev_n3 (by decide) (by decide) (by decide) W5 (SchV.mono (SchV.keep hs5 hW5) hW5.size) hn5).mono ?_
  rintro e w6 ⟨rfl, hb6⟩
  go_upto_region 4 with fail
  have hb26 : RowKit.Below w2.heap.size w2 w6 := Below.on (Below.on (Below.on (Below.on (Below.on hb3 hW3) hb4) hb5) hW5) hb6
  clear hs3 hb3 hW3 hn3 hb4 hs5 hb5 hW5 hn5 hb6
  replace hI := hI.keep hb26
  replace hbw2 := hbw2.trans (hb26.mono hbw2.size)
  clear hb26
  have hEv : ∀ W, Below w.heap.size w W → Env W ∧ EnvU W := fun W hW => ⟨hE.keep hW, hU.keep hW⟩
  go_upto_region 7 with fail
  with_reducible refine genW (R := fun W => Calls Tryz.prog 15 _ W _) (Q := fun W => AttsV W W.heap.size (.slice (some ⟨w6.heap.size + 1 + 1, 0, none⟩) 2 2) E11.annL ∧ Below w6.heap.size w6 W) ?_ ?_
  · exact ⟨ann_read w6 _ rfl, (((Below.refl _ _).alloc (Nat.le_refl _) _).alloc (by simp) _).alloc (by simp; omega) _⟩
  rintro W7 ⟨hA7, hb7⟩
  replace hI := hI.keep hb7
  replace hbw2 := hbw2.trans (hb7.mono hbw2.size)
  clear hb7
  have hP := ixPut_any hI gd_nil (fun W hW => hEv W (hbw2.trans (hW.mono hhs2))) E11.annN (by decide) _ E11.annL hA7 E11.ann_asm
  rw [E11.ev_put] at hP
  refine hP.mono ?_
  rintro e w8 ⟨rfl, g8, G8, hI8, hm8, hn8⟩
  have hbw8 := hbw2.trans ((hm8.below hI.lowS hI.hsz).mono hhs2)
  clear hP hA7 hm8 hn8 hI hbw2
  go_upto_region 8 with fail
  have q9 := ixFind_any hI8 gd_es (fun W hW => hEv W (hbw8.trans (hW.mono hbw8.size))) ⟨#[99, 110]⟩ ⟨#[65, 78, 78]⟩ (by decide) (by decide)
  rw [e11_f1] at q9
  refine q9.mono ?_
  rintro e w9 ⟨u9, rfl, ho9, hb9⟩
  dsimp only at ho9
  obtain ⟨A9, c9, hsh⟩ := own_shape ho9
  subst hsh
  have hI9 := hI8.keep hb9
  have hbw9 := hbw8.trans (hb9.mono hbw8.size)
  clear q9 hI8 hbw8
  have S9 := StrsV.of_own (l := [E11.annN]) ho9
  clear ho9
  go_upto_region 9 with fail
  have q10 := ixRange_any hI9 gd_es (fun W hW => hEv W (hbw9.trans (hW.mono hbw9.size))) ⟨#[65, 71, 69]⟩ ⟨#[]⟩ ⟨#[49, 48]⟩ (by decide) (by decide) (by decide)
  rw [e11_r1] at q10
  refine q10.mono ?_
  rintro e w10 ⟨u10, rfl, ho10, hb10⟩
  dsimp only at ho10
  obtain ⟨A10, c10, hsh⟩ := own_shape ho10
  subst hsh
  have hI10 := hI9.keep hb10
  have hbw10 := hbw9.trans (hb10.mono hbw9.size)
  clear q10 hI9 hbw9
  have S10 := StrsV.of_own (l := [E11.annN]) ho10
  replace S9 := SlV.mono (SlV.keep S9 hb10) hb10.size
  clear ho10 hb9 hb10
  go_upto_region 10 with fail
  have q11 := ixRange_any hI10 gd_es (fun W hW => hEv W (hbw10.trans (hW.mono hbw10.size))) ⟨#[97, 103, 101]⟩ ⟨#[49, 48]⟩ ⟨#[57]⟩ (by decide) (by decide) (by decide)
  rw [e11_r2] at q11
  refine q11.mono ?_
  rintro e w11 ⟨u11, rfl, ho11, hb11⟩
  dsimp only at ho11
  obtain ⟨A11, c11, hsh⟩ := own_shape ho11
  subst hsh
  have hI11 := hI10.keep hb11
  have hbw11 := hbw10.trans (hb11.mono hbw10.size)
  clear q11 hI10 hbw10
  replace S9 := SlV.mono (SlV.keep S9 hb11) hb11.size
  replace S10 := SlV.mono (SlV.keep S10 hb11) hb11.size
  clear ho11 hb11
  go_upto_region 11 with fail
  have q12 := ixFind_any hI11 gd_es (fun W hW => hEv W (hbw11.trans (hW.mono hbw11.size))) ⟨#[109, 97, 105, 108]⟩ ⟨#[120]⟩ (by decide) (by decide)
  rw [e11_f2] at q12
  refine q12.mono ?_
  rintro e w12 ⟨u12, rfl, ho12, hb12⟩
  dsimp only at ho12
  obtain ⟨A12, c12, hsh⟩ := own_shape ho12
  subst hsh
  have hI12 := hI11.keep hb12
  have hbw12 := hbw11.trans (hb12.mono hbw11.size)
  clear q12 hI11 hbw11
  replace S9 := SlV.mono (SlV.keep S9 hb12) hb12.size
  replace S10 := SlV.mono (SlV.keep S10 hb12) hb12.size
  clear ho12 hb12
  go_upto_region 12 with fail
  with_reducible refine genW (R := fun W => Calls Tryz.prog 27 _ W _) (Q := fun W => FltV W W.heap.size 1 (.agg #[.int .i64 1, .string ⟨#[]⟩, .string ⟨#[]⟩, .slice none 0 0, .slice (some ⟨w12.heap.size, 0, none⟩) 2 2]) E11.FA ∧ Below w12.heap.size w12 W) ?_ ?_
  · exact ⟨two_read w12 _ rfl 1 _ rfl, (Below.refl _ _).alloc (Nat.le_refl _) _⟩
  rintro W13 ⟨hF13, hB13⟩
  have hI13' := hI12.keep hB13
  have hbw13' := hbw12.trans (hB13.mono hbw12.size)
  have q13 := cand_any gd_es 1 _ E11.FA W13 hI13' (fun W hW => hEv W (hbw13'.trans (hW.mono hbw13'.size))) hF13 E11.fsA
  rw [e11_c1] at q13
  refine q13.mono ?_
  rintro e w13 ⟨u13, rfl, ho13, hb13⟩
  dsimp only at ho13
  obtain ⟨A13, c13, hsh⟩ := own_shape ho13
  subst hsh
  have hI13 := hI13'.keep hb13
  have hbw13 := hbw13'.trans (hb13.mono hbw13'.size)
  have S13 := StrsV.of_own (l := [E11.annN]) ho13
  replace S9 := SlV.mono (SlV.keep S9 (Below.on hB13 hb13)) (Below.on hB13 hb13).size
  replace S10 := SlV.mono (SlV.keep S10 (Below.on hB13 hb13)) (Below.on hB13 hb13).size
  clear q13 hF13 hB13 hb13 ho13 hI13' hbw13' hI12 hbw12
  go_upto_region 13 with fail
  with_reducible refine genW (R := fun W => Calls Tryz.prog 27 _ W _) (Q := fun W => FltV W W.heap.size 1 (.agg #[.int .i64 2, .string ⟨#[]⟩, .string ⟨#[]⟩, .slice none 0 0, .slice (some ⟨w13.heap.size, 0, none⟩) 2 2]) E11.FO ∧ Below w13.heap.size w13 W) ?_ ?_
  · exact ⟨two_read w13 _ rfl 2 _ rfl, (Below.refl _ _).alloc (Nat.le_refl _) _⟩
  rintro W14 ⟨hF14, hB14⟩
  have hI14' := hI13.keep hB14
  have hbw14' := hbw13.trans (hB14.mono hbw13.size)
  have q14 := (cand_any gd_es 1 _ E11.FO W14 hI14' (fun W hW => hEv W (hbw14'.trans (hW.mono hbw14'.size))) hF14 E11.fsO).mono (R' := fun e w' => ∃ u, e = .returned (.tuple #[u, .bool false]) ∧ Below W14.heap.size W14 w') fun e w' ⟨u, h1, _, h3⟩ => ⟨u, by rw [h1, e11_c2], h3⟩
  refine q14.mono ?_
  rintro e w14 ⟨u14, rfl, hb14⟩
  have hI14 := hI14'.keep hb14
  have hbw14 := hbw14'.trans (hb14.mono hbw14'.size)
  replace S9 := SlV.mono (SlV.keep S9 (Below.on hB14 hb14)) (Below.on hB14 hb14).size
  replace S10 := SlV.mono (SlV.keep S10 (Below.on hB14 hb14)) (Below.on hB14 hb14).size
  replace S13 := SlV.mono (SlV.keep S13 (Below.on hB14 hb14)) (Below.on hB14 hb14).size
  clear q14 hF14 hB14 hb14 hI14' hbw14' hI13 hbw13
  go_upto_region 14 with fail
  with_reducible refine genS (R := fun W => Code.wp Tryz.prog _ _ _ W) [E11.annN] ?_ ?_ ?_
  · rfl
  · unfold maxLen; decide
  intro W15 hB15 S15
  have hI15 := hI14.keep hB15
  have hbw15 := hbw14.trans (hB15.mono hbw14.size)
  replace S9 := SlV.mono (SlV.keep S9 hB15) hB15.size
  replace S10 := SlV.mono (SlV.keep S10 hB15) hB15.size
  replace S13 := SlV.mono (SlV.keep S13 hB15) hB15.size
  clear hI14 hbw14 hB15
  have k1 := fun W (hW : Below W15.heap.size W15 W) => r_lists_any _ _ _ _ W (SlV.mono (SlV.keep S9 hW) hW.size) (SlV.mono (SlV.keep S15 hW) hW.size) (by decide) (by decide)
  have k2 := fun W (hW : Below W15.heap.size W15 W) => r_lists_any _ _ _ _ W (SlV.mono (SlV.keep S10 hW) hW.size) (SlV.mono (SlV.keep S15 hW) hW.size) (by decide) (by decide)
  have k3 := fun W (hW : Below W15.heap.size W15 W) => r_lists_any _ _ _ _ W (SlV.mono (SlV.keep S13 hW) hW.size) (SlV.mono (SlV.keep S15 hW) hW.size) (by decide) (by decide)
  have k4 := fun W (hW : Below W15.heap.size W15 W) => ixLen_any (hI15.keep hW) gd_es
  have k5 := fun W (hW : Below W15.heap.size W15 W) => ixPut_any (hI15.keep hW) gd_es (fun V hV => hEv V ((hbw15.trans (hW.mono hbw15.size)).trans (hV.mono hhs2))) [] (by decide) (.slice none 0 0) [] (SlV.nil _ _ _ _) nil_ssm
  rw [show decide ([E11.annN] = [E11.annN]) = true from rfl] at k1 k2 k3
  rw [E11.ev_p2] at k5
  rw [show E11.es.length = 1 from rfl] at k4
  have hlow := hI15.lowS
  have hhz := hI15.hsz
  clear S9 S10 S13 S15
  go_wp2_with fail
  refine (k1 W15 (Below.refl _ _)).mono ?_
  rintro e x1 ⟨rfl, y1⟩
  go_wp2_with fail
  refine (k2 x1 y1).mono ?_
  rintro e x2 ⟨rfl, y2⟩
  have z2 := Below.on y1 y2
  go_wp2_with fail
  refine (k3 x2 z2).mono ?_
  rintro e x3 ⟨rfl, y3⟩
  have z3 := Below.on z2 y3
  go_wp2_with fail
  refine (k4 x3 z3).mono ?_
  rintro e x4 ⟨rfl, rfl⟩
  go_wp2_with fail
  refine (k5 x3 z3).mono ?_
  rintro e x5 ⟨rfl, g5, G5, _, hm5, _⟩
  have hfin := (hbw15.trans (z3.mono hbw15.size)).trans ((hm5.below hlow (Nat.le_trans hhz z3.size)).mono hhs2)
  go_wp2_with fail
  go_ret
  exact ⟨rfl, hfin⟩
end Go.Proofs.YtgjllfonmgfhgaaGreatDoor
/- law11: light, nodes. -/
namespace Go.Proofs.YtgjllfonmgfhgaaGreatDoor
open Go.RowKit Go.Sort
open Idn (L B Bs drop_L take_L size_L)
/-- a Bool that promises something -/
def RetY (w : World) (Pr : Prop) (e : Ending) (w' : World) : Prop := ∃ r : Bool, e = .returned (.bool r) ∧ (r = true → Pr) ∧ Below w.heap.size w w'
theorem RetY.no {w w' : World} {Pr : Prop} (h : Below w.heap.size w w') : RetY w Pr (.returned (.bool false)) w' := ⟨false, rfl, nofun, h⟩
theorem RetY.yes {w w' : World} {Pr : Prop} (hp : Pr) (h : Below w.heap.size w w') : RetY w Pr (.returned (.bool true)) w' := ⟨true, rfl, fun _ => hp, h⟩
/-- an attribute of few short values -/
def Lat (a : Idn.Att) : Prop := a.name.length ≤ 300 ∧ a.vals.length ≤ 10 ∧ ∀ x ∈ a.vals, x.length ≤ 300
/-- a light entry -/
def LightE (n : ByteArray) (l : List Idn.Att) : Prop := n.size ≤ 300 ∧ l.length ≤ 10 ∧ ∀ a ∈ l, Lat a
theorem take_allP {α : Type} {p : α → Prop} {l : List α} {k : Nat} (h : ∀ a ∈ l.take k, p a) (hk : k < l.length) (hp : p l[k]) : ∀ a ∈ l.take (k + 1), p a := fun a ha => by
  rw [List.take_succ_eq_append_getElem hk, List.mem_append, List.mem_singleton] at ha
  rcases ha with ha | rfl
  · exact h a ha
  · exact hp
set_option maxHeartbeats 4000000 in
set_option maxRecDepth 100000 in
theorem light_any (n : ByteArray) (a : Value) (l : List Idn.Att) (w : World) (hA : AttsV w w.heap.size a l) (hl : ALen8 l) (hn : n.size ≤ 9223372036854775807) :
    Calls Tryz.prog 34 #[.agg #[.string n, a]] w (RetY w (LightE n l)) := by
  obtain ⟨A, c, rfl, hc⟩ := SlV.shape hA
  obtain ⟨hl1, hl2⟩ := hl
  go_enter Tryz.func34, Tryz.ntmps34
  go_upto_region 1 with fail
  with_reducible refine gen1 (R := fun W => Code.wp Tryz.prog _ _ _ W) ?_
  intro W hbW hszW hc1 _
  have b0 : W.cell? ⟨w.heap.size, 0, none⟩ = some (.string n) := hc1 0 _ rfl
  have b1 : W.cell? ⟨w.heap.size, 1, none⟩ = some (.slice A l.length c) := hc1 1 _ rfl
  clear hc1 hszW
  go_wp2_with fail
  go_loopw [3, 4] (fun i _ wr => ∃ k : Nat, k ≤ l.length ∧ i = .int .i64 k ∧ Below W.heap.size W wr ∧ Hid (∀ a ∈ l.take k, Lat a)) (fun i _ _ => l.length - (intOf i).toNat)
  case atStart => exact ⟨0, Nat.zero_le _, rfl, Below.refl _ _, fun t ht => by simp at ht⟩
  case round =>
    obtain ⟨k, hk, rfl, hb, hinv⟩ := hrel
    replace b0 := cell_later hb b0
    replace b1 := cell_later hb b1
    have hbw := hbW.trans (hb.mono hbW.size)
    by_cases hlt : k < l.length
    · obtain ⟨b, off, va, hA', hbl, c0, c1, hva⟩ := AttsV.cell (AttsV.keep hA hbw) hlt
      subst hA'
      obtain ⟨Av, cv, rfl, hcv⟩ := SlV.shape hva
      have hltI : (k : Int) < (l.length : Int) := by omega
      have hsz := Idn.size_B l[k].name
      have hvl := hl2 _ (List.getElem_mem hlt)
      by_cases he : l[k].name.length ≤ 300
      case neg =>
        have hg : (300 : Int) < ((B l[k].name).size : Int) := by omega
        clear hsz he hinv
        go_wp2_with fail
        go_ret
        exact RetY.no hbw
      have hg : ¬ (300 : Int) < ((B l[k].name).size : Int) := by omega
      by_cases hv : l[k].vals.length ≤ 10
      case neg =>
        have hv' : (10 : Int) < (l[k].vals.length : Int) := by omega
        clear hsz he hinv
        go_wp2_with fail
        go_ret
        exact RetY.no hbw
      have hv' : ¬ (10 : Int) < (l[k].vals.length : Int) := by omega
      go_wp2_with fail
      go_loopw [4] (fun j wi => ∃ m : Nat, m ≤ l[k].vals.length ∧ j = .int .i64 m ∧ Below wr.heap.size wr wi ∧ Hid (∀ x ∈ l[k].vals.take m, x.length ≤ 300)) (fun j _ => l[k].vals.length - (intOf j).toNat)
      case atStart => exact ⟨0, Nat.zero_le _, rfl, Below.refl _ _, fun t ht => by simp at ht⟩
      case round =>
        obtain ⟨m, hm, rfl, hb2, hin2⟩ := hrel
        replace b0 := cell_later hb2 b0
        replace b1 := cell_later hb2 b1
        replace c0 := cell_later hb2 c0
        replace c1 := cell_later hb2 c1
        replace hva := SlV.keep hva (hb2.mono hbw.size)
        replace hbw := hbw.trans (hb2.mono hbw.size)
        replace hb := hb.trans (hb2.mono hb.size)
        by_cases hmt : m < l[k].vals.length
        · obtain ⟨b2, off2, hA2, _, d0⟩ := StrsV.cell hva hmt
          subst hA2
          have hmI : (m : Int) < (l[k].vals.length : Int) := by omega
          have hsx := Idn.size_B l[k].vals[m]
          by_cases hx : l[k].vals[m].length ≤ 300
          · have hx' : ¬ (300 : Int) < ((B l[k].vals[m]).size : Int) := by omega
            have HF : Hid (∀ x ∈ l[k].vals.take (m + 1), x.length ≤ 300) := take_allP hin2.out hmt hx
            clear hin2 hinv hsx hsz
            go_wp2_with fail
            go_roundw
            case rel => exact ⟨m + 1, by omega, by go_num, hb2, HF⟩
            case measure => simp [intOf]; omega
          · have hx' : (300 : Int) < ((B l[k].vals[m]).size : Int) := by omega
            clear hin2 hinv hsx hsz
            go_wp2_with fail
            go_ret
            exact RetY.no hbw
        · have hmI : ¬ (m : Int) < (l[k].vals.length : Int) := by omega
          have HF : Hid (∀ a ∈ l.take (k + 1), Lat a) := take_allP hinv.out hlt ⟨he, hv, by
            have := hin2.out
            rwa [List.take_of_length_le (by omega)] at this⟩
          clear hin2 hinv hsz
          go_wp2_with fail
          go_roundw
          case rel => exact ⟨k + 1, by omega, by go_num, hb, HF⟩
          case measure => simp [intOf]; omega
    · have hltI : ¬ (k : Int) < (l.length : Int) := by omega
      have HF : Hid (∀ a ∈ l, Lat a) := by
        have h := hinv.out
        rwa [List.take_of_length_le (by omega)] at h
      clear hinv
      by_cases h1 : l.length ≤ 10
      · have h1' : (l.length : Int) ≤ 10 := by omega
        by_cases h2 : n.size ≤ 300
        · have h2' : (n.size : Int) ≤ 300 := by omega
          go_wp2_with fail
          go_ret
          exact RetY.yes ⟨h2, h1, HF.out⟩ hbw
        · have h2' : ¬ (n.size : Int) ≤ 300 := by omega
          go_wp2_with fail
          go_ret
          exact RetY.no hbw
      · have h1' : ¬ (l.length : Int) ≤ 10 := by omega
        go_wp2_with fail
        go_ret
        exact RetY.no hbw
theorem fLen_kids {f : Flt} (h : fLen f) : f.parts.length ≤ 9223372036854775807 ∧ f.kids.length ≤ 9223372036854775807 ∧ ∀ g ∈ f.kids, fLen g := by
  cases f
  exact ⟨h.1, h.2.1, fLens_all.1 h.2.2⟩
set_option maxHeartbeats 8000000 in
set_option maxRecDepth 100000 in
theorem nodes11_any : ∀ (d : Nat) (v : Value) (f : Flt) (k : Int) (w : World), FltV w w.heap.size d v f → fLen f → (-1000 ≤ k ∧ k ≤ 1000) → Calls Tryz.prog 36 #[v, .int .i64 k] w fun e w' => ∃ n : Int, e = .returned (.int .i64 n) ∧ (1 ≤ n ∧ n ≤ 100) ∧ Below w.heap.size w w' := by
  intro d
  induction d using Nat.strongRecOn with
  | _ d ih =>
  intro v f k w hv hl hk0
  obtain ⟨Ap, cp, Ak, ck, rfl, hp, hk⟩ := hv.shape
  obtain ⟨hpl, hkl, hkl2⟩ := fLen_kids hl
  have hs1 := Idn.size_B f.name
  have hs2 := Idn.size_B f.value
  clear hp hv hl
  go_enter Tryz.func36, Tryz.ntmps36
  go_upto_region 1 with fail
  with_reducible refine gen1 (R := fun W => Code.wp Tryz.prog _ _ _ W) ?_
  intro W hbW hszW hc _
  have b0 : W.cell? ⟨w.heap.size, 0, none⟩ = some (.int .i64 f.kind) := hc 0 _ rfl
  have b1 : W.cell? ⟨w.heap.size, 1, none⟩ = some (.string (B f.name)) := hc 1 _ rfl
  have b2 : W.cell? ⟨w.heap.size, 2, none⟩ = some (.string (B f.value)) := hc 2 _ rfl
  have b3 : W.cell? ⟨w.heap.size, 3, none⟩ = some (.slice Ap f.parts.length cp) := hc 3 _ rfl
  have b4 : W.cell? ⟨w.heap.size, 4, none⟩ = some (.slice Ak f.kids.length ck) := hc 4 _ rfl
  clear hc hszW
  by_cases g1 : (10 : Int) < k
  · clear hs1 hs2 hkl2 ih hk
    go_wp2_with fail
    go_ret
    exact ⟨100, rfl, by omega, hbW⟩
  by_cases g2 : (300 : Int) < ((B f.name).size : Int)
  · clear hs1 hs2 hkl2 ih hk
    go_wp2_with fail
    go_ret
    exact ⟨100, rfl, by omega, hbW⟩
  by_cases g3 : (300 : Int) < ((B f.value).size : Int)
  · clear hs1 hs2 hkl2 ih hk
    go_wp2_with fail
    go_ret
    exact ⟨100, rfl, by omega, hbW⟩
  by_cases g4 : (20 : Int) < (f.parts.length : Int)
  · clear hs1 hs2 hkl2 ih hk
    go_wp2_with fail
    go_ret
    exact ⟨100, rfl, by omega, hbW⟩
  by_cases g5 : (20 : Int) < (f.kids.length : Int)
  · clear hs1 hs2 hkl2 ih hk
    go_wp2_with fail
    go_ret
    exact ⟨100, rfl, by omega, hbW⟩
  clear hs1 hs2
  go_wp2_with fail
  go_loopw [5, 6] (fun nv i wr => ∃ (m : Nat) (n : Int), m ≤ f.kids.length ∧ i = .int .i64 m ∧ nv = .int .i64 n ∧ (1 ≤ n ∧ n ≤ 100) ∧ Below W.heap.size W wr) (fun _ i _ => f.kids.length - (intOf i).toNat)
  case atStart => exact ⟨0, 1, Nat.zero_le _, rfl, rfl, by omega, Below.refl _ _⟩
  case round =>
    obtain ⟨m, n, hm9, rfl, rfl, hn, hbr⟩ := hrel
    have hb := hbW.trans (hbr.mono hbW.size)
    replace b4 := cell_later hbr b4
    by_cases hlt : m < f.kids.length
    · obtain ⟨g, off, Ap', cp', Ak', ck', hA, hg, c0, c1, c2, c3, c4, hd, hkid⟩ := FltsV.kid2 (FltsV.keep hk hb) hlt
      subst hA
      have hltI : (m : Int) < (f.kids.length : Int) := by omega
      have hw : wrap64 (k + 1) = k + 1 := by unfold wrap64; omega
      have hcall := ih (d - 1) (by omega) _ f.kids[m] (k + 1) wr (FltV.mono hkid hb.size) (hkl2 _ (List.getElem_mem hlt)) (by omega)
      clear ih hk hkl2 hkid
      go_wp2_with fail
      refine hcall.mono ?_
      rintro e w6 ⟨q, rfl, hq, hb6⟩
      have hb6' := hbr.trans (hb6.mono hbr.size)
      clear hcall c0 c1 c2 c3 c4
      by_cases hmin : 100 ≤ n + q
      · go_wp2_with fail
        go_roundw
        case rel => exact ⟨m + 1, 100, by omega, by go_num, by go_num, by omega, hb6'⟩
        case measure => simp [intOf]; omega
      · go_wp2_with fail
        go_roundw
        case rel => exact ⟨m + 1, n + q, by omega, by go_num, by go_num, by omega, hb6'⟩
        case measure => simp [intOf]; omega
    · have hltI : ¬ (m : Int) < (f.kids.length : Int) := by omega
      clear ih hk hkl2
      go_wp2_with fail
      go_ret
      exact ⟨n, rfl, hn, hb⟩
end Go.Proofs.YtgjllfonmgfhgaaGreatDoor
/- The program's index: what every method says of an index that New did not return. -/
namespace Go.Proofs.YtgjllfonmgfhgaaGreatDoor
open Go.RowKit Go.Sort
open Idn (L B Bs drop_L take_L size_L)
/-- no index: nil, or one whose maps are nil -/
def NilX (w : World) (v : Value) : Prop := v = .pointer none ∨ ∃ p, v = .pointer (some ⟨p, 0, none⟩) ∧ w.cell? ⟨p, 2, none⟩ = some (.map none)
theorem NilX.keep {w w' : World} {v : Value} (h : NilX w v) (hb : Below w.heap.size w w') : NilX w' v := by
  rcases h with h | ⟨p, h1, h2⟩
  · exact .inl h
  · exact .inr ⟨p, h1, cell_later hb h2⟩
theorem ready_no {w : World} {v : Value} (h : NilX w v) : Calls Tryz.prog 47 #[v] w fun e w' => e = .returned (.bool false) ∧ w = w' := by
  rcases h with rfl | ⟨p, rfl, h2⟩
  · exact ready_nil w
  · exact ready_zero p w h2
set_option maxRecDepth 100000 in
theorem of_no {w : World} {v : Value} (h : NilX w v) (a : ByteArray) : Calls Tryz.prog 57 #[v, .string a] w fun e w' => e = .returned (.tuple #[.map none, .bool false]) ∧ w = w' := by
  have hr := ready_no h
  go_enter Tryz.func57, Tryz.ntmps57
  go_wp2_with (go_at_call 47; refine hr.mono ?_; rintro e w1 ⟨rfl, rfl⟩)
  go_ret2
  exact ⟨rfl, rfl⟩
set_option maxRecDepth 100000 in
theorem find_no {w : World} {v : Value} (h : NilX w v) (a b : ByteArray) : Calls Tryz.prog 19 #[v, .string a, .string b] w fun e w' => e = .returned (.tuple #[.slice none 0 0, .bool false]) ∧ w = w' := by
  have hr := of_no h a
  go_enter Tryz.func19, Tryz.ntmps19
  go_wp2_with (go_at_call 57; refine hr.mono ?_; rintro e w1 ⟨rfl, rfl⟩)
  go_ret2
  exact ⟨rfl, rfl⟩
set_option maxRecDepth 100000 in
theorem range_no {w : World} {v : Value} (h : NilX w v) (a b c : ByteArray) : Calls Tryz.prog 22 #[v, .string a, .string b, .string c] w fun e w' => e = .returned (.tuple #[.slice none 0 0, .bool false]) ∧ w = w' := by
  have hr := of_no h a
  go_enter Tryz.func22, Tryz.ntmps22
  go_wp2_with (go_at_call 57; refine hr.mono ?_; rintro e w1 ⟨rfl, rfl⟩)
  go_ret2
  exact ⟨rfl, rfl⟩
set_option maxRecDepth 100000 in
theorem len_no {w : World} {v : Value} (h : NilX w v) : Calls Tryz.prog 24 #[v] w fun e w' => e = .returned (.int .i64 0) ∧ w = w' := by
  have hr := ready_no h
  go_enter Tryz.func24, Tryz.ntmps24
  go_wp2_with (go_at_call 47; refine hr.mono ?_; rintro e w1 ⟨rfl, rfl⟩)
  go_ret
  exact ⟨rfl, rfl⟩
set_option maxRecDepth 100000 in
theorem cand_no {w : World} {v : Value} (h : NilX w v) (k : Int) (n x : ByteArray) (A : Option Addr) (l c : Nat) (A' : Option Addr) (l' c' : Nat) : Calls Tryz.prog 27 #[v, .agg #[.int .i64 k, .string n, .string x, .slice A l c, .slice A' l' c']] w fun e w' => e = .returned (.tuple #[.slice none 0 0, .bool false]) ∧ Below w.heap.size w w' := by
  go_enter Tryz.func27, Tryz.ntmps27
  go_upto_region 1 with fail
  with_reducible refine gen1 (R := fun W => Code.wp Tryz.prog _ _ _ W) ?_
  intro W hbW _ _ _
  have hr := ready_no (h.keep hbW)
  clear h
  go_wp2_with (go_at_call 47; refine hr.mono ?_; rintro e w1 ⟨rfl, rfl⟩)
  go_ret2
  exact ⟨rfl, hbW⟩
set_option maxRecDepth 100000 in
theorem drop_no {w : World} {v : Value} (h : NilX w v) (a : ByteArray) : Calls Tryz.prog 17 #[v, .string a] w fun e w' => e = .returned (.tuple #[]) ∧ Below w.heap.size w w' := by
  go_enter Tryz.func17, Tryz.ntmps17
  go_upto_region 1 with fail
  with_reducible refine gen1 (R := fun W => Code.wp Tryz.prog _ _ _ W) ?_
  intro W hbW _ _ _
  have hr := ready_no (h.keep hbW)
  clear h
  go_wp2_with (go_at_call 47; refine hr.mono ?_; rintro e w1 ⟨rfl, rfl⟩)
  refine bodyPost_ret (results_none rfl _ _ _) rfl ?_
  exact ⟨rfl, hbW⟩
set_option maxRecDepth 100000 in
theorem put_no {w : World} {v : Value} (h : NilX w v) (n : ByteArray) (A : Option Addr) (l c : Nat) : Calls Tryz.prog 15 #[v, .agg #[.string n, .slice A l c]] w fun e w' => e = .returned (.int .i64 1) ∧ Below w.heap.size w w' := by
  go_enter Tryz.func15, Tryz.ntmps15
  go_upto_region 1 with fail
  with_reducible refine gen1 (R := fun W => Code.wp Tryz.prog _ _ _ W) ?_
  intro W hbW _ _ _
  have hr := ready_no (h.keep hbW)
  clear h
  go_wp2_with (go_at_call 47; refine hr.mono ?_; rintro e w1 ⟨rfl, rfl⟩)
  go_ret
  exact ⟨rfl, hbW⟩
end Go.Proofs.YtgjllfonmgfhgaaGreatDoor
/- law11: IndexNil. -/
namespace Go.Proofs.YtgjllfonmgfhgaaGreatDoor
open Go.RowKit Go.Sort
open Idn (L B Bs drop_L take_L size_L)
set_option maxHeartbeats 8000000 in
set_option maxRecDepth 100000 in
theorem indexNil_any (n0 : ByteArray) (a0 : Value) (l0 : List Idn.Att) (s1 : ByteArray) (d2 : Nat) (v2 : Value) (f2 : Flt) (w : World) (hA : AttsV w w.heap.size a0 l0) (hl : ALen8 l0) (hn : n0.size ≤ 9223372036854775807) (hs : s1.size ≤ 9223372036854775807) (hF : FltV w w.heap.size d2 v2 f2) (hfl : fLen f2) (hE : Env w) (hU : EnvU w) :
    Calls Tryz.prog 7 #[.agg #[.string n0, a0], .string s1, v2] w fun e w' => e = .returned (.bool true) ∧ Below w.heap.size w w' := by
  have kl := fun W (hW : Below w.heap.size w W) => light_any n0 a0 l0 W (AttsV.mono (AttsV.keep hA hW) hW.size) hl hn
  have kn := fun W (hW : Below w.heap.size w W) => nodes11_any d2 v2 f2 0 W (hF.on hW) hfl (by omega)
  have ka := fun W (hW : Below w.heap.size w W) => alive11_any W (hE.keep hW) (hU.keep hW)
  obtain ⟨Ag, cg, rfl, _⟩ := SlV.shape hA
  obtain ⟨Ap, cp, Ak, ck, rfl, _, _⟩ := hF.shape
  clear hA hF hE hU hl hn hfl
  go_enter Tryz.func7, Tryz.ntmps7
  go_upto_region 1 with fail
  with_reducible refine gen2 (R := fun W => Code.wp Tryz.prog _ _ _ W) ?_
  intro W hbW _ hc1 hc2
  have b0 : W.cell? ⟨w.heap.size, 0, none⟩ = some (.string n0) := hc1 0 _ rfl
  have b1 : W.cell? ⟨w.heap.size, 1, none⟩ = some (.slice Ag l0.length cg) := hc1 1 _ rfl
  have f0 : W.cell? ⟨w.heap.size + 1, 0, none⟩ = some (.int .i64 f2.kind) := hc2 0 _ rfl
  have f1 : W.cell? ⟨w.heap.size + 1, 1, none⟩ = some (.string (B f2.name)) := hc2 1 _ rfl
  have f2' : W.cell? ⟨w.heap.size + 1, 2, none⟩ = some (.string (B f2.value)) := hc2 2 _ rfl
  have f3 : W.cell? ⟨w.heap.size + 1, 3, none⟩ = some (.slice Ap f2.parts.length cp) := hc2 3 _ rfl
  have f4 : W.cell? ⟨w.heap.size + 1, 4, none⟩ = some (.slice Ak f2.kids.length ck) := hc2 4 _ rfl
  clear hc1 hc2
  go_wp2_with fail
  refine (kl W hbW).mono ?_
  rintro e w1 ⟨r1, rfl, _, hb1⟩
  replace b0 := cell_later hb1 b0
  replace b1 := cell_later hb1 b1
  replace f0 := cell_later hb1 f0
  replace f1 := cell_later hb1 f1
  replace f2' := cell_later hb1 f2'
  replace f3 := cell_later hb1 f3
  replace f4 := cell_later hb1 f4
  have hb := hbW.trans (hb1.mono hbW.size)
  clear kl hb1 hbW
  cases r1 with
  | false =>
    clear kn
    go_wp2_with fail
    refine (ka w1 hb).mono ?_
    rintro e w2 ⟨rfl, hb2⟩
    go_wp2_with fail
    go_ret
    exact ⟨rfl, hb.trans (hb2.mono hb.size)⟩
  | true =>
  by_cases h1 : (300 : Int) < (s1.size : Int)
  · clear kn
    go_wp2_with fail
    refine (ka w1 hb).mono ?_
    rintro e w2 ⟨rfl, hb2⟩
    go_wp2_with fail
    go_ret
    exact ⟨rfl, hb.trans (hb2.mono hb.size)⟩
  go_wp2_with fail
  refine (kn w1 hb).mono ?_
  rintro e w2 ⟨q, rfl, hq, hb2⟩
  replace b0 := cell_later hb2 b0
  replace b1 := cell_later hb2 b1
  replace f0 := cell_later hb2 f0
  replace f1 := cell_later hb2 f1
  replace f2' := cell_later hb2 f2'
  replace f3 := cell_later hb2 f3
  replace f4 := cell_later hb2 f4
  replace hb := hb.trans (hb2.mono hb.size)
  clear kn hb2
  by_cases h2 : (30 : Int) ≤ q
  · go_wp2_with fail
    refine (ka w2 hb).mono ?_
    rintro e w3 ⟨rfl, hb3⟩
    go_wp2_with fail
    go_ret
    exact ⟨rfl, hb.trans (hb3.mono hb.size)⟩
  go_wp2_with fail
  with_reducible refine gen2 (R := fun W => Code.wp Tryz.prog _ _ _ W) ?_
  intro W3 hb3 _ hc1 hc2
  have z2 : W3.cell? ⟨w2.heap.size, 2, none⟩ = some (.map none) := hc1 2 _ rfl
  have s0 : W3.cell? ⟨w2.heap.size + 1, 0, none⟩ = some (.pointer none) := hc2 0 _ rfl
  have s1' : W3.cell? ⟨w2.heap.size + 1, 1, none⟩ = some (.pointer (some ⟨w2.heap.size, 0, none⟩)) := hc2 1 _ rfl
  have hX : ∀ (W' : World) (k : Nat), Below W3.heap.size W3 W' → k < 2 → ∃ v, W'.cell? ⟨w2.heap.size + 1, k, none⟩ = some v ∧ NilX W' v := fun W' k hW hk => by
    rcases (by omega : k = 0 ∨ k = 1) with rfl | rfl
    · exact ⟨_, cell_later hW s0, .inl rfl⟩
    · exact ⟨_, cell_later hW s1', .inr ⟨_, rfl, cell_later hW z2⟩⟩
  replace b0 := cell_later hb3 b0
  replace b1 := cell_later hb3 b1
  replace f0 := cell_later hb3 f0
  replace f1 := cell_later hb3 f1
  replace f2' := cell_later hb3 f2'
  replace f3 := cell_later hb3 f3
  replace f4 := cell_later hb3 f4
  replace hb := hb.trans (hb3.mono hb.size)
  clear hc1 hc2 hb3 z2 s0 s1'
  go_loopw [35] (fun i wr => ∃ k : Nat, k ≤ 2 ∧ i = .int .i64 k ∧ Below W3.heap.size W3 wr) (fun i _ => 2 - (intOf i).toNat)
  case atStart => exact ⟨0, by omega, rfl, Below.refl _ _⟩
  case round =>
    obtain ⟨k, hk, rfl, hbr⟩ := hrel
    replace hb := hb.trans (hbr.mono hb.size)
    by_cases hlt : k < 2
    · have hltI : (k : Int) < 2 := by omega
      obtain ⟨v, hv, hx⟩ := hX wr k hbr hlt
      replace b0 := cell_later hbr b0
      replace b1 := cell_later hbr b1
      replace f0 := cell_later hbr f0
      replace f1 := cell_later hbr f1
      replace f2' := cell_later hbr f2'
      replace f3 := cell_later hbr f3
      replace f4 := cell_later hbr f4
      clear ka hX
      go_wp2_with fail
      refine (drop_no hx s1).mono ?_
      rintro e x1 ⟨rfl, y1⟩
      replace hx := hx.keep y1
      go_wp2_with fail
      refine (find_no hx s1 s1).mono ?_
      rintro e _ ⟨rfl, rfl⟩
      go_wp2_with fail
      refine (range_no hx s1 _ _).mono ?_
      rintro e _ ⟨rfl, rfl⟩
      replace b0 := cell_later y1 b0
      replace b1 := cell_later y1 b1
      replace f0 := cell_later y1 f0
      replace f1 := cell_later y1 f1
      replace f2' := cell_later y1 f2'
      replace f3 := cell_later y1 f3
      replace f4 := cell_later y1 f4
      go_wp2_with fail
      refine (cand_no hx _ _ _ _ _ _ _ _ _).mono ?_
      rintro e x2 ⟨rfl, y2⟩
      replace hx := hx.keep y2
      replace b0 := cell_later y2 b0
      replace b1 := cell_later y2 b1
      have y12 := Below.on y1 y2
      clear f0 f1 f2' f3 f4 hv y1 y2
      go_wp2_with fail
      refine (len_no hx).mono ?_
      rintro e _ ⟨rfl, rfl⟩
      go_wp2_with fail
      refine (put_no hx _ _ _ _).mono ?_
      rintro e x3 ⟨rfl, y3⟩
      have hbe := hbr.trans ((Below.on y12 y3).mono hbr.size)
      clear y12 y3 b0 b1
      go_wp2_with fail
      go_roundw
      case rel => exact ⟨k + 1, by omega, by go_num, hbe⟩
      case measure => simp [intOf]; omega
    · have hltI : ¬ (k : Int) < 2 := by omega
      have hka := ka wr hb
      clear ka hX
      go_wp2_with fail
      refine hka.mono ?_
      rintro e x1 ⟨rfl, y1⟩
      go_wp2_with fail
      go_ret
      exact ⟨rfl, hb.trans (y1.mono hb.size)⟩
end Go.Proofs.YtgjllfonmgfhgaaGreatDoor
