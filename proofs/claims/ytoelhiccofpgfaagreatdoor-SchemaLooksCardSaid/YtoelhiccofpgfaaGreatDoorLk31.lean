/- Part 31 of the proof that SchemaLooks returns true for every schema and every name: the package variables hold what the program lays; nothing else is asked. -/
import Derived.Test.YtoelhiccofpgfaaGreatDoorLk26
import Derived.Test.YtoelhiccofpgfaaGreatDoorLk30
import Derived.OneCell
/- Attributes that a call owns: a row of structs, each with a row of its own. -/
namespace Go.Proofs.YtoelhiccofpgfaaGreatDoor
open Go.RowKit Go.Sort
open Idn (L B Bs drop_L take_L size_L)

def rowA (ps : List (Idn.Att × Value)) : List Value := ps.flatMap fun p => [sv p.1.name, p.2]
def Apart (p q : Idn.Att × Value) : Prop := ∀ g, p.2.ownBlock = some g → q.2.ownBlock ≠ some g
def AttOwn (w : World) (base : Nat) (v : Value) (ps : List (Idn.Att × Value)) : Prop :=
  w.ownsRow base 51 2 v ps.length (rowA ps) ∧ (∀ p ∈ ps, w.ownsRow base 9 1 p.2 p.1.vals.length (p.1.vals.map sv)) ∧ ps.Pairwise Apart
theorem rowA_at : ∀ (ps : List (Idn.Att × Value)) (i : Nat) (p : Idn.Att × Value), ps[i]? = some p → (rowA ps)[i * 2]? = some (sv p.1.name) ∧ (rowA ps)[i * 2 + 1]? = some p.2
  | [], i, p, h => by simp at h
  | q :: ps, 0, p, h => by simp at h; subst h; exact ⟨rfl, rfl⟩
  | q :: ps, i + 1, p, h => by
    have := rowA_at ps i p (by simpa using h)
    have e : rowA (q :: ps) = sv q.1.name :: q.2 :: rowA ps := rfl
    rw [e, show (i + 1) * 2 = i * 2 + 1 + 1 by omega, show i * 2 + 1 + 1 + 1 = (i * 2 + 1) + 1 + 1 by omega]
    simpa using this
theorem rowA_set : ∀ (ps : List (Idn.Att × Value)) (i : Nat) (p : Idn.Att × Value) (a : Idn.Att) (u : Value), ps[i]? = some p → a.name = p.1.name → rowA (ps.set i (a, u)) = (rowA ps).set (i * 2 + 1) u
  | [], i, p, a, u, h, _ => by simp at h
  | q :: ps, 0, p, a, u, h, hn => by
    simp at h; subst h
    show sv a.name :: u :: rowA ps = _
    rw [hn]; rfl
  | q :: ps, i + 1, p, a, u, h, hn => by
    have := rowA_set ps i p a u (by simpa using h) hn
    show sv q.1.name :: q.2 :: rowA (ps.set i (a, u)) = (sv q.1.name :: q.2 :: rowA ps).set ((i + 1) * 2 + 1) u
    rw [this, show (i + 1) * 2 + 1 = (i * 2 + 1) + 1 + 1 by omega]
    rfl
theorem rowA_len (ps : List (Idn.Att × Value)) : (rowA ps).length = ps.length * 2 := by
  induction ps with
  | nil => rfl
  | cons q ps ih => show (sv q.1.name :: q.2 :: rowA ps).length = _; simp [ih]; omega
/-- a store into an owned row -/
theorem own_set {w : World} {base : Nat} {e : TypeId} {size : Nat} {n : Nat} {xs : List Value} {g cap : Nat} (h : w.ownsRow base e size (.slice (some ⟨g, 0, none⟩) n cap) n xs) (j : Nat) (hj : j < n * size) (u : Value) :
    (w.setCell ⟨g, j, none⟩ u).ownsRow base e size (.slice (some ⟨g, 0, none⟩) n cap) n (xs.set j u) := by
  refine ⟨by rw [List.length_set]; exact h.1, ?_⟩
  rcases h.2 with ⟨hn, _⟩ | ⟨g', cap', cur, hv, hb, hgg, h1, h2, h3, h4⟩
  · cases hn
  · injection hv with hv1 hv2 hv3
    injection hv1 with hv1
    injection hv1 with hv1
    subst hv1 hv3
    refine .inr ⟨g, cap, cur.setIfInBounds j u, rfl, hb, by simp [World.setCell, Array.getElem?_modify, hgg], h1, h2, by simpa using h3, ?_⟩
    rw [Array.toList_setIfInBounds, ← h4, List.take_set]
theorem own_apart {w : World} {base : Nat} {e e' : TypeId} {size size' : Nat} {v v' : Value} {n n' : Nat} {xs xs' : List Value} (h : w.ownsRow base e size v n xs) (h' : w.ownsRow base e' size' v' n' xs') (hne : e ≠ e') : ∀ g, v.ownBlock = some g → v'.ownBlock ≠ some g := by
  rcases h.2 with ⟨rfl, _⟩ | ⟨g1, cap, cur, rfl, _, hg, _⟩
  · intro g hg; simp [Value.ownBlock] at hg
  · rcases h'.2 with ⟨rfl, _⟩ | ⟨g2, cap2, cur2, rfl, _, hg2, _⟩
    · intro g _; simp [Value.ownBlock]
    · intro g h1 h2
      simp [Value.ownBlock] at h1 h2
      subst h1 h2
      rw [hg] at hg2
      injection hg2 with hg2
      injection hg2 with _ ht
      exact hne ht
/-- what another row's growth leaves -/
theorem own_kept {w w' : World} {base : Nat} {e : TypeId} {size : Nat} {v : Value} {n : Nat} {xs : List Value} {row : Option Nat} (h : w.ownsRow base e size v n xs) (hg : w.grownBy w' row) (hr : ∀ g, v.ownBlock = some g → row ≠ some g) : w'.ownsRow base e size v n xs := by
  refine ⟨h.1, ?_⟩
  rcases h.2 with hn | ⟨g, cap, cur, hv, hb, hgg, rest⟩
  · exact .inl hn
  · exact .inr ⟨g, cap, cur, hv, hb, (hg.block g (Array.getElem?_eq_some_iff.1 hgg).1 (fun e => hr g (by rw [hv]; rfl) e.symm)).trans hgg, rest⟩
theorem AttOwn.keep {w w' : World} {base : Nat} {v : Value} {ps : List (Idn.Att × Value)} (h : AttOwn w base v ps) (hb : Below w.heap.size w w') : AttOwn w' base v ps :=
  ⟨own_below h.1 hb, fun p hp => own_below (h.2.1 p hp) hb, h.2.2⟩
theorem AttOwn.nil (w : World) (base : Nat) : AttOwn w base (.slice none 0 0) [] := ⟨World.ownsRow_nil _ _ _ _, by simp, List.Pairwise.nil⟩
theorem AttOwn.names {w : World} {base : Nat} {v : Value} {ps : List (Idn.Att × Value)} (h : AttOwn w base v ps) : NamesV w w.heap.size v (ps.map fun p => (p.1.name, p.1.vals.length)) := by
  have h0 := h.1
  rw [show ps.length = (ps.map fun p => (p.1.name, p.1.vals.length)).length by simp] at h0
  refine SlV.own h0 fun i x hx => ?_
  rw [List.getElem?_map] at hx
  obtain ⟨p, hp, rfl⟩ := Option.map_eq_some_iff.1 hx
  obtain ⟨e1, e2⟩ := rowA_at ps i p hp
  obtain ⟨A, c, hu⟩ := own_shape (h.2.1 p (List.mem_of_getElem? hp))
  refine ⟨[sv p.1.name, p.2], rfl, ⟨A, c, by rw [hu]⟩, fun j u hj => ?_⟩
  match j, hj with
  | 0, hj => simp at hj; subst hj; exact e1
  | 1, hj => simp at hj; subst hj; exact e2
/-- 'out = append(out, Attr{Name: n})' -/
theorem AttOwn.push {w w' : World} {base : Nat} {v v' : Value} {ps : List (Idn.Att × Value)} {n : Bs} (h : AttOwn w base v ps) (hown : w'.ownsRow base 51 2 v' (ps.length + 1) (rowA ps ++ [sv n, .slice none 0 0])) (hg : w.grownBy w' v.ownBlock) : AttOwn w' base v' (ps ++ [(⟨n, []⟩, .slice none 0 0)]) := by
  refine ⟨?_, ?_, ?_⟩
  · rw [List.length_append, rowA, List.flatMap_append]; exact hown
  · intro p hp
    rcases List.mem_append.1 hp with hp | hp
    · exact own_kept (h.2.1 p hp) hg fun g h1 h2 => own_apart h.1 (h.2.1 p hp) (by decide) g h2 h1
    · simp at hp; subst hp; exact World.ownsRow_nil _ _ _ _
  · rw [List.pairwise_append]
    refine ⟨h.2.2, by simp, fun p _ q hq g _ => ?_⟩
    simp at hq; subst hq; simp [Value.ownBlock]
theorem Apart.symm {p q : Idn.Att × Value} (h : Apart p q) : Apart q p := fun g h1 h2 => h g h2 h1
theorem AttOwn.apart {ps : List (Idn.Att × Value)} (h : ps.Pairwise Apart) {i j : Nat} (hi : i < ps.length) (hj : j < ps.length) (hne : i ≠ j) : Apart ps[i] ps[j] := by
  rw [List.pairwise_iff_getElem] at h
  rcases Nat.lt_or_ge i j with hl | hl
  · exact h i j hi hj hl
  · exact Apart.symm (h j i hj hi (by omega))
/-- 'out[i].Values = append(out[i].Values, vals...)' -/
theorem AttOwn.put {w w' : World} {base : Nat} {g n cap : Nat} {ps : List (Idn.Att × Value)} {i : Nat} {p : Idn.Att × Value} {u' : Value} {vals : List Bs} (h : AttOwn w base (.slice (some ⟨g, 0, none⟩) n cap) ps) (hi : ps[i]? = some p)
    (hown : w'.ownsRow base 9 1 u' vals.length (vals.map sv)) (hg : w.grownBy w' p.2.ownBlock) (hat : u'.ownBlock = p.2.ownBlock ∨ u'.ownBlock = some w.heap.size) :
    w'.cell? ⟨g, i * 2 + 1, none⟩ = some p.2 ∧ w'.frozen? ⟨g, i * 2 + 1, none⟩ = false ∧ AttOwn (w'.setCell ⟨g, i * 2 + 1, none⟩ u') base (.slice (some ⟨g, 0, none⟩) n cap) (ps.set i (⟨p.1.name, vals⟩, u')) := by
  have hil := (List.getElem?_eq_some_iff.1 hi).1
  have hpm := List.mem_of_getElem? hi
  have hnn : n = ps.length := by
    rcases h.1.2 with ⟨hn, _⟩ | ⟨g', cap', cur, hv, _⟩
    · cases hn
    · injection hv
  subst hnn
  have h1 := own_kept h.1 hg fun k hk hk' => own_apart h.1 (h.2.1 p hpm) (by decide) k hk hk'
  have e : ∀ j, ((⟨g, 0, none⟩ : Addr).add j) = ⟨g, j, none⟩ := fun j => by unfold Addr.add; split <;> simp_all
  have hc := fun j u hj => (e j) ▸ h1.cells (g := g) rfl j u hj
  have hblk : ∀ k, (Value.slice (some ⟨g, 0, none⟩) ps.length cap).ownBlock = some k → k = g := fun k hk => by simp [Value.ownBlock] at hk; exact hk.symm
  have hsep : ∀ q ∈ ps, q.2.ownBlock ≠ some g := fun q hq hx => own_apart h.1 (h.2.1 q hq) (by decide) g rfl hx
  have hu'g : u'.ownBlock ≠ some g := fun hx => own_apart h1 hown (by decide) g rfl hx
  refine ⟨hc _ _ (rowA_at ps i p hi).2, ?_, ?_, ?_, ?_⟩
  · rcases h1.2 with ⟨hn, _⟩ | ⟨g', cap', cur, hv, _, hgg, _⟩
    · cases hn
    · injection hv with hv1
      injection hv1 with hv1
      injection hv1 with hv1
      subst hv1
      exact Lib.frozen_of_heap hgg _
  · rw [List.length_set, rowA_set ps i p ⟨p.1.name, vals⟩ u' hi rfl]
    exact own_set h1 (i * 2 + 1) (by omega) u'
  · intro q hq
    obtain ⟨j, hj, rfl⟩ := List.getElem_of_mem hq
    rw [List.length_set] at hj
    rw [List.getElem_set]
    by_cases hij : i = j
    · rw [if_pos hij]
      exact ownsRow_setCell_other hown (a := ⟨g, i * 2 + 1, none⟩) hu'g u'
    · rw [if_neg hij]
      have hq' := List.getElem_mem hj
      refine ownsRow_setCell_other (own_kept (h.2.1 _ hq') hg fun k hk hk' => ?_) (a := ⟨g, i * 2 + 1, none⟩) (hsep _ hq') u'
      have := AttOwn.apart h.2.2 hil hj hij
      rw [(List.getElem?_eq_some_iff.1 hi).2] at this
      exact this k hk' hk
  · rw [List.pairwise_iff_getElem]
    intro a b ha hb hab
    rw [List.length_set] at ha hb
    have key : ∀ j (hj : j < ps.length), i ≠ j → Apart (⟨p.1.name, vals⟩, u') ps[j] := fun j hj hij k hk => by
      rcases hat with hat | hat
      · have := AttOwn.apart h.2.2 hil hj hij
        rw [(List.getElem?_eq_some_iff.1 hi).2] at this
        exact this k (by rw [← hat]; exact hk)
      · have hk' : w.heap.size = k := by have := hat.symm.trans hk; injection this
        intro hx
        have := own_lt (h.2.1 _ (List.getElem_mem hj)) hx
        omega
    rw [List.getElem_set, List.getElem_set]
    by_cases ia : i = a
    · rw [if_pos ia, if_neg (by omega)]
      exact key b hb (by omega)
    · rw [if_neg ia]
      by_cases ib : i = b
      · rw [if_pos ib]
        exact Apart.symm (key a ha (by omega))
      · rw [if_neg ib]
        exact AttOwn.apart h.2.2 ha hb (by omega)
theorem AttOwn.grow {w w' : World} {base : Nat} {g n cap : Nat} {ps : List (Idn.Att × Value)} {i : Nat} {p : Idn.Att × Value} {u' : Value} {vals : List Bs} (h : AttOwn w base (.slice (some ⟨g, 0, none⟩) n cap) ps) (hi : ps[i]? = some p)
    (hown : w'.ownsRow base 9 1 u' (p.1.vals.length + vals.length) (p.1.vals.map sv ++ vals.map sv)) (hg : w.grownBy w' p.2.ownBlock) (hat : u'.ownBlock = p.2.ownBlock ∨ u'.ownBlock = some w.heap.size) :
    w'.cell? ⟨g, i * 2 + 1, none⟩ = some p.2 ∧ w'.frozen? ⟨g, i * 2 + 1, none⟩ = false ∧ AttOwn (w'.setCell ⟨g, i * 2 + 1, none⟩ u') base (.slice (some ⟨g, 0, none⟩) n cap) (ps.set i (⟨p.1.name, p.1.vals ++ vals⟩, u')) :=
  h.put hi (by rw [List.length_append, List.map_append]; exact hown) hg hat
/-- the values of one attribute turned where they lie -/
theorem AttOwn.turn {w w' : World} {base : Nat} {v : Value} {ps : List (Idn.Att × Value)} {i : Nat} {p : Idn.Att × Value} {vals : List Bs} (h : AttOwn w base v ps) (hi : ps[i]? = some p)
    (hown : w'.ownsRow base 9 1 p.2 vals.length (vals.map sv)) (hg : w.grownBy w' p.2.ownBlock) : AttOwn w' base v (ps.set i (⟨p.1.name, vals⟩, p.2)) := by
  have hil := (List.getElem?_eq_some_iff.1 hi).1
  have hpe := (List.getElem?_eq_some_iff.1 hi).2
  have hpm := List.mem_of_getElem? hi
  refine ⟨?_, ?_, ?_⟩
  · rw [List.length_set, rowA_set ps i p ⟨p.1.name, vals⟩ p.2 hi rfl]
    have e : (rowA ps).set (i * 2 + 1) p.2 = rowA ps := by
      obtain ⟨hl, he⟩ := List.getElem?_eq_some_iff.1 (rowA_at ps i p hi).2
      rw [← he]; exact List.set_getElem_self hl
    rw [e]
    exact own_kept h.1 hg fun k hk hk' => own_apart h.1 (h.2.1 p hpm) (by decide) k hk hk'
  · intro q hq
    obtain ⟨j, hj, rfl⟩ := List.getElem_of_mem hq
    rw [List.length_set] at hj
    rw [List.getElem_set]
    by_cases hij : i = j
    · rw [if_pos hij]; exact hown
    · rw [if_neg hij]
      refine own_kept (h.2.1 _ (List.getElem_mem hj)) hg fun k hk hk' => ?_
      have := AttOwn.apart h.2.2 hil hj hij
      rw [hpe] at this
      exact this k hk' hk
  · rw [List.pairwise_iff_getElem]
    intro a b ha hb hab
    rw [List.length_set] at ha hb
    have key : ∀ j (hj : j < ps.length), i ≠ j → Apart (⟨p.1.name, vals⟩, p.2) ps[j] := fun j hj hij k hk => by
      have := AttOwn.apart h.2.2 hil hj hij
      rw [hpe] at this
      exact this k hk
    rw [List.getElem_set, List.getElem_set]
    by_cases ia : i = a
    · rw [if_pos ia, if_neg (by omega)]
      exact key b hb (by omega)
    · rw [if_neg ia]
      by_cases ib : i = b
      · rw [if_pos ib]
        exact Apart.symm (key a ha (by omega))
      · rw [if_neg ib]
        exact AttOwn.apart h.2.2 ha hb (by omega)
theorem AttOwn.cell {w : World} {base : Nat} {g n cap : Nat} {ps : List (Idn.Att × Value)} {i : Nat} {p : Idn.Att × Value} (h : AttOwn w base (.slice (some ⟨g, 0, none⟩) n cap) ps) (hi : ps[i]? = some p) :
    w.cell? ⟨g, i * 2, none⟩ = some (sv p.1.name) ∧ w.cell? ⟨g, i * 2 + 1, none⟩ = some p.2 ∧ (∀ j, w.frozen? ⟨g, j, none⟩ = false) ∧ base ≤ g := by
  have e : ∀ j, ((⟨g, 0, none⟩ : Addr).add j) = ⟨g, j, none⟩ := fun j => by unfold Addr.add; split <;> simp_all
  have hc := fun j u hj => (e j) ▸ h.1.cells (g := g) rfl j u hj
  refine ⟨hc _ _ (rowA_at ps i p hi).1, hc _ _ (rowA_at ps i p hi).2, fun j => ?_, (h.1.lt g rfl).1⟩
  rcases h.1.2 with ⟨hn, _⟩ | ⟨g', cap', cur, hv, _, hgg, _⟩
  · cases hn
  · injection hv with hv1
    injection hv1 with hv1
    injection hv1 with hv1
    subst hv1
    exact Lib.frozen_of_heap hgg _
end Go.Proofs.YtoelhiccofpgfaaGreatDoor
