/- Part 25 of the proof that Parse of the text form of a schema is the schema, and Text of what Parse returns is the string: the package variables hold what the program lays; nothing else is asked. -/
import Derived.Test.YtnikolglippfmaaGreatDoorRtn01
import Derived.Lib.SlicesCompact
/- Plain functions: the normal form of attributes. -/
namespace Idn
def addA (ps : List Att) (n : Bs) (vs : List Bs) : List Att :=
  match ps.findIdx? (fun a => decide (a.name = n)) with
  | none => ps ++ [⟨n, vs⟩]
  | some j => match ps[j]? with
    | none => ps
    | some a => ps.set j ⟨a.name, a.vals ++ vs⟩
/-- attributes by their names in lower case, in the order of their first places -/
def grp : List Att → List Att → List Att
  | acc, [] => acc
  | acc, a :: l => grp (addA acc (lower a.name) a.vals) l
theorem grp_step (l : List Att) (k : Nat) (hk : k < l.length) (acc : List Att) : grp acc (l.drop k) = grp (addA acc (lower l[k].name) l[k].vals) (l.drop (k + 1)) := by
  rw [List.drop_eq_getElem_cons hk, grp]
theorem addA_none {ps : List Att} {n : Bs} (vs : List Bs) (h : ps.findIdx? (fun a => decide (a.name = n)) = none) : addA ps n vs = ps ++ [⟨n, vs⟩] := by unfold addA; rw [h]
theorem addA_some {ps : List Att} {n : Bs} (vs : List Bs) {j : Nat} (h : ps.findIdx? (fun a => decide (a.name = n)) = some j) (hj : j < ps.length) : addA ps n vs = ps.set j ⟨ps[j].name, ps[j].vals ++ vs⟩ := by
  unfold addA; rw [h]
  simp [hj]
/-- small attributes -/
def ASm7 (l : List Att) : Prop := l.length ≤ 1000 ∧ ∀ a ∈ l, a.name.length ≤ 1000000000 ∧ a.vals.length ≤ 1000000 ∧ ∀ x ∈ a.vals, x.length ≤ 1000000000
def srt (l : List Bs) : List Bs := l.mergeSort fun x y => decide (x ≤ y)
def normA (a : Att) : Att := ⟨a.name, Go.Lib.compact (srt a.vals)⟩
/-- the normal form of attributes -/
def aSorted (l : List Att) : List Att := ((grp [] l).map normA).mergeSort fun a b => decide (a.name ≤ b.name)
theorem addA_ne {ps : List Att} {n : Bs} {vs : List Bs} (h : ∀ a ∈ ps, a.vals.length ≠ 0) (hv : vs.length ≠ 0) : ∀ a ∈ addA ps n vs, a.vals.length ≠ 0 := by
  unfold addA
  split
  · intro a ha
    rcases List.mem_append.1 ha with ha | ha
    · exact h a ha
    · simp at ha; subst ha; exact hv
  · split
    · exact h
    · rename_i j b hb
      intro a ha
      rcases List.mem_or_eq_of_mem_set ha with ha | rfl
      · exact h a ha
      · simp; intro h1 h2; exact hv (by simp [h2])
theorem grp_ne : ∀ (l acc : List Att), (∀ a ∈ acc, a.vals.length ≠ 0) → (∀ a ∈ l, a.vals.length ≠ 0) → ∀ a ∈ grp acc l, a.vals.length ≠ 0
  | [], acc, h, _ => h
  | b :: l, acc, h, hl => grp_ne l (addA acc (lower b.name) b.vals) (addA_ne h (hl b List.mem_cons_self)) fun a ha => hl a (List.mem_cons_of_mem _ ha)
theorem grp_ne' {α : Type} {ps : List (Att × α)} {l : List Att} (h : ps.map (·.1) = grp [] l) (hl : ∀ a ∈ l, a.vals.length ≠ 0) : ∀ p ∈ ps, p.1.vals.length ≠ 0 := by
  intro p hp
  exact grp_ne l [] (by simp) hl p.1 (h ▸ List.mem_map.2 ⟨p, hp, rfl⟩)
theorem addA_nd {ps : List Att} {n : Bs} (vs : List Bs) (h : (ps.map (·.name)).Nodup) : ((addA ps n vs).map (·.name)).Nodup := by
  unfold addA
  split
  · rename_i hn
    rw [List.map_append, List.nodup_append]
    refine ⟨h, by simp, fun a ha b hb e => ?_⟩
    simp at hb; subst hb
    obtain ⟨x, hx, rfl⟩ := List.mem_map.1 ha
    have := List.findIdx?_eq_none_iff.1 hn x hx
    simp at this
    exact this e
  · split
    · exact h
    · rename_i j _ _ b hb
      rw [List.map_set]
      obtain ⟨hl, he⟩ := List.getElem?_eq_some_iff.1 hb
      have e : (ps.map (·.name)).set j b.name = ps.map (·.name) := by
        have hl' : j < (ps.map (·.name)).length := by simpa using hl
        have : (ps.map (·.name)).set j (ps.map (·.name))[j] = ps.map (·.name) := List.set_getElem_self hl'
        simpa [he] using this
      dsimp only
      rw [e]; exact h
theorem grp_nd : ∀ (l acc : List Att), (acc.map (·.name)).Nodup → ((grp acc l).map (·.name)).Nodup
  | [], _, h => h
  | b :: l, acc, h => grp_nd l (addA acc (lower b.name) b.vals) (addA_nd _ h)
theorem norm_names (l : List Att) : (l.map normA).map (·.name) = l.map (·.name) := by rw [List.map_map]; rfl
/-- how many values, and of which size, a group has -/
theorem addA_le {ps : List Att} {n : Bs} {vs : List Bs} {m k : Nat} (h : ∀ a ∈ ps, a.vals.length ≤ m) (hv : vs.length ≤ k) : ∀ a ∈ addA ps n vs, a.vals.length ≤ m + k := by
  unfold addA
  split
  · intro a ha
    rcases List.mem_append.1 ha with ha | ha
    · have := h a ha; omega
    · simp at ha; subst ha; dsimp only; omega
  · split
    · intro a ha; have := h a ha; omega
    · rename_i j b hb
      intro a ha
      rcases List.mem_or_eq_of_mem_set ha with ha | rfl
      · have := h a ha; omega
      · have := h b (List.mem_of_getElem? hb)
        simp only [List.length_append]; omega
theorem grp_le (k : Nat) : ∀ (l acc : List Att) (m : Nat), (∀ a ∈ acc, a.vals.length ≤ m) → (∀ a ∈ l, a.vals.length ≤ k) → ∀ a ∈ grp acc l, a.vals.length ≤ m + l.length * k
  | [], acc, m, h, _ => by simpa [grp] using h
  | b :: l, acc, m, h, hl => by
    have := grp_le k l (addA acc (lower b.name) b.vals) (m + k) (addA_le h (hl b List.mem_cons_self)) fun a ha => hl a (List.mem_cons_of_mem _ ha)
    intro a ha
    have := this a ha
    rw [List.length_cons, Nat.succ_mul]; omega
theorem addA_all {p : Bs → Prop} {ps : List Att} {n : Bs} {vs : List Bs} (h : ∀ a ∈ ps, ∀ x ∈ a.vals, p x) (hv : ∀ x ∈ vs, p x) : ∀ a ∈ addA ps n vs, ∀ x ∈ a.vals, p x := by
  unfold addA
  split
  · intro a ha
    rcases List.mem_append.1 ha with ha | ha
    · exact h a ha
    · simp at ha; subst ha; exact hv
  · split
    · exact h
    · rename_i j b hb
      intro a ha
      rcases List.mem_or_eq_of_mem_set ha with ha | rfl
      · exact h a ha
      · intro x hx
        rcases List.mem_append.1 hx with hx | hx
        · exact h b (List.mem_of_getElem? hb) x hx
        · exact hv x hx
theorem grp_all {p : Bs → Prop} : ∀ (l acc : List Att), (∀ a ∈ acc, ∀ x ∈ a.vals, p x) → (∀ a ∈ l, ∀ x ∈ a.vals, p x) → ∀ a ∈ grp acc l, ∀ x ∈ a.vals, p x
  | [], _, h, _ => h
  | b :: l, acc, h, hl => grp_all l (addA acc (lower b.name) b.vals) (addA_all h (hl b List.mem_cons_self)) fun a ha => hl a (List.mem_cons_of_mem _ ha)
theorem srt_mem {l : List Bs} {x : Bs} (h : x ∈ srt l) : x ∈ l := (List.mergeSort_perm _ _).mem_iff.1 h
theorem aSorted_from {l : List Att} {a : Att} (h : a ∈ aSorted l) : ∃ b ∈ grp [] l, a = normA b := by
  obtain ⟨b, hb, rfl⟩ := List.mem_map.1 ((List.mergeSort_perm _ _).mem_iff.1 h)
  exact ⟨b, hb, rfl⟩
end Idn
