/- Part 13 of the proof that Parse of the text form of a schema is the schema, and Text of what Parse returns is the string: the package variables hold what the program lays; nothing else is asked. -/
import Derived.Test.YtnikolglippfmaaGreatDoorRtn01
import Derived.Lib.SlicesCompact
/- Plain law: compact after sort is insertion one by one. -/
namespace Idn
open Go
def insS (n : Bs) : List Bs → List Bs
  | [] => [n]
  | x :: l => if x < n then x :: insS n l else if x = n then x :: l else n :: x :: l
theorem ins_mem (n x : Bs) : ∀ l, x ∈ insS n l ↔ x = n ∨ x ∈ l
  | [] => by simp [insS]
  | y :: l => by
    have ih := ins_mem n x l
    unfold insS
    split
    · simp only [List.mem_cons, ih]
      constructor
      · rintro (h | h | h)
        · exact .inr (.inl h)
        · exact .inl h
        · exact .inr (.inr h)
      · rintro (h | h | h)
        · exact .inr (.inl h)
        · exact .inl h
        · exact .inr (.inr h)
    · split
      · rename_i h1 h2
        subst h2
        simp only [List.mem_cons]
        constructor
        · exact .inr
        · rintro (h | h)
          · exact .inl h
          · exact h
      · simp [List.mem_cons]
theorem lt_of (a b : Bs) (h : ¬ a < b) (h2 : a ≠ b) : b < a := by
  rw [List.not_lt] at h
  refine Decidable.byContradiction fun hn => ?_
  rw [List.not_lt] at hn
  exact h2 (List.le_antisymm hn h)
theorem ins_lt (n : Bs) : ∀ l : List Bs, l.Pairwise (· < ·) → (insS n l).Pairwise (· < ·)
  | [], _ => by simp [insS]
  | y :: l, h => by
    obtain ⟨h1, h2⟩ := List.pairwise_cons.1 h
    unfold insS
    split
    · rename_i hy
      refine List.pairwise_cons.2 ⟨fun x hx => ?_, ins_lt n l h2⟩
      rcases (ins_mem n x l).1 hx with rfl | hx
      · exact hy
      · exact h1 x hx
    · split
      · exact h
      · rename_i hy hne
        have hny := lt_of _ _ hy hne
        refine List.pairwise_cons.2 ⟨fun x hx => ?_, h⟩
        rcases List.mem_cons.1 hx with rfl | hx
        · exact hny
        · exact List.lt_trans hny (h1 x hx)
theorem uniq : ∀ (l m : List Bs), l.Pairwise (· < ·) → m.Pairwise (· < ·) → (∀ x, x ∈ l ↔ x ∈ m) → l = m
  | [], [], _, _, _ => rfl
  | [], y :: m, _, _, h => by have := (h y).2 List.mem_cons_self; simp at this
  | y :: l, [], _, _, h => by have := (h y).1 List.mem_cons_self; simp at this
  | x :: l, y :: m, hl, hm, h => by
    obtain ⟨l1, l2⟩ := List.pairwise_cons.1 hl
    obtain ⟨m1, m2⟩ := List.pairwise_cons.1 hm
    have e : x = y := by
      rcases List.mem_cons.1 ((h x).1 List.mem_cons_self) with e | hx
      · exact e
      · rcases List.mem_cons.1 ((h y).2 List.mem_cons_self) with e | hy
        · exact e.symm
        · exact absurd (List.lt_trans (m1 x hx) (l1 y hy)) (List.lt_irrefl _)
    subst e
    congr 1
    refine uniq l m l2 m2 fun z => ?_
    constructor
    · intro hz
      rcases List.mem_cons.1 ((h z).1 (List.mem_cons_of_mem _ hz)) with rfl | hz'
      · exact absurd (l1 z hz) (List.lt_irrefl _)
      · exact hz'
    · intro hz
      rcases List.mem_cons.1 ((h z).2 (List.mem_cons_of_mem _ hz)) with rfl | hz'
      · exact absurd (m1 z hz) (List.lt_irrefl _)
      · exact hz'
def insAll (l : List Bs) : List Bs := l.foldl (fun acc n => insS n acc) []
theorem insAll_aux : ∀ (l acc : List Bs), acc.Pairwise (· < ·) → (l.foldl (fun acc n => insS n acc) acc).Pairwise (· < ·) ∧ ∀ x, x ∈ l.foldl (fun acc n => insS n acc) acc ↔ x ∈ l ∨ x ∈ acc
  | [], acc, h => ⟨h, fun x => by simp⟩
  | n :: l, acc, h => by
    obtain ⟨h1, h2⟩ := insAll_aux l (insS n acc) (ins_lt n acc h)
    refine ⟨h1, fun x => ?_⟩
    rw [List.foldl_cons, h2, ins_mem, List.mem_cons]
    constructor
    · rintro (h | h | h)
      · exact .inl (.inr h)
      · exact .inl (.inl h)
      · exact .inr h
    · rintro ((h | h) | h)
      · exact .inr (.inl h)
      · exact .inl h
      · exact .inr (.inr h)
theorem compact_mem' {x : Bs} {l : List Bs} (h : x ∈ Lib.compact l) : x ∈ l := by
  unfold Lib.compact Lib.compactUpTo at h
  obtain ⟨i, hi, rfl⟩ := List.mem_map.1 h
  have hil := (List.mem_filter.1 hi).1
  rw [List.mem_range] at hil
  simp [hil]
theorem mem_compact' {x : Bs} {l : List Bs} (h : x ∈ l) : x ∈ Lib.compact l := by
  obtain ⟨i, hi, rfl⟩ := List.getElem_of_mem h
  induction i with
  | zero =>
    unfold Lib.compact Lib.compactUpTo
    refine List.mem_map.2 ⟨0, List.mem_filter.2 ⟨List.mem_range.2 (by simpa using hi), Lib.keeps_lt_one _ 0 (by omega)⟩, by simp [hi]⟩
  | succ i ih =>
    by_cases e : l[i + 1] = l[i]
    · rw [e]; exact ih (by omega) (List.getElem_mem _)
    · unfold Lib.compact Lib.compactUpTo
      refine List.mem_map.2 ⟨i + 1, List.mem_filter.2 ⟨List.mem_range.2 (by simpa using hi), Lib.keeps_pos ?_⟩, by simp [hi]⟩
      have h1 : i < l.length := by omega
      simp [hi, h1, e]
theorem compact_lt {l : List Bs} (h : l.Pairwise (· ≤ ·)) : (Lib.compact l).Pairwise (· < ·) := by
  unfold Lib.compact Lib.compactUpTo
  rw [List.pairwise_map]
  refine List.Pairwise.imp_of_mem ?_ (List.Pairwise.filter _ List.pairwise_lt_range)
  intro a b ha hb hab
  obtain ⟨ha1, _⟩ := List.mem_filter.1 ha
  obtain ⟨hb1, hb2⟩ := List.mem_filter.1 hb
  rw [List.mem_range] at ha1 hb1
  replace ha1 : a < l.length := by simpa using ha1
  replace hb1 : b < l.length := by simpa using hb1
  have hp := List.pairwise_iff_getElem.1 h
  have hne : l[b] ≠ l[b - 1] := fun e => by
    have := Lib.keeps_neg (d := l.toArray) (m := b) (by omega) (by
      have h1 : b - 1 < l.length := by omega
      simp [hb1, h1, e])
    rw [this] at hb2; cases hb2
  have h1 : l[a] ≤ l[b - 1] := by
    by_cases e : a = b - 1
    · subst e; exact List.le_refl _
    · exact hp a (b - 1) ha1 (by omega) (by omega)
  have h2 : l[b - 1] < l[b] := by
    have := hp (b - 1) b (by omega) hb1 (by omega)
    exact lt_of _ _ (by rw [List.not_lt]; exact this) hne
  have h3 : l[a] < l[b] := by
    refine Decidable.byContradiction fun hn => ?_
    rw [List.not_lt] at hn
    have := List.le_trans hn h1
    exact absurd h2 (by rw [List.not_lt]; exact this)
  simpa [ha1, hb1] using h3
theorem law (l : List Bs) : Lib.compact (l.mergeSort fun x y => decide (x ≤ y)) = insAll l := by
  have hs : (l.mergeSort fun x y => decide (x ≤ y)).Pairwise (· ≤ ·) := by
    have := List.pairwise_mergeSort (le := fun x y : Bs => decide (x ≤ y)) (fun a b c h1 h2 => by simp at *; exact List.le_trans h1 h2) (fun a b => by simp; exact List.le_total a b) l
    exact this.imp fun h => by simpa using h
  obtain ⟨h1, h2⟩ := insAll_aux l [] List.Pairwise.nil
  refine uniq _ _ (compact_lt hs) h1 fun x => ?_
  unfold insAll
  rw [h2]
  constructor
  · intro h
    exact .inl ((List.mergeSort_perm _ _).mem_iff.1 (compact_mem' h))
  · rintro (h | h)
    · exact mem_compact' ((List.mergeSort_perm _ _).mem_iff.2 h)
    · simp at h
theorem insS_here (n : Bs) : ∀ (l : List Bs) (j : Nat), (∀ (i : Nat) (x : Bs), i < j → l[i]? = some x → x < n) → l[j]? = some n → insS n l = l
  | [], j, _, h => by simp at h
  | y :: l, 0, _, h => by
    simp at h
    subst h
    unfold insS
    rw [if_neg (List.lt_irrefl _), if_pos rfl]
  | y :: l, j + 1, h1, h => by
    have hy := h1 0 y (by omega) rfl
    unfold insS
    rw [if_pos hy, insS_here n l j (fun i x hi hx => h1 (i + 1) x (by omega) (by simpa using hx)) (by simpa using h)]
theorem insS_at (n : Bs) : ∀ (l : List Bs) (j : Nat), j ≤ l.length → (∀ (i : Nat) (x : Bs), i < j → l[i]? = some x → x < n) → (∀ x, l[j]? = some x → ¬ x < n ∧ x ≠ n) → insS n l = l.take j ++ n :: l.drop j
  | [], 0, _, _, _ => rfl
  | [], j + 1, h, _, _ => by simp at h
  | y :: l, 0, _, _, h => by
    obtain ⟨a, b⟩ := h y rfl
    unfold insS
    rw [if_neg a, if_neg b]; rfl
  | y :: l, j + 1, hl, h1, h => by
    have hy := h1 0 y (by omega) rfl
    unfold insS
    rw [if_pos hy, insS_at n l j (by simp at hl; omega) (fun i x hi hx => h1 (i + 1) x (by omega) (by simpa using hx)) (fun x hx => h x (by simpa using hx))]
    rfl
end Idn
