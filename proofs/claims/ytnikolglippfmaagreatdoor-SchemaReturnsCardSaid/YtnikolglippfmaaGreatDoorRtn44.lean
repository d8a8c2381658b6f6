/- Part 44 of the proof that Parse of the text form of a schema is the schema, and Text of what Parse returns is the string: the package variables hold what the program lays; nothing else is asked. -/
import Derived.Test.YtnikolglippfmaaGreatDoorRtn10
import Derived.Test.YtnikolglippfmaaGreatDoorRtn11
import Derived.Test.YtnikolglippfmaaGreatDoorRtn38
import Derived.Test.YtnikolglippfmaaGreatDoorRtn39
import Derived.Test.YtnikolglippfmaaGreatDoorRtn42
import Derived.Test.YtnikolglippfmaaGreatDoorRtn43
/- law07: SchemaChecks, walked. -/
namespace Go.Proofs.YtnikolglippfmaaGreatDoor
open Go.RowKit Go.Sort
open Idn (L B Bs drop_L take_L size_L)
/-- lengths that a slice or a string can have -/
def SLen (s : Idn.Sch) : Prop := s.types.length ≤ 9223372036854775807 ∧ s.classes.length ≤ 9223372036854775807 ∧ ∀ c ∈ s.classes, c.must.length ≤ 9223372036854775807 ∧ c.may.length ≤ 9223372036854775807
theorem short_sm {l : List Bs} (h : short l = true) : Sm l := by
  unfold short at h
  simp only [Bool.and_eq_true, List.all_eq_true, decide_eq_true_eq] at h
  exact ⟨by omega, fun x hx => by have := h.1 x hx; omega⟩
theorem few_ssm {s : Idn.Sch} (h : few s = true) : SSm s := by
  unfold few at h
  simp only [Bool.and_eq_true, List.all_eq_true, decide_eq_true_eq] at h
  obtain ⟨h1, h2, h3, h4⟩ := h
  refine ⟨⟨by omega, fun t ht => by have := h1 t ht; omega⟩, ⟨by omega, fun c hc => ?_⟩⟩
  have h5 := h2 c hc
  unfold fewC at h5
  simp only [Bool.and_eq_true, decide_eq_true_eq] at h5
  exact ⟨by omega, by omega, short_sm h5.2.2.1, short_sm h5.2.2.2⟩
end Go.Proofs.YtnikolglippfmaaGreatDoor
/- Plain law: the lines of a schema, written and read. -/
namespace Go.Proofs.YtnikolglippfmaaGreatDoor
open Idn (L B Bs okT okC)
def wType : Bs := [116, 121, 112, 101]
def wClass : Bs := [99, 108, 97, 115, 115]
def wSingle : Bs := [115, 105, 110, 103, 108, 101]
def tyWords (t : Idn.AT) : List Bs := if t.single then [wType, t.name, Idn.word t.syn, wSingle] else [wType, t.name, Idn.word t.syn]
theorem tyLine_words (t : Idn.AT) : Idn.tyLine t = Idn.joinL [32] (tyWords t) := by
  unfold Idn.tyLine tyWords
  cases t.single <;> simp [Idn.joinL, Idn.joinR, wType, wSingle]
theorem word_bytes (x : Int) : 32 ∉ Idn.word x ∧ 10 ∉ Idn.word x := by
  unfold Idn.word
  repeat' split
  all_goals decide
theorem wordIx_word {x : Int} (h1 : 1 ≤ x) (h5 : x ≤ 5) : wordIx (Idn.word x) = some x := by
  have : x = 1 ∨ x = 2 ∨ x = 3 ∨ x = 4 ∨ x = 5 := by omega
  rcases this with rfl | rfl | rfl | rfl | rfl <;> decide
theorem wordIx_is {s : Bs} {x : Int} (h : wordIx s = some x) : s = Idn.word x ∧ 1 ≤ x ∧ x ≤ 5 := by
  unfold wordIx at h
  split at h
  · rename_i e; injection h with h; subst h; exact ⟨e.symm, by omega, by omega⟩
  · split at h
    · rename_i e; injection h with h; subst h; exact ⟨e.symm, by omega, by omega⟩
    · split at h
      · rename_i e; injection h with h; subst h; exact ⟨e.symm, by omega, by omega⟩
      · split at h
        · rename_i e; injection h with h; subst h; exact ⟨e.symm, by omega, by omega⟩
        · split at h
          · rename_i e; injection h with h; subst h; exact ⟨e.symm, by omega, by omega⟩
          · cases h
theorem tyWords_ne (t : Idn.AT) : tyWords t ≠ [] := by unfold tyWords; split <;> simp
theorem tyWords_bytes {t : Idn.AT} (h : okT t) : ∀ w ∈ tyWords t, 32 ∉ w ∧ 10 ∉ w := by
  obtain ⟨b1, b2, _⟩ := Idn.name_bytes h.1
  obtain ⟨b4, b5⟩ := word_bytes t.syn
  intro w hw
  have : w = wType ∨ w = t.name ∨ w = Idn.word t.syn ∨ w = wSingle := by
    unfold tyWords at hw
    split at hw <;> simp at hw
    · exact hw
    · rcases hw with h | h | h
      · exact .inl h
      · exact .inr (.inl h)
      · exact .inr (.inr (.inl h))
  rcases this with rfl | rfl | rfl | rfl
  · decide
  · exact ⟨b2, b1⟩
  · exact ⟨b4, b5⟩
  · decide
theorem rdType_of {t : Idn.AT} (h : okT t) : rdType (tyWords t) = (t, true) := by
  obtain ⟨h1, h2, h3⟩ := h
  obtain ⟨n, x, s⟩ := t
  dsimp only at h1 h2 h3
  have hw := wordIx_word h2 h3
  cases s
  · have e : tyWords ⟨n, x, false⟩ = [wType, n, Idn.word x] := rfl
    rw [e]
    unfold rdType isSingle
    simp [h1, hw]
  · have e : tyWords ⟨n, x, true⟩ = [wType, n, Idn.word x, wSingle] := rfl
    rw [e]
    unfold rdType isSingle
    simp [h1, hw, wSingle]
theorem rdType_is {ws : List Bs} {t : Idn.AT} (h : rdType ws = (t, true)) (h0 : ws.headD [] = wType) : ws = tyWords t ∧ okT t := by
  unfold rdType at h
  split at h
  · simp at h
  · rename_i hc
    split at h
    · simp at h
    · rename_i x hx
      simp only [Prod.mk.injEq, and_true] at h
      obtain ⟨hw, h1, h5⟩ := wordIx_is hx
      simp only [Bool.or_eq_true, Bool.and_eq_true, Bool.not_eq_true', not_or, not_and, decide_eq_true_eq, Bool.not_eq_false] at hc
      obtain ⟨hc1, hc2⟩ := hc
      subst h
      refine ⟨?_, hc2, h1, h5⟩
      cases hs : isSingle ws
      · have h3 : ws.length = 3 := by
          by_cases hl : ws.length = 3
          · exact hl
          · have := hc1 hl; rw [hs] at this; cases this
        match ws, h3 with
        | [a, b, c], _ =>
          have e0 : a = wType := h0
          have e2 : c = Idn.word x := hw
          subst e0 e2
          unfold tyWords
          rfl
      · unfold isSingle at hs
        simp only [Bool.and_eq_true, decide_eq_true_eq] at hs
        obtain ⟨h4, h6⟩ := hs
        match ws, h4 with
        | [a, b, c, d], _ =>
          have e0 : a = wType := h0
          have e2 : c = Idn.word x := hw
          have e3 : d = wSingle := Option.some.inj h6
          subst e0 e2 e3
          unfold tyWords
          rfl
def okN (c : Idn.Cl) : Prop := Idn.name c.name = true ∧ (c.super = [] ∨ Idn.name c.super = true) ∧ (∀ n ∈ c.must, Idn.name n = true) ∧ ∀ n ∈ c.may, Idn.name n = true
theorem okN_of {c : Idn.Cl} (h : okC c) : okN c := ⟨h.1, h.2.1, h.2.2.2.2.1, h.2.2.2.2.2⟩
def clWords (c : Idn.Cl) : List Bs := [wClass, c.name, Idn.orDash c.super, Idn.orDash (Idn.joinL [44] c.must), Idn.orDash (Idn.joinL [44] c.may)]
theorem clLine_words (c : Idn.Cl) : Idn.clLine c = Idn.joinL [32] (clWords c) := rfl
theorem orDash_nil : Idn.orDash [] = [45] := rfl
theorem orDash_ne {s : Bs} (h : s ≠ []) : Idn.orDash s = s := by
  unfold Idn.orDash
  cases s with
  | nil => exact absurd rfl h
  | cons a b => rfl
theorem joinR_bytes (c d : UInt8) (hcd : d ≠ c) : ∀ l : List Bs, (∀ x ∈ l, d ∉ x) → d ∉ Idn.joinR [c] l
  | [], _ => by simp [Idn.joinR]
  | x :: l, h => by
    have ih := joinR_bytes c d hcd l (fun y hy => h y (List.mem_cons_of_mem _ hy))
    have hx := h x (by simp)
    simp [Idn.joinR, hx, ih, hcd]
theorem joinL_bytes (c d : UInt8) (hcd : d ≠ c) (l : List Bs) (h : ∀ x ∈ l, d ∉ x) : d ∉ Idn.joinL [c] l := by
  cases l with
  | nil => simp [Idn.joinL]
  | cons x l =>
    have ih := joinR_bytes c d hcd l (fun y hy => h y (List.mem_cons_of_mem _ hy))
    have hx := h x (by simp)
    simp [Idn.joinL, hx, ih]
theorem orDash_bytes {d : UInt8} (hd : d ≠ 45) {s : Bs} (h : d ∉ s) : d ∉ Idn.orDash s := by
  by_cases hs : s = []
  · subst hs; rw [orDash_nil]; simpa using hd
  · rw [orDash_ne hs]; exact h
theorem clWords_bytes {c : Idn.Cl} (h : okN c) : ∀ w ∈ clWords c, 32 ∉ w ∧ 10 ∉ w := by
  obtain ⟨h1, h2, h3, h4⟩ := h
  obtain ⟨b1, b2, _⟩ := Idn.name_bytes h1
  have hs : 32 ∉ c.super ∧ 10 ∉ c.super := by
    rcases h2 with e | e
    · rw [e]; simp
    · obtain ⟨b1, b2, _⟩ := Idn.name_bytes e; exact ⟨b2, b1⟩
  have hl : ∀ l : List Bs, (∀ n ∈ l, Idn.name n = true) → 32 ∉ Idn.joinL [44] l ∧ 10 ∉ Idn.joinL [44] l := fun l hl =>
    ⟨joinL_bytes 44 32 (by decide) l (fun x hx => (Idn.name_bytes (hl x hx)).2.1), joinL_bytes 44 10 (by decide) l (fun x hx => (Idn.name_bytes (hl x hx)).1)⟩
  intro w hw
  simp only [clWords, List.mem_cons, List.not_mem_nil, or_false] at hw
  rcases hw with rfl | rfl | rfl | rfl | rfl
  · decide
  · exact ⟨b2, b1⟩
  · exact ⟨orDash_bytes (by decide) hs.1, orDash_bytes (by decide) hs.2⟩
  · exact ⟨orDash_bytes (by decide) (hl _ h3).1, orDash_bytes (by decide) (hl _ h3).2⟩
  · exact ⟨orDash_bytes (by decide) (hl _ h4).1, orDash_bytes (by decide) (hl _ h4).2⟩
theorem rdNames_of {l : List Bs} (h : ∀ n ∈ l, Idn.name n = true) : rdNames (Idn.orDash (Idn.joinL [44] l)) = (l, true) := by
  cases l with
  | nil => rfl
  | cons x xs =>
    have hc := Idn.cutC_joinL 44 (x :: xs) (by simp) (fun y hy => (Idn.name_bytes (h y hy)).2.2.1)
    obtain ⟨_, _, _, b1, b2⟩ := Idn.name_bytes (h x (by simp))
    have hne : Idn.joinL [44] (x :: xs) ≠ [] := by
      intro e
      rw [e] at hc
      have : ([[]] : List Bs) = x :: xs := hc
      injection this with e1
      exact b1 e1.symm
    have hn5 : Idn.joinL [44] (x :: xs) ≠ [45] := by
      intro e
      rw [e] at hc
      have : ([[45]] : List Bs) = x :: xs := hc
      injection this with e1
      exact b2 e1.symm
    rw [orDash_ne hne, rdNames, if_neg hn5, hc, List.all_eq_true.2 h]
theorem rdNames_is {s : Bs} {l : List Bs} (h : rdNames s = (l, true)) : s = Idn.orDash (Idn.joinL [44] l) ∧ ∀ n ∈ l, Idn.name n = true := by
  unfold rdNames at h
  split at h
  · rename_i hs
    simp only [Prod.mk.injEq, and_true] at h
    subst h
    exact ⟨hs, by simp⟩
  · simp only [Prod.mk.injEq] at h
    obtain ⟨h1, h2⟩ := h
    subst h1
    rw [List.all_eq_true] at h2
    rw [Idn.joinL_cutC]
    refine ⟨(orDash_ne fun e => ?_).symm, h2⟩
    rw [e] at h2
    have := h2 [] (by simp [Idn.cutC])
    simp [Idn.name, Idn.made] at this
theorem rdClass_of {c : Idn.Cl} (h : okN c) : rdClass (clWords c) = (c, true) := by
  obtain ⟨h1, h2, h3, h4⟩ := h
  obtain ⟨n, su, m, y⟩ := c
  dsimp only at h1 h2 h3 h4
  have e3 := rdNames_of h3
  have e4 := rdNames_of h4
  have hb : badCl (clWords ⟨n, su, m, y⟩) = false := by
    unfold badCl clWords
    rcases h2 with e | e
    · subst e; simp [h1, orDash_nil]
    · obtain ⟨_, _, _, b1, b2⟩ := Idn.name_bytes e
      simp [h1, orDash_ne b1, e]
  unfold rdClass
  rw [hb]
  have w1 : (clWords ⟨n, su, m, y⟩).getD 1 [] = n := rfl
  have w2 : (clWords ⟨n, su, m, y⟩).getD 2 [] = Idn.orDash su := rfl
  have w3 : (clWords ⟨n, su, m, y⟩).getD 3 [] = Idn.orDash (Idn.joinL [44] m) := rfl
  have w4 : (clWords ⟨n, su, m, y⟩).getD 4 [] = Idn.orDash (Idn.joinL [44] y) := rfl
  rw [w1, w2, w3, w4, e3, e4]
  have hsu : (if Idn.orDash su = [45] then [] else Idn.orDash su) = su := by
    rcases h2 with e | e
    · subst e; rfl
    · obtain ⟨_, _, _, b1, b2⟩ := Idn.name_bytes e
      rw [orDash_ne b1, if_neg b2]
  rw [hsu]
  rfl
theorem rdClass_is {ws : List Bs} {c : Idn.Cl} (h : rdClass ws = (c, true)) (h0 : ws.headD [] = wClass) : ws = clWords c ∧ okN c := by
  unfold rdClass at h
  split at h
  · simp at h
  · rename_i hb
    simp only [Bool.not_eq_true] at hb
    unfold badCl at hb
    simp only [Bool.or_eq_false_iff, Bool.and_eq_false_iff, decide_eq_false_iff_not, Bool.not_eq_false', decide_eq_true_eq, ne_eq, Decidable.not_not] at hb
    obtain ⟨h5, hn, hs⟩ := hb
    match ws, h5 with
    | [a, b, d, e, f], _ =>
      have e0 : a = wClass := h0
      simp only [Prod.mk.injEq, Bool.and_eq_true] at h
      obtain ⟨hc, h3, h4⟩ := h
      have h3' : rdNames e = ((rdNames e).1, true) := by rw [← h3]; rfl
      have h4' : rdNames f = ((rdNames f).1, true) := by rw [← h4]; rfl
      obtain ⟨i3, j3⟩ := rdNames_is h3'
      obtain ⟨i4, j4⟩ := rdNames_is h4'
      have hn' : Idn.name b = true := hn
      have hs' : d = [45] ∨ Idn.name d = true := hs
      subst hc e0
      refine ⟨?_, hn', ?_, j3, j4⟩
      · show [wClass, b, d, e, f] = [wClass, b, Idn.orDash (if d = [45] then [] else d), Idn.orDash (Idn.joinL [44] (rdNames e).1), Idn.orDash (Idn.joinL [44] (rdNames f).1)]
        rw [← i3, ← i4]
        have hd : Idn.orDash (if d = [45] then [] else d) = d := by
          split
          · rename_i hd; rw [hd]; rfl
          · rename_i hd
            rcases hs' with e | e
            · exact absurd e hd
            · exact orDash_ne (Idn.name_bytes e).2.2.2.1
        rw [hd]
      · show (if d = [45] then [] else d) = [] ∨ Idn.name (if d = [45] then [] else d) = true
        split
        · exact .inl rfl
        · rename_i hd
          rcases hs' with e | e
          · exact absurd e hd
          · exact .inr e
theorem cut_ty {t : Idn.AT} (h : okT t) : Idn.cutC 32 (Idn.tyLine t) = tyWords t := by
  rw [tyLine_words]; exact Idn.cutC_joinL 32 _ (tyWords_ne t) fun w hw => (tyWords_bytes h w hw).1
theorem cut_cl {c : Idn.Cl} (h : okN c) : Idn.cutC 32 (Idn.clLine c) = clWords c := by
  rw [clLine_words]; exact Idn.cutC_joinL 32 _ (by simp [clWords]) fun w hw => (clWords_bytes h w hw).1
theorem tyLine_10 {t : Idn.AT} (h : okT t) : 10 ∉ Idn.tyLine t := by
  rw [tyLine_words]; exact joinL_bytes 32 10 (by decide) _ fun w hw => (tyWords_bytes h w hw).2
theorem clLine_10 {c : Idn.Cl} (h : okN c) : 10 ∉ Idn.clLine c := by
  rw [clLine_words]; exact joinL_bytes 32 10 (by decide) _ fun w hw => (clWords_bytes h w hw).2
theorem tyWords_head (t : Idn.AT) : (tyWords t).headD [] = wType := by unfold tyWords; split <;> rfl
theorem rdLine_ty (s : Idn.Sch) {t : Idn.AT} (h : okT t) : rdLine s (Idn.tyLine t) = (⟨s.types ++ [t], s.classes⟩, s.classes.isEmpty) := by
  unfold rdLine
  rw [cut_ty h, if_pos (show (tyWords t).headD [] = [116, 121, 112, 101] from tyWords_head t), rdType_of h]
  rfl
theorem rdLine_cl (s : Idn.Sch) {c : Idn.Cl} (h : okN c) : rdLine s (Idn.clLine c) = (⟨s.types, s.classes ++ [c]⟩, true) := by
  unfold rdLine
  rw [cut_cl h, if_neg (by show wClass ≠ wType; decide), if_pos (show (clWords c).headD [] = [99, 108, 97, 115, 115] from rfl), rdClass_of h]
theorem rdLine_is {s s' : Idn.Sch} {line : Bs} (h : rdLine s line = (s', true)) :
    (∃ t, okT t ∧ line = Idn.tyLine t ∧ s.classes = [] ∧ s' = ⟨s.types ++ [t], s.classes⟩) ∨ ∃ c, okN c ∧ line = Idn.clLine c ∧ s' = ⟨s.types, s.classes ++ [c]⟩ := by
  have hj := Idn.joinL_cutC 32 line
  unfold rdLine at h
  split at h
  · rename_i h0
    simp only [Prod.mk.injEq, Bool.and_eq_true] at h
    obtain ⟨h1, h2, h3⟩ := h
    have hr : rdType (Idn.cutC 32 line) = ((rdType (Idn.cutC 32 line)).1, true) := by rw [← h2]
    obtain ⟨i1, i2⟩ := rdType_is hr h0
    refine .inl ⟨_, i2, ?_, by simpa using h3, h1.symm⟩
    rw [tyLine_words, ← i1, hj]
  · split at h
    · rename_i h0
      simp only [Prod.mk.injEq] at h
      obtain ⟨h1, h2⟩ := h
      have hr : rdClass (Idn.cutC 32 line) = ((rdClass (Idn.cutC 32 line)).1, true) := by rw [← h2]
      obtain ⟨i1, i2⟩ := rdClass_is hr h0
      refine .inr ⟨_, i2, ?_, h1.symm⟩
      rw [clLine_words, ← i1, hj]
    · simp at h
end Go.Proofs.YtnikolglippfmaaGreatDoor
/- Plain law: Parse of a schema's text is the schema; the text of what Parse read is what it read. -/
namespace Go.Proofs.YtnikolglippfmaaGreatDoor
open Idn (L B Bs okT okC)
theorem lines_ne {a : Bs} {rest : Bs} : a ++ 10 :: rest ≠ [] := by cases a <;> simp
theorem parse_ty (rest : Bs) : ∀ (l : List Idn.AT) (k : Nat) (a : List Idn.AT) (n : Nat), (∀ t ∈ l, okT t) → parseL (k + l.length) ⟨a, []⟩ n (Idn.tyLines l ++ rest) = parseL k ⟨a ++ l, []⟩ (n + l.length) rest
  | [], k, a, n, _ => by simp [Idn.tyLines]
  | t :: l, k, a, n, h => by
    have ht := h t (by simp)
    have ih := parse_ty rest l k (a ++ [t]) (n + 1) (fun x hx => h x (List.mem_cons_of_mem _ hx))
    have e : Idn.tyLines (t :: l) ++ rest = Idn.tyLine t ++ 10 :: (Idn.tyLines l ++ rest) := by simp [Idn.tyLines]
    rw [e, List.length_cons, ← Nat.add_assoc, parseL, if_neg lines_ne, Idn.cut_hit 10 _ _ (tyLine_10 ht), rdLine_ty _ ht, if_pos (by rfl)]
    dsimp only
    rw [ih, List.append_assoc, Nat.add_right_comm, Nat.add_assoc]
    rfl
theorem parse_cl (rest : Bs) : ∀ (l : List Idn.Cl) (k : Nat) (s : Idn.Sch) (n : Nat), (∀ c ∈ l, okN c) → parseL (k + l.length) s n (Idn.clLines l ++ rest) = parseL k ⟨s.types, s.classes ++ l⟩ (n + l.length) rest
  | [], k, s, n, _ => by simp [Idn.clLines]
  | c :: l, k, s, n, h => by
    have hc := h c (by simp)
    have ih := parse_cl rest l k ⟨s.types, s.classes ++ [c]⟩ (n + 1) (fun x hx => h x (List.mem_cons_of_mem _ hx))
    have e : Idn.clLines (c :: l) ++ rest = Idn.clLine c ++ 10 :: (Idn.clLines l ++ rest) := by simp [Idn.clLines]
    rw [e, List.length_cons, ← Nat.add_assoc, parseL, if_neg lines_ne, Idn.cut_hit 10 _ _ (clLine_10 hc), rdLine_cl _ hc, if_pos (by rfl)]
    dsimp only
    rw [ih]
    dsimp only
    rw [List.append_assoc, Nat.add_right_comm, Nat.add_assoc]
    rfl
theorem parse_end (k : Nat) (s : Idn.Sch) (n : Nat) : parseL k s n [] = fin s := by
  cases k with
  | zero => rfl
  | succ k => rw [parseL, if_pos rfl]
theorem lines_len {α : Type} (f : α → Bs) : ∀ l : List α, l.length ≤ (l.flatMap fun t => f t ++ [10]).length
  | [] => by simp
  | x :: l => by
    have := lines_len f l
    simp only [List.flatMap_cons, List.length_append, List.length_cons, List.length_nil]
    omega
theorem sText_ok {s : Idn.Sch} (h : (Idn.sText s).2 = 0) : Idn.sCheck s = 0 ∧ (Idn.sText s).1 = Idn.tyLines s.types ++ Idn.clLines s.classes ∧ (Idn.tyLines s.types ++ Idn.clLines s.classes).length ≤ 4096 := by
  unfold Idn.sText at *
  by_cases h0 : Idn.sCheck s = 0
  · rw [if_neg (by simp [h0])] at h ⊢
    split at h
    · cases h
    · rename_i h1
      rw [if_neg h1]
      exact ⟨h0, rfl, by simpa using h1⟩
  · rw [if_pos (by simpa using h0)] at h
    exact absurd h h0
theorem sText_of {s : Idn.Sch} (h : Idn.sCheck s = 0) (hl : (Idn.tyLines s.types ++ Idn.clLines s.classes).length ≤ 4096) : Idn.sText s = (Idn.tyLines s.types ++ Idn.clLines s.classes, 0) := by
  unfold Idn.sText
  rw [if_neg (by simp [h]), if_neg (by simpa using hl)]
/-- Parse of the text -/
theorem parse_text {s : Idn.Sch} (h : (Idn.sText s).2 = 0) : sParse (Idn.sText s).1 = (s, 0, 0) := by
  obtain ⟨h0, h1, h2⟩ := sText_ok h
  obtain ⟨o1, o2, _, _⟩ := Idn.sCheck_ok h0
  rw [h1]
  unfold sParse
  rw [if_neg (by omega)]
  have l1 : s.types.length ≤ (Idn.tyLines s.types).length := lines_len Idn.tyLine s.types
  have l2 : s.classes.length ≤ (Idn.clLines s.classes).length := lines_len Idn.clLine s.classes
  rw [List.length_append] at h2 ⊢
  obtain ⟨k, hk⟩ : ∃ k, (Idn.tyLines s.types).length + (Idn.clLines s.classes).length + 1 = (k + s.classes.length) + s.types.length := ⟨(Idn.tyLines s.types).length + (Idn.clLines s.classes).length + 1 - s.classes.length - s.types.length, by omega⟩
  rw [hk, parse_ty _ _ _ _ _ o1]
  have := parse_cl [] s.classes k ⟨[] ++ s.types, []⟩ (1 + s.types.length) (fun c hc => okN_of (o2 c hc))
  rw [List.append_nil] at this
  rw [this, parse_end]
  unfold fin
  simp only [List.nil_append]
  rw [if_pos h0]
theorem parse_is : ∀ (k : Nat) (s s' : Idn.Sch) (n : Nat) (rest : Bs) (m : Int), rest.length < k → parseL k s n rest = (s', m, 0) →
    ∃ a b, s' = ⟨s.types ++ a, s.classes ++ b⟩ ∧ (s.classes ≠ [] → a = []) ∧ rest = Idn.tyLines a ++ Idn.clLines b ∧ Idn.sCheck s' = 0
  | 0, _, _, _, _, _, hk, _ => by omega
  | k + 1, s, s', n, rest, m, hk, h => by
    rw [parseL] at h
    split at h
    · rename_i hr
      unfold fin at h
      split at h
      · rename_i h0
        simp only [Prod.mk.injEq] at h
        obtain ⟨rfl, _⟩ := h
        exact ⟨[], [], by simp, fun _ => rfl, by rw [hr]; rfl, h0⟩
      · rename_i h0
        simp only [Prod.mk.injEq] at h
        exact absurd h.2.2 h0
    · split at h
      · rename_i hr hc
        simp only [Bool.and_eq_true] at hc
        obtain ⟨c1, c2⟩ := hc
        have hcut : rest = (Lib.cut rest [10]).1 ++ 10 :: (Lib.cut rest [10]).2.1 := Idn.cut_is (by rw [← c1])
        generalize Lib.cut rest [10] = ct at *
        obtain ⟨line, rest2, en⟩ := ct
        dsimp only at *
        have hlen : rest2.length < k := by rw [hcut] at hk; simp at hk; omega
        obtain ⟨a, b, e1, e2, e3, e4⟩ := parse_is k _ _ _ _ _ hlen h
        have hrd : rdLine s line = ((rdLine s line).1, true) := by rw [← c2]
        rcases rdLine_is hrd with ⟨t, ht, hl, hcl, hs⟩ | ⟨c, hc, hl, hs⟩
        · rw [hs] at e1 e2
          refine ⟨t :: a, b, ?_, fun hx => absurd hcl hx, ?_, e4⟩
          · rw [e1]; simp
          · rw [hcut, hl, e3]; simp [Idn.tyLines]
        · rw [hs] at e1 e2
          have ha : a = [] := e2 (by simp)
          subst ha
          refine ⟨[], c :: b, ?_, fun _ => rfl, ?_, e4⟩
          · rw [e1]; simp
          · rw [hcut, hl, e3]; simp [Idn.tyLines, Idn.clLines]
      · simp at h
/-- the text of what was read -/
theorem text_parse {t : Bs} (h : (sParse t).2.2 = 0) : Idn.sText (sParse t).1 = (t, 0) ∧ Idn.sCheck (sParse t).1 = 0 := by
  unfold sParse at *
  by_cases hl : 4096 < t.length
  · rw [if_pos hl] at h; simp at h
  · rw [if_neg hl] at h ⊢
    generalize hr : parseL (t.length + 1) ⟨[], []⟩ 1 t = r at *
    obtain ⟨s', m, e⟩ := r
    dsimp only at h ⊢
    subst h
    obtain ⟨a, b, e1, _, e3, e4⟩ := parse_is _ _ _ _ _ _ (by omega) hr
    simp only [List.nil_append] at e1
    subst e1
    refine ⟨?_, e4⟩
    rw [sText_of e4 (by rw [← e3]; omega), ← e3]
theorem fin_err {s : Idn.Sch} (h : (fin s).2.2 ≠ 0) : (fin s).1 = ⟨[], []⟩ := by
  unfold fin at *
  split at h
  · exact absurd rfl h
  · rename_i h0; rw [if_neg h0]
theorem parseL_err : ∀ (k : Nat) (s : Idn.Sch) (n : Nat) (rest : Bs), (parseL k s n rest).2.2 ≠ 0 → (parseL k s n rest).1 = ⟨[], []⟩
  | 0, s, n, rest, h => fin_err h
  | k + 1, s, n, rest, h => by
    rw [parseL] at h ⊢
    split
    · rename_i h0; rw [if_pos h0] at h; exact fin_err h
    · rename_i h0
      rw [if_neg h0] at h
      split
      · rename_i h1; rw [if_pos h1] at h; exact parseL_err k _ _ _ h
      · rfl
theorem parse_err {t : Bs} (h : (sParse t).2.2 ≠ 0) : (sParse t).1 = ⟨[], []⟩ := by
  unfold sParse at *
  split
  · rfl
  · rename_i h0; rw [if_neg h0] at h; exact parseL_err _ _ _ _ h
theorem ssm6_of {s : Idn.Sch} (h : Idn.sCheck s = 0) : SSm6 s := by
  obtain ⟨o1, o2, _, _⟩ := Idn.sCheck_ok h
  refine ⟨fun t ht => by have := name_len (o1 t ht).1; omega, fun c hc => ?_⟩
  obtain ⟨a1, a2, a3, a4, a5, a6⟩ := o2 c hc
  refine ⟨by have := name_len a1; omega, ?_, a3, a4, fun x hx => by have := name_len (a5 x hx); omega, fun x hx => by have := name_len (a6 x hx); omega⟩
  rcases a2 with e | e
  · rw [e]; simp
  · have := name_len e; omega
theorem ssm_of {s : Idn.Sch} (h : Idn.sCheck s = 0) : SSm s := by
  obtain ⟨o1, o2, h3, h4⟩ := Idn.sCheck_ok h
  obtain ⟨s1, s2⟩ := ssm6_of h
  refine ⟨⟨by omega, fun t ht => by have := s1 t ht; omega⟩, ⟨by omega, fun c hc => ?_⟩⟩
  obtain ⟨a1, a2, a3, a4, a5, a6⟩ := s2 c hc
  exact ⟨by omega, by omega, ⟨by omega, fun x hx => by have := a5 x hx; omega⟩, ⟨by omega, fun x hx => by have := a6 x hx; omega⟩⟩
end Go.Proofs.YtnikolglippfmaaGreatDoor
/- law07: SchemaReturns, walked. -/
namespace Go.Proofs.YtnikolglippfmaaGreatDoor
open Go.RowKit Go.Sort
open Idn (L B Bs drop_L take_L size_L)
set_option maxHeartbeats 4000000 in
set_option maxRecDepth 100000 in
theorem schemaReturns_any (v : Value) (s : Idn.Sch) (t : ByteArray) (w : World) (hv : SchV w w.heap.size v s) (hl : SLen s) (ht : t.size ≤ 9223372036854775807) (hE : Env w) (hU : EnvU w) :
    Calls Tryz.prog 6 #[v, .string t] w fun e w' => e = .returned (.bool true) ∧ Below w.heap.size w w' := by
  have hF := fun W (hW : Below w.heap.size w W) => few_any v s W (SchV.mono (SchV.keep hv hW) hW.size) hl.1 hl.2.1 hl.2.2
  have hAl := fun W (hW : Below w.heap.size w W) => alive_any W (hE.keep hW) (hU.keep hW)
  have hv0 := hv
  obtain ⟨a, b, rfl, hT, hCl⟩ := hv
  obtain ⟨A', ca, rfl, hca⟩ := SlV.shape hT
  obtain ⟨A'', cb, rfl, hcb⟩ := SlV.shape hCl
  clear hT hCl
  have hsplit : few s = false ∨ (few s = true ∧ (600 : Int) < (t.size : Int)) ∨ (few s = true ∧ ¬ (600 : Int) < (t.size : Int)) := by
    cases few s
    · exact .inl rfl
    · by_cases h1 : (600 : Int) < (t.size : Int)
      · exact .inr (.inl ⟨rfl, h1⟩)
      · exact .inr (.inr ⟨rfl, h1⟩)
  rcases hsplit with hf | ⟨hf, h1⟩ | ⟨hf, h1⟩
  iterate 2
    · rw [hf] at hF
      clear hf
      go_enter Tryz.func6, Tryz.ntmps6
      go_wp2_with fail
      with_reducible refine gen1 (R := fun W => Calls Tryz.prog 8 _ W _) ?_
      intro W hbW hszW hc0 _
      refine (hF W hbW).mono ?_
      rintro e w1 ⟨rfl, hb1⟩
      have hb := hbW.trans (hb1.mono hbW.size)
      clear hF hc0
      go_wp2_with fail
      refine (hAl w1 hb).mono ?_
      rintro e w2 ⟨rfl, hb2⟩
      go_wp2_with fail
      go_ret
      exact ⟨rfl, hb.trans (hb2.mono hb.size)⟩
  · rw [hf] at hF
    have hs := few_ssm hf
    have hV := fun W (hW : Below w.heap.size w W) => SchV.mono (SchV.keep hv0 hW) hW.size
    have k1 := fun W (hW : Below w.heap.size w W) => schText_gen _ s W (hV W hW) hs ssm6_of
    have k2 := fun W (hW : Below w.heap.size w W) => parse_any (B (Idn.sText s).1) W (hE.keep hW)
    rw [Idn.L_B] at k2
    have law1 := @parse_text s
    have k3 := fun W (hW : Below w.heap.size w W) => parse_any t W (hE.keep hW)
    have law2 := @text_parse (L t)
    have law3 := @parse_err (L t)
    have hsz := size_L t
    generalize hrr : sParse (L t) = r at *
    clear hrr hf hl
    obtain ⟨s2, n2, e2⟩ := r
    dsimp only at law2 law3
    generalize Idn.sText s = tx at *
    obtain ⟨x, ex⟩ := tx
    dsimp only at k1 k2 law1
    unfold RetPS at k2 k3
    go_enter Tryz.func6, Tryz.ntmps6
    go_wp2_with fail
    with_reducible refine gen1 (R := fun W => Calls Tryz.prog 8 _ W _) ?_
    intro W hbW hszW hc0 _
    have a0 : W.cell? ⟨w.heap.size, 0, none⟩ = some (.slice A' s.types.length ca) := hc0 0 _ rfl
    have a1 : W.cell? ⟨w.heap.size, 1, none⟩ = some (.slice A'' s.classes.length cb) := hc0 1 _ rfl
    refine (hF W hbW).mono ?_
    rintro e w1 ⟨rfl, hb1⟩
    replace a0 := cell_later hb1 a0
    replace a1 := cell_later hb1 a1
    have hb := hbW.trans (hb1.mono hbW.size)
    have HL2 := Lib.hid law2
    have HL3 := Lib.hid law3
    have HSZ := Lib.hid hsz
    clear hF hc0 hb1 hbW hszW law2 law3 hsz
    go_wp2_with fail
    with_reducible refine (k1 w1 hb).mono ?_
    rintro e w2 ⟨rfl, hb2⟩
    replace a0 := cell_later hb2 a0
    replace a1 := cell_later hb2 a1
    replace hb := hb.trans (hb2.mono hb.size)
    clear k1 hb2
    by_cases hex : ex = 0
    · subst hex
      have hp := law1 rfl
      rw [hp] at k2
      dsimp only at k2
      clear hp law1
      go_wp2_with fail
      with_reducible refine (k2 w2 hb).mono ?_
      rintro e w3 ⟨vT, vC, ps, rfl, hT3, hC3, hps, hb3⟩
      obtain ⟨B1, d1, hx1⟩ := own_shape hT3
      subst hx1
      obtain ⟨B2, d2, hx2⟩ := own_shape hC3.1
      subst hx2
      replace a0 := cell_later hb3 a0
      replace a1 := cell_later hb3 a1
      replace hb := hb.trans (hb3.mono hb.size)
      have hS3 : SchV w3 w3.heap.size (.agg #[.slice B1 s.types.length d1, .slice B2 ps.length d2]) s := ⟨_, _, rfl, hT3.types, hC3.classes hps⟩
      clear k2 hb3 hT3 hC3 hps
      go_upto_region 6 with fail
      with_reducible refine gen1 (R := fun W => Code.wp Tryz.prog _ _ _ W) ?_
      intro W4 hbW4 hszW4 hc4 _
      have hb4 := hb.trans (hbW4.mono hb.size)
      have b0 : W4.cell? ⟨w3.heap.size, 0, none⟩ = some (.slice B1 s.types.length d1) := hc4 0 _ rfl
      have b1 : W4.cell? ⟨w3.heap.size, 1, none⟩ = some (.slice B2 ps.length d2) := hc4 1 _ rfl
      replace a0 := cell_later hbW4 a0
      replace a1 := cell_later hbW4 a1
      clear hc4
      go_wp2_with fail
      with_reducible refine (r_Same_one _ _ s W4 (SchV.mono (SchV.keep hS3 hbW4) hbW4.size) (hV W4 hb4) hs).mono ?_
      rintro e w5 ⟨rfl, hb5⟩
      replace hb := hb4.trans (hb5.mono hb4.size)
      clear hS3 hbW4 hszW4 hb4 hb5 a0 a1 b0 b1 hV
      go_wp2_with fail
      with_reducible refine (k3 w5 hb).mono ?_
      rintro e w6 ⟨vT, vC, ps, rfl, hT6, hC6, hps, hb6⟩
      replace hb := hb.trans (hb6.mono hb.size)
      clear k3 hb6
      by_cases he2 : e2 = 0
      · subst he2
        obtain ⟨q1, q2⟩ := HL2.out rfl
        have hSS := ssm_of q2
        have hS6 := ssm6_of q2
        obtain ⟨B3, d3, hx3⟩ := own_shape hT6
        subst hx3
        obtain ⟨B4, d4, hx4⟩ := own_shape hC6.1
        subst hx4
        have hS : SchV w6 w6.heap.size (.agg #[.slice B3 s2.types.length d3, .slice B4 ps.length d4]) s2 := ⟨_, _, rfl, hT6.types, hC6.classes hps⟩
        have c1 := fun W (hW : Below w6.heap.size w6 W) => schText_any _ s2 W (SchV.mono (SchV.keep hS hW) hW.size) hSS hS6
        have c2 := fun W (hW : Below w6.heap.size w6 W) => schCheck_any _ s2 W (SchV.mono (SchV.keep hS hW) hW.size) hSS
        rw [q1] at c1
        rw [q2] at c2
        dsimp only at c1
        rw [Idn.B_L] at c1
        have tt : (t.toList == t.toList) = true := str_is rfl
        clear q1 q2 hSS hS6 hS hT6 hC6 hps HL2 HL3
        go_wp2_with fail
        with_reducible refine gen1 (R := fun W => Calls Tryz.prog 17 _ W _) ?_
        intro W7 hbW7 hszW7 hc7 _
        have b0 : W7.cell? ⟨w6.heap.size, 0, none⟩ = some (.slice B3 s2.types.length d3) := hc7 0 _ rfl
        have b1 : W7.cell? ⟨w6.heap.size, 1, none⟩ = some (.slice B4 ps.length d4) := hc7 1 _ rfl
        with_reducible refine (c1 W7 hbW7).mono ?_
        rintro e w8 ⟨rfl, hb8⟩
        replace b0 := cell_later hb8 b0
        replace b1 := cell_later hb8 b1
        have hb68 := hbW7.trans (hb8.mono hbW7.size)
        clear c1 hc7 hbW7 hszW7 hb8
        go_wp2_with fail
        with_reducible refine (c2 w8 hb68).mono ?_
        rintro e w9 ⟨rfl, hb9⟩
        have hb69 := hb68.trans (hb9.mono hb68.size)
        replace hb := hb.trans (hb69.mono hb.size)
        clear c2 hb9 hb68 hb69 b0 b1
        go_wp2_with fail
        with_reducible refine (hAl w9 hb).mono ?_
        rintro e w10 ⟨rfl, hb10⟩
        go_wp2_with fail
        go_ret
        exact ⟨rfl, hb.trans (hb10.mono hb.size)⟩
      · obtain rfl := HL3.out he2
        have hps0 : ps = [] := List.map_eq_nil_iff.1 hps
        subst hps0
        obtain ⟨B3, d3, hx3⟩ := own_shape hT6
        subst hx3
        obtain ⟨B4, d4, hx4⟩ := own_shape hC6.1
        subst hx4
        clear hT6 hC6 hps HL2 HL3
        dsimp only [List.length_nil]
        go_upto_region 9 with fail
        with_reducible refine gen1 (R := fun W => Code.wp Tryz.prog _ _ _ W) ?_
        intro W7 hbW7 hszW7 hc7 _
        have b0 : W7.cell? ⟨w6.heap.size, 0, none⟩ = some (.slice B3 0 d3) := hc7 0 _ rfl
        have b1 : W7.cell? ⟨w6.heap.size, 1, none⟩ = some (.slice B4 0 d4) := hc7 1 _ rfl
        replace hb := hb.trans (hbW7.mono hb.size)
        clear hc7 hbW7 hszW7
        go_wp2_with fail
        with_reducible refine (hAl W7 hb).mono ?_
        rintro e w8 ⟨rfl, hb8⟩
        go_wp2_with fail
        go_ret
        exact ⟨rfl, hb.trans (hb8.mono hb.size)⟩
    · clear law1 k2 a0 a1 hV
      go_wp2_with fail
      with_reducible refine (k3 w2 hb).mono ?_
      rintro e w6 ⟨vT, vC, ps, rfl, hT6, hC6, hps, hb6⟩
      replace hb := hb.trans (hb6.mono hb.size)
      clear k3 hb6
      by_cases he2 : e2 = 0
      · subst he2
        obtain ⟨q1, q2⟩ := HL2.out rfl
        have hSS := ssm_of q2
        have hS6 := ssm6_of q2
        obtain ⟨B3, d3, hx3⟩ := own_shape hT6
        subst hx3
        obtain ⟨B4, d4, hx4⟩ := own_shape hC6.1
        subst hx4
        have hS : SchV w6 w6.heap.size (.agg #[.slice B3 s2.types.length d3, .slice B4 ps.length d4]) s2 := ⟨_, _, rfl, hT6.types, hC6.classes hps⟩
        have c1 := fun W (hW : Below w6.heap.size w6 W) => schText_any _ s2 W (SchV.mono (SchV.keep hS hW) hW.size) hSS hS6
        have c2 := fun W (hW : Below w6.heap.size w6 W) => schCheck_any _ s2 W (SchV.mono (SchV.keep hS hW) hW.size) hSS
        rw [q1] at c1
        rw [q2] at c2
        dsimp only at c1
        rw [Idn.B_L] at c1
        have tt : (t.toList == t.toList) = true := str_is rfl
        clear q1 q2 hSS hS6 hS hT6 hC6 hps HL2 HL3
        go_wp2_with fail
        with_reducible refine gen1 (R := fun W => Calls Tryz.prog 17 _ W _) ?_
        intro W7 hbW7 hszW7 hc7 _
        have b0 : W7.cell? ⟨w6.heap.size, 0, none⟩ = some (.slice B3 s2.types.length d3) := hc7 0 _ rfl
        have b1 : W7.cell? ⟨w6.heap.size, 1, none⟩ = some (.slice B4 ps.length d4) := hc7 1 _ rfl
        with_reducible refine (c1 W7 hbW7).mono ?_
        rintro e w8 ⟨rfl, hb8⟩
        replace b0 := cell_later hb8 b0
        replace b1 := cell_later hb8 b1
        have hb68 := hbW7.trans (hb8.mono hbW7.size)
        clear c1 hc7 hbW7 hszW7 hb8
        go_wp2_with fail
        with_reducible refine (c2 w8 hb68).mono ?_
        rintro e w9 ⟨rfl, hb9⟩
        have hb69 := hb68.trans (hb9.mono hb68.size)
        replace hb := hb.trans (hb69.mono hb.size)
        clear c2 hb9 hb68 hb69 b0 b1
        go_wp2_with fail
        with_reducible refine (hAl w9 hb).mono ?_
        rintro e w10 ⟨rfl, hb10⟩
        go_wp2_with fail
        go_ret
        exact ⟨rfl, hb.trans (hb10.mono hb.size)⟩
      · obtain rfl := HL3.out he2
        have hps0 : ps = [] := List.map_eq_nil_iff.1 hps
        subst hps0
        obtain ⟨B3, d3, hx3⟩ := own_shape hT6
        subst hx3
        obtain ⟨B4, d4, hx4⟩ := own_shape hC6.1
        subst hx4
        clear hT6 hC6 hps HL2 HL3
        dsimp only [List.length_nil]
        go_upto_region 9 with fail
        with_reducible refine gen1 (R := fun W => Code.wp Tryz.prog _ _ _ W) ?_
        intro W7 hbW7 hszW7 hc7 _
        have b0 : W7.cell? ⟨w6.heap.size, 0, none⟩ = some (.slice B3 0 d3) := hc7 0 _ rfl
        have b1 : W7.cell? ⟨w6.heap.size, 1, none⟩ = some (.slice B4 0 d4) := hc7 1 _ rfl
        replace hb := hb.trans (hbW7.mono hb.size)
        clear hc7 hbW7 hszW7
        go_wp2_with fail
        with_reducible refine (hAl W7 hb).mono ?_
        rintro e w8 ⟨rfl, hb8⟩
        go_wp2_with fail
        go_ret
        exact ⟨rfl, hb.trans (hb8.mono hb.size)⟩
end Go.Proofs.YtnikolglippfmaaGreatDoor
