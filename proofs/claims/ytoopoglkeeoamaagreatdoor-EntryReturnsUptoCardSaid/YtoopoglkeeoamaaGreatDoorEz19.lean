/- Part 19 of the proof that identitylaw08.EntryParses and EntryReturns return true: the package variables hold what the program lays; nothing else is asked. -/
import Derived.Test.YtoopoglkeeoamaaGreatDoorEz01
import Derived.Lib.Split
import Derived.Lib.SplitLaws
import Derived.Lib.CountLaws
import Derived.Lib.IndexBytes
import Derived.Lib.IndexMore
import Derived.Lib.Strings
set_option linter.unusedVariables false
set_option linter.unusedSimpArgs false
/- Plain law: cutting at a byte. -/
namespace Idn
open Go
def fstC (c : UInt8) (l : Bs) : Option Nat := l.findIdx? (· == c)
/-- the pieces between bytes c -/
def cutC (c : UInt8) : Bs → List Bs
  | [] => [[]]
  | x :: l => if x == c then [] :: cutC c l else onHead [x] (cutC c l)
theorem fstC_cons (c x : UInt8) (l : Bs) : fstC c (x :: l) = if x == c then some 0 else (fstC c l).map (· + 1) := by
  unfold fstC; rw [List.findIdx?_cons]
theorem fstC_lt {c : UInt8} : ∀ {l : Bs} {k : Nat}, fstC c l = some k → k < l.length
  | [], k, h => by cases h
  | x :: l, k, h => by
    rw [fstC_cons] at h
    split at h
    · injection h with h; subst h; simp
    · obtain ⟨j, hj, rfl⟩ := Option.map_eq_some_iff.1 h
      have := fstC_lt hj
      simp; omega
theorem indexByte_fst (c : UInt8) : ∀ l : Bs, Lib.indexByte l c = match fstC c l with | none => -1 | some k => (k : Int)
  | [] => rfl
  | x :: l => by
    have ih := indexByte_fst c l
    unfold Lib.indexByte
    rw [fstC_cons, ih]
    cases hx : x == c
    · cases hf : fstC c l with
      | none => simp
      | some k =>
        have : ((k : Int) == -1) = false := by rw [beq_eq_false_iff_ne]; omega
        simp [this]
    · simp
theorem cutC_fst (c : UInt8) : ∀ l : Bs, cutC c l = match fstC c l with | none => [l] | some i => l.take i :: cutC c (l.drop (i + 1))
  | [] => rfl
  | x :: l => by
    have ih := cutC_fst c l
    rw [show cutC c (x :: l) = if x == c then [] :: cutC c l else onHead [x] (cutC c l) from rfl, fstC_cons, ih]
    cases hx : x == c
    · cases hf : fstC c l with
      | none => rfl
      | some k => rfl
    · rw [← ih]; rfl
theorem indexB_fst (s : ByteArray) (c : UInt8) : Lib.indexB s ⟨#[c]⟩ = match fstC c (L s) with | none => -1 | some k => (k : Int) := by
  show Lib.index (L s) [c] = _
  rw [Lib.index_one, indexByte_fst]
theorem ext_take (s : ByteArray) (b : Nat) : s.extract 0 b = B ((L s).take b) := by
  have := Lib.extract_eq s 0 b
  rw [this]; rfl
theorem ext_drop (s : ByteArray) (a : Nat) : s.extract a s.size = B ((L s).drop a) := by
  have := Lib.extract_eq s a s.size
  rw [this]
  show B (((L s).drop a).take (s.size - a)) = _
  rw [List.take_of_length_le]
  rw [List.length_drop, size_L]; exact Nat.le_refl _
theorem split_cut (c : UInt8) (s : ByteArray) : Lib.splitB ⟨#[c]⟩ 0 (Lib.countB s ⟨#[c]⟩) s = (cutC c (L s)).map B := by
  induction hn : s.size using Nat.strongRecOn generalizing s with
  | ind n ih =>
    have hi := indexB_fst s c
    rw [cutC_fst]
    cases hf : fstC c (L s) with
    | none =>
      rw [hf] at hi
      rw [Lib.splitB_miss _ _ _ _ hi]; rfl
    | some k =>
      rw [hf] at hi
      have hk := fstC_lt hf
      rw [← size_L] at hk
      rw [Lib.countB_hit s ⟨#[c]⟩ k (Nat.le_refl 1) hi, Nat.add_comm, Lib.splitB_hit _ _ _ _ k hi]
      have e : s.extract (k + (⟨#[c]⟩ : ByteArray).size) s.size = B ((L s).drop (k + 1)) := ext_drop s (k + 1)
      rw [e, ih (s.size - (k + 1)) (by omega) (B ((L s).drop (k + 1))) (by rw [size_B, List.length_drop, ← size_L]), L_B, Nat.add_zero, ext_take]
      rfl
theorem cut_fst (c : UInt8) (l : Bs) : Lib.cut l [c] = match fstC c l with | none => (l, [], false) | some i => (l.take i, l.drop (i + 1), true) := by
  unfold Lib.cut
  rw [Lib.index_one, indexByte_fst]
  cases fstC c l with
  | none => simp
  | some k => simp
theorem cutC_ne (c : UInt8) (l : Bs) : cutC c l ≠ [] := by
  rw [cutC_fst]; split <;> simp
theorem cutC_len (c : UInt8) : ∀ l : Bs, (cutC c l).length ≤ l.length + 1 ∧ ∀ x ∈ cutC c l, x.length ≤ l.length := by
  intro l
  induction hn : l.length using Nat.strongRecOn generalizing l with
  | ind n ih =>
    rw [cutC_fst]
    cases hf : fstC c l with
    | none => simp [hn]
    | some k =>
      have hk := fstC_lt hf
      obtain ⟨h1, h2⟩ := ih (l.length - (k + 1)) (by omega) (l.drop (k + 1)) (by rw [List.length_drop])
      refine ⟨by simp; omega, fun x hx => ?_⟩
      rcases List.mem_cons.1 hx with rfl | hx
      · rw [List.length_take]; omega
      · have := h2 x hx; omega
theorem count_cut (c : UInt8) (s : ByteArray) : Lib.countB s ⟨#[c]⟩ + 1 = (cutC c (L s)).length := by
  have h := Lib.splitB_all ⟨#[c]⟩ (Nat.le_refl 1) 0 _ s rfl
  rw [split_cut, List.length_map] at h
  exact h.symm
end Idn
