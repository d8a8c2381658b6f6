/- Part 9 of the proof that the statements of identitylaw09 on matching hold at all arguments: the package variables hold what the program lays; nothing else is asked. -/
import Derived.Test.YtmamnmjfbadiiaaGreatDoorFz01
import Derived.Lib.AtoiAll
import Derived.Lib.ItoaNum
import Derived.Lib.Case
import Derived.Lib.MapU
set_option linter.unusedVariables false
set_option linter.unusedSimpArgs false
set_option maxRecDepth 100000
set_option maxHeartbeats 16000000
/- Plain functions: numbers and truth values. -/
namespace Idn
def isDigs (l : Bs) : Bool := !l.isEmpty && l.all digit
def dig10 : Bs := [48, 49, 50, 51, 52, 53, 54, 55, 56, 57]
def tailR (d s : Bs) : Int × Int :=
 if !d.all digit then (0, 4)
 else match Go.Lib.atoiAll s with
  | .ok n => (n, 0)
  | _ => (0, 27)
def readInt (s : Bs) : Int × Int :=
 if decide (s ≠ [48]) && ((Go.Lib.trimPrefix s [45]).isEmpty || (Go.Lib.trimPrefix s [45]).headD 0 == 48) then (0, 4)
 else tailR (Go.Lib.trimPrefix s [45]) s
def stripD (d : Bs) : Bs := d.dropWhile (· == 48)
def integer (s : Bs) : Bs × Bool :=
 if !isDigs (Go.Lib.trimPrefix s [45]) then ([], false)
 else if (stripD (Go.Lib.trimPrefix s [45])).isEmpty then ([48], true)
 else ((Go.Lib.itoa (readInt (if Go.Lib.hasPrefix s [45] then 45 :: stripD (Go.Lib.trimPrefix s [45]) else stripD (Go.Lib.trimPrefix s [45]))).1),
  (readInt (if Go.Lib.hasPrefix s [45] then 45 :: stripD (Go.Lib.trimPrefix s [45]) else stripD (Go.Lib.trimPrefix s [45]))).2 == 0)
def truth (s : Bs) : Bs × Bool := (Go.Lib.toUpperD (lower s), (lower s == [116, 114, 117, 101]) || (lower s == [102, 97, 108, 115, 101]))
def normSyn (x : Int) (v : Bs) : Bs × Bool :=
 if x = 3 then integer v else if x = 5 then truth v else if x = 1 then (fold v, true) else if x = 4 then ((cleanN v).1, (cleanN v).2 == 0) else (v, true)
def normV (x : Int) (v : Bs) : Bs × Bool := ((normSyn x v).1, (normSyn x v).2 && (clean v && clean (normSyn x v).1))
end Idn
/- Plain law: folding and names: normal forms are their own normal forms. -/
namespace Idn
theorem all8 (p : UInt8 → Bool) (h : (List.range 256).all (fun n => p (UInt8.ofNat n)) = true) (c : UInt8) : p c = true := by
 rw [List.all_eq_true] at h
 have := h c.toNat (List.mem_range.2 c.toNat_lt)
 rwa [UInt8.ofNat_toNat] at this
theorem imp8 {p q : UInt8 → Bool} (h : (List.range 256).all (fun n => !p (UInt8.ofNat n) || q (UInt8.ofNat n)) = true) {c : UInt8} (hp : p c = true) : q c = true := by
 have := all8 (fun c => !p c || q c) h c
 simp only [hp, Bool.not_true, Bool.false_or] at this
 exact this
theorem low_idem (c : UInt8) : low (low c) = low c := by
 have := all8 (fun c => low (low c) == low c) (by decide +kernel) c
 simpa using this
theorem nameC_low {c : UInt8} (h : nameC c = true) : nameC (low c) = true := imp8 (p := nameC) (q := fun c => nameC (low c)) (by decide +kernel) h
theorem letter_low {c : UInt8} (h : letter c = true) : letter (low c) = true := imp8 (p := letter) (q := fun c => letter (low c)) (by decide +kernel) h
theorem nameC_plain {c : UInt8} (h : nameC c = true) : special c = false ∧ c ≠ 32 := by
 have := imp8 (p := nameC) (q := fun c => !special c && !(c == 32)) (by decide +kernel) h
 simpa using this
theorem lower_lower (l : Bs) : lower (lower l) = lower l := by
 unfold lower; rw [List.map_map]
 exact List.map_congr_left fun c _ => low_idem c
theorem name_lower {l : Bs} (h : name l = true) : name (lower l) = true := by
  unfold name made at *
  simp only [Bool.and_eq_true, decide_eq_true_eq, List.all_eq_true] at *
  obtain ⟨⟨h1, h2, h3⟩, h4⟩ := h
  cases l with
  | nil => simp at h2
  | cons c l =>
    refine ⟨⟨fun x hx => ?_, by simp [lower], by rw [length_lower]; exact h3⟩, ?_⟩
    · unfold lower at hx
      obtain ⟨y, hy, rfl⟩ := List.mem_map.1 hx
      exact nameC_low (h1 y hy)
    · exact letter_low h4
def ends (l : Bs) : Prop := l.head? ≠ some 32 ∧ l.getLast? ≠ some 32
end Idn
