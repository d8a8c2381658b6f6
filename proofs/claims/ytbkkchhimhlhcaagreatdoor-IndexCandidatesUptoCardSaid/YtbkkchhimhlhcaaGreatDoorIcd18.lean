/- Part 18 of the proof that identitylaw11.IndexCandidates returns true for every data that it may be called with: proof: the package variables hold what the program lays; nothing else is asked. -/
import Derived.Test.YtbkkchhimhlhcaaGreatDoorIcd06
import Derived.Lib.ItoaMem
set_option linter.unusedVariables false
set_option linter.unusedSimpArgs false
set_option maxRecDepth 100000
set_option maxHeartbeats 16000000
/- Plain law: numbers: what the reference computes is what the layer computes. -/
namespace Idn
open Go
def valF (acc : Nat) (l : Bs) : Nat := l.foldl (fun n c => n * 10 + (c.toNat - 48)) acc
theorem valF_ge : ∀ (l : Bs) (acc : Nat), acc ≤ valF acc l
 | [], _ => Nat.le_refl _
 | c :: l, acc => by
  have := valF_ge l (acc * 10 + (c.toNat - 48))
  show acc ≤ valF (acc * 10 + (c.toNat - 48)) l
  omega
theorem valF_app (l : Bs) (c : UInt8) (acc : Nat) : valF acc (l ++ [c]) = valF acc l * 10 + (c.toNat - 48) := by unfold valF; rw [List.foldl_append]; rfl
theorem digit_iff (c : UInt8) : digit c = true ↔ 48 ≤ c.toNat ∧ c.toNat ≤ 57 := by simp [digit]
theorem parse_ok : ∀ (l : Bs) (acc : Nat), l.all digit = true → acc < 18446744073709551616 → Lib.parseUint10 acc l = if valF acc l < 18446744073709551616 then .ok (valF acc l) else .range
 | [], acc, _, ha => by simp [Lib.parseUint10, valF, ha]
 | c :: l, acc, h, ha => by
  rw [List.all_cons, Bool.and_eq_true] at h
  have hc := (digit_iff c).1 h.1
  have hv : valF acc (c :: l) = valF (acc * 10 + (c.toNat - 48)) l := rfl
  have hge := valF_ge l (acc * 10 + (c.toNat - 48))
  rw [Lib.parseUint10, if_pos hc]
  split
  ·rw [if_neg (by rw [hv]; omega)]
  ·split
   ·rw [if_neg (by rw [hv]; omega)]
   ·rw [parse_ok l _ h.2 (by omega), hv]
def dec2 (t : Bs) (zero : Bool) : Bool := !t.isEmpty && ((!(t.headD 0 == 48) || (decide (t.length = 1) && zero)) && t.all digit)
def isMinus (s : Bs) : Bool := s.headD 0 == 45
def mag2 (s : Bs) : Bs := if isMinus s then s.tail else s
def read2 (s : Bs) : Int × Int :=
 if !dec2 (mag2 s) (!isMinus s) then (0, 4)
 else if isMinus s then (if valF 0 (mag2 s) ≤ 9223372036854775808 then (-(valF 0 (mag2 s) : Int), 0) else (0, 27))
 else if valF 0 (mag2 s) < 9223372036854775808 then ((valF 0 (mag2 s) : Int), 0) else (0, 27)
theorem trimP_eq (s : Bs) : Lib.trimPrefix s [45] = mag2 s := by
 cases s with
 | nil => rfl
 | cons c r =>
  by_cases hc : c = 45
  ·subst hc; simp [Lib.trimPrefix, Lib.hasPrefix, List.isPrefixOf, mag2, isMinus]
  ·have h1 : (45 == c) = false := by simpa using fun h => hc h.symm
   have h2 : (c == 45) = false := by simpa using hc
   simp [Lib.trimPrefix, Lib.hasPrefix, List.isPrefixOf, mag2, isMinus, h1, h2]
theorem atoi_plain (s : Bs) (h0 : mag2 s ≠ []) (h : (mag2 s).all digit = true) :
    Lib.atoiAll s = if isMinus s then (if valF 0 (mag2 s) ≤ 9223372036854775808 then .ok (-(valF 0 (mag2 s) : Int)) else .range) else if valF 0 (mag2 s) < 9223372036854775808 then .ok (valF 0 (mag2 s) : Int) else .range := by
 have hp : Lib.parseMag (mag2 s) = if valF 0 (mag2 s) < 18446744073709551616 then .ok (valF 0 (mag2 s)) else .range := by
  unfold Lib.parseMag; rw [if_neg h0]; exact parse_ok _ 0 h (by decide)
 cases s with
 | nil => exact absurd rfl h0
 | cons c r =>
  by_cases hc : c = 45
  ·subst hc
   have e : mag2 (45 :: r) = r := by simp [mag2, isMinus]
   have e2 : isMinus (45 :: r) = true := rfl
   rw [e] at hp h0 h ⊢
   rw [e2]
   unfold Lib.atoiAll
   simp only [show ((45 : UInt8).toNat = 43 ∨ (45 : UInt8).toNat = 45) = True from by simp, if_true, show ((45 : UInt8).toNat = 45) = True from by simp, not_true_eq_false, false_and, if_false, true_and, or_true]
   rw [hp]
   generalize valF 0 r = x
   by_cases h1 : x < 18446744073709551616
   ·rw [if_pos h1]
    dsimp only
    by_cases h2 : x ≤ 9223372036854775808
    ·rw [if_neg (by omega), if_pos h2]
    ·rw [if_pos (by omega), if_neg h2]
   ·rw [if_neg h1, if_neg (by omega)]
  ·have e2 : isMinus (c :: r) = false := by simpa [isMinus] using hc
   have e : mag2 (c :: r) = c :: r := by unfold mag2; rw [e2]; rfl
   rw [e] at hp h0 h ⊢
   rw [e2]
   have hd := (digit_iff c).1 (by rw [List.all_cons, Bool.and_eq_true] at h; exact h.1)
   have n1 : ¬ (c.toNat = 43 ∨ c.toNat = 45) := by omega
   have n2 : ¬ c.toNat = 45 := by omega
   have n3 : ¬ c.toNat = 43 := by omega
   unfold Lib.atoiAll
   simp only [n3, n2, or_false, not_false_eq_true, true_and, false_and, if_false, Bool.false_eq_true]
   rw [hp]
   generalize valF 0 (c :: r) = x
   by_cases h1 : x < 18446744073709551616
   ·rw [if_pos h1]
    dsimp only
    by_cases h2 : x < 9223372036854775808
    ·rw [if_neg (by omega), if_pos h2]
    ·rw [if_pos (by omega), if_neg h2]
   ·rw [if_neg h1, if_neg (by omega)]
theorem read2_eq (s : Bs) : readInt s = read2 s := by
 unfold readInt read2
 rw [trimP_eq]
 have hs48 : s = [48] → mag2 s = [48] ∧ isMinus s = false := fun h => by subst h; exact ⟨rfl, rfl⟩
 have hm48 : mag2 s = [48] → isMinus s = false → s = [48] := fun h h2 => by unfold mag2 at h; rw [h2] at h; exact h
 have hA := atoi_plain s
 generalize hm : mag2 s = m at *
 generalize hi : isMinus s = b at *
 by_cases h1 : s = [48]
 ·obtain ⟨rfl, rfl⟩ := hs48 h1
  rw [if_neg (by simp [h1])]
  unfold tailR
  rw [hA (by decide) (by decide)]
  simp [dec2]
  decide
 ·by_cases h2 : m = []
  ·subst h2
   rw [if_pos (by simp [h1]), if_pos (by rfl)]
  ·by_cases h3 : m.headD 0 = 48
   ·have hd : dec2 m (!b) = false := by
      unfold dec2
      have e3 : (m.headD 0 == 48) = true := by simpa using h3
      rw [e3]
      cases b
      ·have hl : ¬ m.length = 1 := fun hl => by
         match m, hl with
         | [c], _ =>
          simp at h3
          subst h3
          exact h1 (hm48 rfl rfl)
       simp [hl]
      ·simp
    rw [if_pos (by rw [h3]; simp [h1]), if_pos (by simp [hd])]
   ·have e3 : (m.headD 0 == 48) = false := by simpa using h3
    have e4 : m.isEmpty = false := by cases m with | nil => exact absurd rfl h2 | cons _ _ => rfl
    rw [if_neg (by rw [e3, e4]; simp)]
    unfold tailR
    cases hall : m.all digit
    ·rw [if_pos (by simp), if_pos (by unfold dec2; rw [hall]; simp)]
    ·have hd : dec2 m (!b) = true := by unfold dec2; rw [e3, e4, hall]; rfl
     rw [if_neg (by simp), if_neg (by simp [hd]), hA h2 hall]
     cases b
     ·by_cases hv : valF 0 m < 9223372036854775808
      ·simp [hv]
      ·simp [hv]
     ·by_cases hv : valF 0 m ≤ 9223372036854775808
      ·simp [hv]
      ·simp [hv]
end Idn
/- Plain law: the reference's number is the layer's integer; decimal forms of numbers. -/
namespace Idn
open Go
def stripZ : Bs → Bs
 | [] => []
 | [c] => [c]
 | c :: d :: l => if c == 48 then stripZ (d :: l) else c :: d :: l
def signed (m : Bool) (t : Bs) : Bs := if m && !(t == [48]) then 45 :: t else t
def number2 (s : Bs) : Int × Bool :=
 if (stripZ (mag2 s)).isEmpty || !digit ((stripZ (mag2 s)).headD 0) then (0, false)
 else ((read2 (signed (isMinus s) (stripZ (mag2 s)))).1, (read2 (signed (isMinus s) (stripZ (mag2 s)))).2 == 0)
theorem stripZ_ne : ∀ l : Bs, l ≠ [] → stripZ l ≠ []
 | [], h => absurd rfl h
 | [c], _ => by simp [stripZ]
 | c :: d :: l, _ => by
  unfold stripZ
  split
  ·exact stripZ_ne (d :: l) (by simp)
  ·simp
theorem stripZ_all : ∀ l : Bs, (stripZ l).all digit = l.all digit
 | [] => rfl
 | [c] => rfl
 | c :: d :: l => by
  unfold stripZ
  split
  ·rename_i h
   have e : c = 48 := by simpa using h
   rw [stripZ_all (d :: l), e]
   show (d :: l).all digit = ((48 : UInt8) :: d :: l).all digit
   rw [List.all_cons (a := (48 : UInt8))]
   have : digit 48 = true := by decide
   rw [this, Bool.true_and]
  ·rfl
theorem stripZ_D : ∀ l : Bs, l ≠ [] → l.all digit = true → stripZ l = if (stripD l).isEmpty then [48] else stripD l
 | [], h, _ => absurd rfl h
 | [c], _, _ => by
  unfold stripZ stripD
  by_cases h : c = 48
  ·subst h; rfl
  ·simp [h]
 | c :: d :: l, _, hd => by
  unfold stripZ
  by_cases h : c = 48
  ·subst h
   have e : stripD (48 :: d :: l) = stripD (d :: l) := by simp [stripD]
   rw [e]
   rw [List.all_cons, Bool.and_eq_true] at hd
   simpa using stripZ_D (d :: l) (by simp) hd.2
  ·have e : stripD (c :: d :: l) = c :: d :: l := by simp [stripD, h]
   rw [e]; simp [h]
theorem stripD_head (l : Bs) (h : (stripD l).isEmpty = false) : (stripD l).headD 0 ≠ 48 := by
 unfold stripD at *
 cases hx : List.dropWhile (· == (48 : UInt8)) l with
 | nil => rw [hx] at h; cases h
 | cons x r =>
  have := List.head?_dropWhile_not (· == (48 : UInt8)) l
  rw [hx] at this
  simpa using this
theorem hasP_eq (s : Bs) : Lib.hasPrefix s [45] = isMinus s := by
 cases s with
 | nil => rfl
 | cons c r => 
  by_cases h : c = 45
  ·subst h; simp [Lib.hasPrefix, List.isPrefixOf, isMinus]
  ·have h1 : (45 == c) = false := by simpa using fun e => h e.symm
   have h2 : (c == 45) = false := by simpa using h
   simp [Lib.hasPrefix, List.isPrefixOf, isMinus, h1, h2]
theorem itoa_zero : Lib.itoa 0 = [48] := by
 have := Lib.itoa_nonneg 0
 rw [Lib.decDigits_one (by decide)] at this
 exact this
theorem all_head {l : Bs} (h0 : l ≠ []) (h : l.all digit = true) : digit (l.headD 0) = true := by
 cases l with
 | nil => exact absurd rfl h0
 | cons c r => rw [List.all_cons, Bool.and_eq_true] at h; exact h.1
theorem not_minus {l : Bs} (h : digit (l.headD 0) = true) : isMinus l = false := by
 have := (digit_iff _).1 h
 unfold isMinus
 rw [beq_eq_false_iff_ne]
 intro e
 rw [e] at this
 simp at this
theorem mag_signed (m : Bool) (t : Bs) (h : digit (t.headD 0) = true) : mag2 (signed m t) = t := by
 unfold signed
 split
 ·simp [mag2, isMinus]
 ·unfold mag2; rw [not_minus h]; rfl
theorem number_eq (s : Bs) : (number2 s).2 = (integer s).2 ∧ ((integer s).2 = true → Lib.itoa (number2 s).1 = (integer s).1) := by
 unfold integer number2
 rw [trimP_eq, hasP_eq]
 generalize mag2 s = t
 generalize isMinus s = m
 by_cases h0 : t = []
 ·subst h0
  simp [isDigs, stripZ]
 ·have hne := stripZ_ne t h0
  have hie : (stripZ t).isEmpty = false := by cases hx : stripZ t with | nil => exact absurd hx hne | cons _ _ => rfl
  have hte : t.isEmpty = false := by cases hx : t with | nil => exact absurd hx h0 | cons _ _ => rfl
  cases hall : t.all digit
  ·have hid : isDigs t = false := by unfold isDigs; rw [hall]; simp
   rw [hid, hie]
   refine ⟨?_, fun h => by simp at h⟩
   have hza := stripZ_all t
   rw [hall] at hza
   cases hd : digit ((stripZ t).headD 0)
   ·simp
   ·have hr : (read2 (signed m (stripZ t))) = (0, 4) := by
     unfold read2
     rw [mag_signed m _ hd]
     rw [if_pos (by unfold dec2; rw [hza]; simp)]
    rw [hr]; simp
  ·have hid : isDigs t = true := by unfold isDigs; rw [hall, hte]; rfl
   have hz := stripZ_D t h0 hall
   have hzd := all_head hne (by rw [stripZ_all]; exact hall)
   rw [hid, hie, hzd]
   simp only [Bool.not_true, Bool.or_false, Bool.false_eq_true, if_false, Bool.false_or]
   by_cases he : (stripD t).isEmpty = true
   ·rw [if_pos he] at hz ⊢
    rw [hz]
    have hs : signed m [48] = [48] := by unfold signed; simp
    rw [hs]
    refine ⟨by decide, fun _ => ?_⟩
    have : (read2 [48]).1 = 0 := by decide
    rw [this]; exact itoa_zero
   ·rw [if_neg he] at hz ⊢
    have hs : signed m (stripD t) = if m then 45 :: stripD t else stripD t := by
     have hh := stripD_head t (by simpa using he)
     have : (stripD t == [48]) = false := by
      rw [beq_eq_false_iff_ne]; intro e; rw [e] at hh; exact hh rfl
     unfold signed
     rw [this]
     cases m <;> rfl
    rw [hz, hs, ← read2_eq]
    cases m <;> exact ⟨rfl, fun _ => rfl⟩
theorem dig_val (u : Nat) : valF 0 (Lib.decDigits u) = u ∧ (Lib.decDigits u).all digit = true ∧ Lib.decDigits u ≠ [] ∧ (1 ≤ u → (Lib.decDigits u).headD 0 ≠ 48) := by
 induction u using Nat.strongRecOn with
 | ind u ih =>
  have hdg : ∀ k : Nat, k < 10 → (UInt8.ofNat (48 + k)).toNat = 48 + k := fun k hk => by
   simp; omega
  by_cases h : u < 10
  ·rw [Lib.decDigits_one h]
   refine ⟨?_, ?_, by simp, fun h1 => ?_⟩
   ·simp only [valF, List.foldl_cons, List.foldl_nil, hdg u h]; omega
   ·simp only [List.all_cons, List.all_nil, Bool.and_true]; rw [digit_iff, hdg u h]; omega
   ·intro e
    have := congrArg UInt8.toNat e
    simp only [List.headD_cons] at this
    rw [hdg u h] at this
    simp at this; omega
  ·have e : Lib.decDigits u = Lib.decDigits (u / 10) ++ [UInt8.ofNat (48 + u % 10)] := by rw [Lib.decDigits, dif_neg h]
   obtain ⟨h1, h2, h3, h4⟩ := ih (u / 10) (by omega)
   have hk := hdg (u % 10) (by omega)
   rw [e]
   refine ⟨?_, ?_, by simp, fun _ => ?_⟩
   ·rw [valF_app, h1, hk]; omega
   ·rw [List.all_append, h2]; simp only [List.all_cons, List.all_nil, Bool.and_true, Bool.true_and]; rw [digit_iff, hk]; omega
   ·have := h4 (by omega)
    cases hx : Lib.decDigits (u / 10) with
    | nil => exact absurd hx h3
    | cons c r => rw [hx] at this; simpa using this
end Idn
