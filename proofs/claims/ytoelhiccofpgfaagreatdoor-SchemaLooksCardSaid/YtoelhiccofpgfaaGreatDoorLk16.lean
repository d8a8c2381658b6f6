/- Part 16 of the proof that SchemaLooks returns true for every schema and every name: the package variables hold what the program lays; nothing else is asked. -/
import Derived.Test.YtoelhiccofpgfaaGreatDoorLk01
import Derived.Lib.AtoiAll
import Derived.Lib.Strings
import Derived.Lib.ItoaNum
import Derived.Lib.Case
import Derived.Lib.MapU
/- Plain functions: numbers and truth values. -/
namespace Idn
def isDigs (l : Bs) : Bool := !l.isEmpty && l.all digit
def valD (l : Bs) : Nat := l.foldl (fun n c => n * 10 + (c.toNat - 48)) 0
def dig10 : Bs := [48, 49, 50, 51, 52, 53, 54, 55, 56, 57]
def tailR (d s : Bs) : Int × Int :=
  if !d.all digit then (0, 4)
  else match Go.Lib.atoiAll s with
    | .ok n => (n, 0)
    | _ => (0, 27)
/-- the number of a decimal form, or its error -/
def readInt (s : Bs) : Int × Int :=
  if decide (s ≠ [48]) && ((Go.Lib.trimPrefix s [45]).isEmpty || (Go.Lib.trimPrefix s [45]).headD 0 == 48) then (0, 4)
  else tailR (Go.Lib.trimPrefix s [45]) s
def stripD (d : Bs) : Bs := d.dropWhile (· == 48)
def integer (s : Bs) : Bs × Bool :=
  if !isDigs (Go.Lib.trimPrefix s [45]) then ([], false)
  else if (stripD (Go.Lib.trimPrefix s [45])).isEmpty then ([48], true)
  else ((Go.Lib.itoa (readInt (if Go.Lib.hasPrefix s [45] then 45 :: stripD (Go.Lib.trimPrefix s [45]) else stripD (Go.Lib.trimPrefix s [45]))).1),
    (readInt (if Go.Lib.hasPrefix s [45] then 45 :: stripD (Go.Lib.trimPrefix s [45]) else stripD (Go.Lib.trimPrefix s [45]))).2 == 0)
def truth (s : Bs) : Bs × Bool := (Go.Lib.toUpperD (lower s), (lower s == [116, 114, 117, 101]) || (lower s == [102, 97, 108, 115, 101]))
/-- the normal form of a value for a syntax other than that of names -/
def normSyn (x : Int) (v : Bs) : Bs × Bool :=
  if x = 3 then integer v else if x = 5 then truth v else if x = 1 then (fold v, true) else (v, true)
def normV (x : Int) (v : Bs) : Bs × Bool := ((normSyn x v).1, (normSyn x v).2 && (clean v && clean (normSyn x v).1))
end Idn
