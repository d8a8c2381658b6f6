/- Part 45 of the proof that identitylaw12.SearchChecks returns true for every data that it may be called with: proof: the package variables hold what the program lays; nothing else is asked. -/
import Derived.Test.YtbkkchhimhlhcaaGreatDoorSrk43
import Derived.Test.YtbkkchhimhlhcaaGreatDoorSrk44
set_option linter.unusedVariables false
set_option linter.unusedSimpArgs false
set_option maxRecDepth 100000
set_option maxHeartbeats 16000000
/- What the rows of identitylaw08 share: entries, strings handed over. -/
namespace Go.Proofs.YtbkkchhimhlhcaaGreatDoor
open Go.RowKit Go.Sort Go.ChangeShapes Go.WideShapes Go.ChangeAt
open Idn (L B Bs)
section
variable {H:Type} {enc:TypeId×Value→H} {W:World}
end
end Go.Proofs.YtbkkchhimhlhcaaGreatDoor
/- What the second form's bound gives: arguments of small bulk read as short lists of short strings. -/
namespace Go.Proofs.YtbkkchhimhlhcaaGreatDoor
open Go.RowKit Go.Sort Go.ChangeShapes Go.WideShapes Go.ChangeAt
open Idn (L B Bs)
section
variable {H:Type}
end
def GS (l:List Bs) (n:Nat):Prop:=l.length≤n∧∀x∈l,x.length≤n
theorem GS.mono {l:List Bs} {n m:Nat} (h:GS l n) (hn:n≤m):GS l m:=⟨Nat.le_trans h.1 hn,fun x hx=>Nat.le_trans (h.2 x hx) hn⟩
def GA (a:Idn.Att) (n:Nat):Prop:=a.name.length≤n∧GS a.vals n
def GM (a:Md) (n:Nat):Prop:=a.name.length≤n∧GS a.vals n
def GC (c:Idn.Cl) (n:Nat):Prop:=c.name.length≤n∧c.super.length≤n∧GS c.must n∧GS c.may n
def GAs (l:List Idn.Att) (n:Nat):Prop:=l.length≤n∧∀a∈l,GA a n
def GMs (l:List Md) (n:Nat):Prop:=l.length≤n∧∀a∈l,GM a n
def GSch (s:Idn.Sch) (n:Nat):Prop:=(s.types.length≤n∧∀t∈s.types,t.name.length≤n)∧s.classes.length≤n∧∀c∈s.classes,GC c n
theorem GA.mono {a:Idn.Att} {n m:Nat} (h:GA a n) (hn:n≤m):GA a m:=⟨Nat.le_trans h.1 hn,h.2.mono hn⟩
theorem GM.mono {a:Md} {n m:Nat} (h:GM a n) (hn:n≤m):GM a m:=⟨Nat.le_trans h.1 hn,h.2.mono hn⟩
theorem GC.mono {a:Idn.Cl} {n m:Nat} (h:GC a n) (hn:n≤m):GC a m:=⟨Nat.le_trans h.1 hn,Nat.le_trans h.2.1 hn,h.2.2.1.mono hn,h.2.2.2.mono hn⟩
theorem GAs.mono {a:List Idn.Att} {n m:Nat} (h:GAs a n) (hn:n≤m):GAs a m:=⟨Nat.le_trans h.1 hn,fun x hx=>(h.2 x hx).mono hn⟩
theorem GMs.mono {a:List Md} {n m:Nat} (h:GMs a n) (hn:n≤m):GMs a m:=⟨Nat.le_trans h.1 hn,fun x hx=>(h.2 x hx).mono hn⟩
theorem GSch.mono {s:Idn.Sch} {n m:Nat} (h:GSch s n) (hn:n≤m):GSch s m:=⟨⟨Nat.le_trans h.1.1 hn,fun x hx=>Nat.le_trans (h.1.2 x hx) hn⟩,Nat.le_trans h.2.1 hn,fun x hx=>(h.2.2 x hx).mono hn⟩
theorem GSch.ssm {s:Idn.Sch} {n:Nat} (h:GSch s n) (hn:n≤1000000000):SSm s:=by
 obtain ⟨⟨h1,h2⟩,h3,h4⟩:=h
 refine ⟨⟨by omega,fun t ht=>by have:=h2 t ht;omega⟩,⟨by omega,fun c hc=>?_⟩⟩
 obtain ⟨g1,g2,g3,g4⟩:=h4 c hc
 exact ⟨by omega,by omega,⟨by have:=g3.1;omega,fun x hx=>by have:=g3.2 x hx;omega⟩,⟨by have:=g4.1;omega,fun x hx=>by have:=g4.2 x hx;omega⟩⟩
section
variable {H:Type} {enc:TypeId×Value→H} {W:World}
end
end Go.Proofs.YtbkkchhimhlhcaaGreatDoor
/- The second form's bound at entries, at filters, at the cases of identitylaw11. -/
namespace Go.Proofs.YtbkkchhimhlhcaaGreatDoor
open Go.RowKit Go.Sort Go.ChangeShapes Go.WideShapes Go.ChangeAt
open Idn (L B Bs)
def GE (x:EntP) (n:Nat):Prop:=x.1.length≤n∧GAs x.2 n
theorem GE.mono {x:EntP} {n m:Nat} (h:GE x n) (hn:n≤m):GE x m:=⟨Nat.le_trans h.1 hn,h.2.mono hn⟩
mutual
def fG (n:Nat):Flt→Prop
 |.mk _ a v ps ks=>a.length≤n∧v.length≤n∧GS ps n∧ks.length≤n∧fGs n ks
def fGs (n:Nat):List Flt→Prop
 |[]=>True
 |f :: l=>fG n f∧fGs n l
end
theorem fGs_all {n:Nat} {l:List Flt}:fGs n l↔∀f∈l,fG n f:=by
 induction l with
 |nil=>simp[fGs]
 |cons f l ih=>simp[fGs,ih]
theorem fG_mono {n m:Nat} (hn:n≤m) (f:Flt):fG n f→fG m f:=by
 induction f using Flt.ind with
 |h k a v ps ks ih=>
  intro h
  rw[fG]at h⊢
  obtain ⟨h1,h2,h3,h4,h5⟩:=h
  exact ⟨Nat.le_trans h1 hn,Nat.le_trans h2 hn,h3.mono hn,Nat.le_trans h4 hn,fGs_all.2 fun g hg=>ih g hg (fGs_all.1 h5 g hg)⟩
section
variable {H:Type} {enc:TypeId×Value→H} {W:World}
end
end Go.Proofs.YtbkkchhimhlhcaaGreatDoor
/- The second form's bound at the cases of identitylaw11. -/
namespace Go.Proofs.YtbkkchhimhlhcaaGreatDoor
open Go.RowKit Go.Sort Go.ChangeShapes Go.WideShapes Go.ChangeAt
open Idn (L B Bs)
section
variable {H:Type} {enc:TypeId×Value→H} {W:World}
end
end Go.Proofs.YtbkkchhimhlhcaaGreatDoor
/- The second form's bound at lists, at the asks of identitylaw11. -/
namespace Go.Proofs.YtbkkchhimhlhcaaGreatDoor
open Go.RowKit Go.Sort Go.ChangeShapes Go.WideShapes Go.ChangeAt
open Idn (L B Bs)
section
variable {H:Type} {enc:TypeId×Value→H} {W:World}
end
end Go.Proofs.YtbkkchhimhlhcaaGreatDoor
