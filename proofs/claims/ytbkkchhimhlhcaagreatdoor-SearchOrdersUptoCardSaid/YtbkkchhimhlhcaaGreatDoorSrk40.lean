/- Part 40 of the proof that identitylaw12.SearchChecks returns true for every data that it may be called with: proof: the package variables hold what the program lays; nothing else is asked. -/
import Derived.Test.YtbkkchhimhlhcaaGreatDoorSrk28
import Derived.Lib.SmallJoins
set_option linter.unusedVariables false
set_option linter.unusedSimpArgs false
set_option maxRecDepth 100000
set_option maxHeartbeats 16000000
/- The argument of a law: a schema, out of what it reads as. -/
namespace Go.Proofs.YtbkkchhimhlhcaaGreatDoor
open Go.RowKit Go.Sort Go.ChangeShapes Go.WideShapes Go.ChangeAt
open Idn (L B Bs drop_L take_L size_L)
theorem exList {α:Type} (Q:Nat→α→Prop):∀(n:Nat),(∀i,i<n→∃x,Q i x)→∃l:List α,l.length=n∧∀i x,l[i]?=some x→Q i x
 |0,_=>⟨[],rfl,fun i x h=>by simp at h⟩
 |n+1,h=>by
  obtain ⟨l,h1,h2⟩:=exList Q n fun i hi=>h i (by omega)
  obtain ⟨x,hx⟩:=h n (by omega)
  refine ⟨l++[x],by simp[h1],fun i y hy=>?_⟩
  by_cases hi:i<n
  ·rw[List.getElem?_append_left (by omega)]at hy
   exact h2 i y hy
  ·have hil:=(List.getElem?_eq_some_iff.1 hy).1
   simp at hil
   have:i=n:=by omega
   subst this
   rw[List.getElem?_append_right (by omega)]at hy
   simp[h1]at hy
   exact hy▸hx
theorem cellsOf_string:Tryz.prog.cellsOf 9=1:=by kernel_rfl
theorem cellsOf_strs:Tryz.prog.cellsOf 26=1:=by kernel_rfl
section
variable {H:Type} {enc:TypeId×Value→H} {W:World}
theorem strs_open {fuel:Nat} {v:Value} {x:DataW H×List MemPlace} (h:DataW.trod enc Tryz.prog W 0 (fun _=>true) true fuel 26 [v]=some x):∃l,StrsV W W.heap.size v l∧l.length≤9223372036854775807:=by
 rcases open_strings Tryz.underlying26 Tryz.underlying9 cellsOf_string h with ⟨hcs,hx⟩|⟨a,len,cap,ss,hcs,_,hl,hm,hz,hx,hcell,_⟩
 ·simp at hcs
  subst hcs
  exact ⟨[],SlV.nil _ _ _ _,by simp⟩
 ·simp at hcs
  subst hcs
  simp only[if_true]at hz
  obtain ⟨b,off,spot⟩:=a
  have hlen:((ss.take len).map L).length=len:=by simp;omega
  refine ⟨(ss.take len).map L,?_,by rw[hlen];unfold maxLen at hm;omega⟩
  refine ⟨some ⟨b,off,spot⟩,cap,by rw[hlen],by rw[hlen];exact hl,fun hp=>?_⟩
  rw[hlen]at hp
  have hspot:spot=none:=by simpa[Addr.add]using World.cell?_spot (hcell 0 (by omega))
  subst hspot
  refine ⟨b,off,rfl,World.block_lt_of_cell? _ _ (hcell 0 (by omega)),fun i y hy=>?_⟩
  rw[List.getElem?_map]at hy
  obtain ⟨t,ht,rfl⟩:=Option.map_eq_some_iff.1 hy
  refine ⟨[sv (L t)],rfl,rfl,fun j u hj=>?_⟩
  match j,hj with
  |0,hj=>
   simp at hj;subst hj
   have hil:i<len:=by
    have:=(List.getElem?_eq_some_iff.1 ht).1
    simp at this;omega
   have:=hcell i (by omega)
   rw[add_plain]at this
   rw[Nat.mul_one,Nat.add_zero,this]
   rw[List.getElem?_take_of_lt hil]at ht
   simp[sv,Idn.B_L,List.getD,ht]
end
end Go.Proofs.YtbkkchhimhlhcaaGreatDoor
/- An entry handed over: what a trodden value of api.Entry reads as. -/
namespace Go.Proofs.YtbkkchhimhlhcaaGreatDoor
open Go.RowKit Go.Sort Go.ChangeShapes Go.WideShapes Go.ChangeAt
open Idn (L B Bs)
section
variable {H:Type} {enc:TypeId×Value→H} {W:World}
end
end Go.Proofs.YtbkkchhimhlhcaaGreatDoor
