/- Part 12 of the proof that identitylaw12.SearchChecks returns true for every data that it may be called with: proof: the package variables hold what the program lays; nothing else is asked. -/
import Derived.Test.YtbkkchhimhlhcaaGreatDoorSrk03
import Derived.Deep.RegionLaw
set_option linter.unusedVariables false
set_option linter.unusedSimpArgs false
set_option maxRecDepth 100000
set_option maxHeartbeats 16000000
/- 'append(out, l...)' at strings, in a region that draws its order. -/
namespace Go.Proofs.YtbkkchhimhlhcaaGreatDoor
open Go.RowKit
open Idn (L B Bs drop_L take_L size_L)
theorem run_appendS {P : Program} {w : World} (t ty : TypeId)
    (base:Nat) (e:TypeId) (ht:P.underlying t=some (.slice e)) (hinf:(P.info? e).map (fun i=>(i.zero,i.size,i.bytes))=some (some (.string ⟨#[]⟩),1,16))
    (v:Value) (n:Nat) (xs:List Value) (hown:w.ownsRow base e 1 v n xs) (u:Value) (l:List Bs) (hi:Nat) (hu:StrsV w hi u l)
    (hn:(n+l.length)*17≤140737488355328) (hbase:base≤w.heap.size) :
    ∃v' w',(Builtin.append_ #[t,t] ty #[v,u]).run P w=.ok v' w'∧w'.ownsRow base e 1 v' (n+l.length) (xs++l.map sv)∧w.grownBy w' v.ownBlock∧(v'.ownBlock=v.ownBlock∨v'.ownBlock=some w.heap.size):=by
 obtain ⟨i,hi',hz0,hz1,hz2⟩:=info_parts hinf
 obtain ⟨A,c,rfl,hc⟩:=SlV.shape hu
 by_cases hl:l.length=0
 ·have hl0:l=[]:=List.eq_nil_of_length_eq_zero hl
  subst hl0
  exact ⟨v,w,run_append_nilsrc (P:=P) (w:=w) base t ty e i 1 ht hi' v n xs hown A c,by simpa using hown,World.grownBy.refl w _,.inl rfl⟩
 ·obtain ⟨b,off,hA,_,_⟩:=hu.at_ (k:=0) (by omega)
  subst hA
  obtain ⟨v',w',hrun,h2,h3,_,h5⟩:=run_append_own_at (P:=P) w base t ty e i (.string ⟨#[]⟩) 1 16 ht hi' hz0 hz1 hz2 rfl (by decide) v n xs hown ⟨b,off,none⟩ l.length c (l.map sv) (by simp) (by
   intro j q hj
   rw[List.getElem?_map]at hj
   obtain ⟨y,hy,rfl⟩:=Option.map_eq_some_iff.1 hj
   obtain ⟨hjl,rfl⟩:=List.getElem?_eq_some_iff.1 hy
   obtain ⟨b',off',hA',_,hcc⟩:=StrsV.cell hu hjl
   injection hA' with hA'
   injection hA' with h1 h2
   subst h1 h2
   have hadd:(⟨b,off,none⟩:Addr).add j=⟨b,off+j,none⟩:=by unfold Addr.add;split<;>simp_all
   rw[hadd]
   exact hcc) (by
   intro q hq
   obtain ⟨y,_,rfl⟩:=List.mem_map.1 hq
   rfl) (by unfold maxLen;omega) (by omega) hbase
  exact ⟨v',w',hrun,h2,h3,h5⟩
theorem step_appendS {P : Program} {ops : Array Oper} {o : Oper} {a : Act} {w : World} {K : Act → World → Prop} {Q : Exit → Act → World → Prop} {E : Prop}
  (hgd:o.guard=none) (s x:Operand) (t:TypeId) (ho:o.op=.call { callee:=.builtin .append,args:=#[s,x],argTypes:=#[t,t] })
  (base:Nat) (e:TypeId) (ht:P.underlying t=some (.slice e)) (hinf:(P.info? e).map (fun i=>(i.zero,i.size,i.bytes))=some (some (.string ⟨#[]⟩),1,16))
  (v:Value) (n:Nat) (xs:List Value) (hown:w.ownsRow base e 1 v n xs) (hs:a.eval s=v) (u:Value) (l:List Bs) (hi:Nat) (hu:StrsV w hi u l) (hx:a.eval x=u)
  (hn:(n+l.length)*17≤140737488355328) (hbase:base≤w.heap.size)
  (hK:∀v' w',w'.ownsRow base e 1 v' (n+l.length) (xs++l.map sv)→w.grownBy w' v.ownBlock→(v'.ownBlock=v.ownBlock∨v'.ownBlock=some w.heap.size)→K (a.put o.dst v') w') :
  if Region.wanted o (yielded ops a.tmps)=true then Oper.wp P o a w K Q else E:=by
 have hw:Region.wanted o (yielded ops a.tmps)=true:=by simp[Region.wanted,hgd]
 rw[if_pos hw]
 obtain ⟨v',w',hrun,h1,h2,h3⟩:=run_appendS (P:=P) t o.type base e ht hinf v n xs hown u l hi hu hn hbase
 unfold Oper.wp execOp
 simp only[ho,resolve,invoke,builtin,Sem.run_bind,Sem.run_pure,Result.andThen_ok,List.map_toArray,List.map_cons,List.map_nil,hs,hx,hrun]
 exact hK v' w' h1 h2 h3
end Go.Proofs.YtbkkchhimhlhcaaGreatDoor
