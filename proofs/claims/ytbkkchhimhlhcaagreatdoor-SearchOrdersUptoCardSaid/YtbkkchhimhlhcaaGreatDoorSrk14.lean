/- Part 14 of the proof that identitylaw12.SearchChecks returns true for every data that it may be called with: proof: the package variables hold what the program lays; nothing else is asked. -/
import Derived.Test.YtbkkchhimhlhcaaGreatDoorSrk09
import Derived.Test.YtbkkchhimhlhcaaGreatDoorSrk10
import Derived.Test.YtbkkchhimhlhcaaGreatDoorSrk11
import Derived.Test.YtbkkchhimhlhcaaGreatDoorSrk12
import Derived.Test.YtbkkchhimhlhcaaGreatDoorSrk13
set_option linter.unusedVariables false
set_option linter.unusedSimpArgs false
set_option maxRecDepth 100000
set_option maxHeartbeats 16000000
/- schema.Lineage. -/
namespace Go.Proofs.YtbkkchhimhlhcaaGreatDoor
open Go.RowKit Go.Sort
open Idn (L B Bs drop_L take_L size_L)
end Go.Proofs.YtbkkchhimhlhcaaGreatDoor
/- schema: must, may, Must, May. -/
namespace Go.Proofs.YtbkkchhimhlhcaaGreatDoor
open Go.RowKit Go.Sort
open Idn (L B Bs drop_L take_L size_L)
theorem flat_len {α:Type} (f:α→List Bs) (c:Nat):∀(l:List α),(∀x∈l,(f x).length≤c)→(l.flatMap f).length≤l.length*c
 |[],_=>by simp
 |x :: l,h=>by
  have:=flat_len f c l (fun y hy=>h y (List.mem_cons_of_mem _ hy))
  have h0:=h x List.mem_cons_self
  simp only[List.flatMap_cons,List.length_append,List.length_cons]
  rw[Nat.add_mul];omega
def flatK (f:Idn.Cl→List Bs) (l:List Idn.Cl) (k:Nat):List Bs:=(l.take k).flatMap f
theorem sorted_len (l:List Bs):(sorted l).length=l.length:=by simp[sorted]
theorem own_lt {w:World} {base:Nat} {e:TypeId} {size:Nat} {v:Value} {n:Nat} {xs:List Value} (h:w.ownsRow base e size v n xs) {g:Nat} (hg:v.ownBlock=some g):g<w.heap.size:=(h.lt g hg).2
theorem LinV.shape {w:World} {base hi:Nat} {v:Value} {l:List Idn.Cl} (h:LinV w base hi v l):∃A c,v=.slice A l.length c:=by
 obtain ⟨xs,h1,_⟩:=h
 exact own_shape h1
theorem LinV.cell {w : World} {base hi : Nat} {A : Option Addr} {n c : Nat} {l : List Idn.Cl} (h : LinV w base hi (.slice A n c) l) {k : Nat} (hk : k < l.length) :
  ∃g vm vn,A=some ⟨g,0,none⟩∧g<w.heap.size∧w.cell? ⟨g,k*4,none⟩=some (.string (B l[k].name))∧w.cell? ⟨g,k*4+1,none⟩=some (.string (B l[k].super))∧w.cell? ⟨g,k*4+2,none⟩=some vm∧w.cell? ⟨g,k*4+3,none⟩=some vn∧StrsV w hi vm l[k].must∧StrsV w hi vn l[k].may:=by
 obtain ⟨xs,h1,h2⟩:=h
 obtain ⟨g,cap,cur,hv,_,hgg,_⟩:∃g cap cur,Value.slice A n c=.slice (some ⟨g,0,none⟩) l.length cap∧base≤g∧w.heap[g]?=some (.cells cur 91 (0,0))∧True:=by
  rcases h1.2 with ⟨_,hn⟩|⟨g,cap,cur,hv,hb',hgg,rest⟩
  ·omega
  ·exact ⟨g,cap,cur,hv,hb',hgg,trivial⟩
 have hlt:=(Array.getElem?_eq_some_iff.1 hgg).1
 injection hv with hv
 subst hv
 obtain ⟨cs,h3,⟨v,u,h4,hv,hu⟩,h5⟩:=h2 k l[k] (List.getElem?_eq_getElem hk)
 subst h4
 have hc:=h1.cells (g:=g) rfl
 have e:∀j,((⟨g,0,none⟩:Addr).add j)=⟨g,j,none⟩:=fun j=>by unfold Addr.add;split<;>simp_all
 have h6:=fun (j:Nat) (u:Value) (hj)=>(e (k*4+j))▸hc (k*4+j) u (h5 j u hj)
 exact ⟨g,v,u,rfl,hlt,h6 0 _ rfl,h6 1 _ rfl,h6 2 _ rfl,h6 3 _ rfl,hv,hu⟩
theorem LinV.grown {w w':World} {base hi:Nat} {A:Option Addr} {n c:Nat} {l:List Idn.Cl} (h:LinV w base hi (.slice A n c) l) {row:Option Nat} (hg:w.grownBy w' row) (hs:∀g,row=some g→A≠some ⟨g,0,none⟩) (hb:Below hi w w'):LinV w' base hi (.slice A n c) l:=by
 obtain ⟨xs,h1,h2⟩:=h
 refine ⟨xs,⟨h1.1,?_⟩,fun i x hx=>?_⟩
 ·rcases h1.2 with hn|⟨g,cap,cur,hv,hb',hgg,rest⟩
  ·exact .inl hn
  ·injection hv with hv1 hv2 hv3
   subst hv1
   exact .inr ⟨g,cap,cur,by rw[hv2,hv3],hb',by rw[hg.block g (Array.getElem?_eq_some_iff.1 hgg).1 (fun e=>hs g e.symm rfl)];exact hgg,rest⟩
 ·obtain ⟨cs,h3,h4,h5⟩:=h2 i x hx
  exact ⟨cs,h3,h4.keep hb,h5⟩
end Go.Proofs.YtbkkchhimhlhcaaGreatDoor
/- schema: Text. -/
namespace Go.Proofs.YtbkkchhimhlhcaaGreatDoor
open Go.RowKit Go.Sort
open Idn (L B Bs drop_L take_L size_L)
theorem strCells_B (a:Bs):Lib.strCells (B a)=Lib.byteCells a:=by simp[Lib.strCells,Lib.byteCells,B]
theorem byteCells_app (a b:Bs):Lib.byteCells (a++b)=Lib.byteCells a++Lib.byteCells b:=by simp[Lib.byteCells]
theorem Bld.keep {lo b:Nat} {bs:List Value} {w w':World} (h:Bld lo b bs w) (hb:Below w.heap.size w w'):Bld lo b bs w':=by
 have key:∀p,Lib.BuilderAtF 239 5 lo b p bs w→Lib.BuilderAtF 239 5 lo b p bs w':=by
  rintro p ⟨hB,v,hbk,hown,hne⟩
  refine ⟨hB,v,(hb.block b (Array.getElem?_eq_some_iff.1 hbk).1).trans hbk,⟨hown.1,?_⟩,hne⟩
  rcases hown.2 with hn|⟨g,cap,cur,fz,hv,hb',hgg,rest⟩
  ·exact .inl hn
  ·exact .inr ⟨g,cap,cur,fz,hv,hb',(hb.block g (Array.getElem?_eq_some_iff.1 hgg).1).trans hgg,rest⟩
 rcases h with h|h
 ·exact .inl (key _ h)
 ·exact .inr (key _ h)
theorem Bld.new (w:World):Bld w.heap.size w.heap.size [] (w.alloc (.cells #[.pointer none,.slice none 0 0] 239)):=
 Lib.IsBuilderF.of (Lib.fresh_isBuilder _ _ _)
theorem Bld.bytes {lo b:Nat} {a:Bs} {s:ByteArray} {w:World} (h:Bld lo b (Lib.byteCells a++Lib.strCells s) w):Bld lo b (Lib.byteCells (a++L s)) w:=by
 rw[byteCells_app,←strCells_B];exact h
theorem byteCells_len (a:Bs):(Lib.byteCells a).length=a.length:=by simp[Lib.byteCells]
end Go.Proofs.YtbkkchhimhlhcaaGreatDoor
/- identityref07: lower. -/
namespace Go.Proofs.YtbkkchhimhlhcaaGreatDoor
open Go.RowKit Go.Sort
open Idn (L B Bs drop_L take_L size_L)
theorem SlV.cutFrom {α : Type} {E : α → List Value → Prop} {w : World} {hi size n c : Nat} {l : List α} {A : Option Addr} (h : SlV E w hi size (.slice A n c) l) (k : Nat) (hk : k ≤ l.length) :
  SlV E w hi size (.slice (if c=k then A else A.map (·.add (k*size))) (n-k) (c-k)) (l.drop k):=by
 obtain ⟨A',c',hv,hc,h⟩:=h
 injection hv with hA hn hcc
 subst hA hcc hn
 refine ⟨_,_,by rw[List.length_drop],by rw[List.length_drop];omega,fun hp=>?_⟩
 rw[List.length_drop]at hp
 obtain ⟨b,off,hA,hb,hx⟩:=h (by omega)
 subst hA
 refine ⟨b,off+k*size,?_,hb,fun i x hix=>?_⟩
 ·rw[if_neg (by omega)]
  simp only[Option.map_some,Addr.add]
  split
  ·rename_i e;rw[e];rfl
  ·rfl
 ·rw[List.getElem?_drop]at hix
  obtain ⟨cs,h1,h2,h3⟩:=hx (k+i) x hix
  refine ⟨cs,h1,h2,fun j u hj=>?_⟩
  have:=h3 j u hj
  rw[show off+k*size+(i*size+j)=off+((k+i)*size+j) by rw[Nat.add_mul];omega]
  exact this
theorem insS_len (n:Bs):∀l,(Idn.insS n l).length≤l.length+1
 |[]=>by simp[Idn.insS]
 |y :: l=>by
  have:=insS_len n l
  unfold Idn.insS
  split
  ·simp;omega
  ·split<;>simp
end Go.Proofs.YtbkkchhimhlhcaaGreatDoor
/- identityref07: lineage, Lineage, Must, May: plain facts, rows of ints, appends in a region that draws. -/
namespace Go.Proofs.YtbkkchhimhlhcaaGreatDoor
open Go.RowKit Go.Sort
open Idn (L B Bs drop_L take_L size_L)
def iv (k:Nat):Value:=.int .i64 (k:Int)
def EI (x:Nat) (cs:List Value):Prop:=cs=[iv x]
abbrev IntsV (w:World) (hi:Nat) (v:Value) (l:List Nat):Prop:=SlV EI w hi 1 v l
theorem IntsV.of_own {w:World} {base:Nat} {v:Value} {l:List Nat} {e:TypeId} (h:w.ownsRow base e 1 v l.length (l.map iv)):IntsV w w.heap.size v l:=
 SlV.own h fun i x hx=>⟨[iv x],rfl,rfl,fun j u hu=>by
  match j,hu with
  |0,hu=>simp at hu;subst hu;simp[hx]⟩
theorem IntsV.cell {w : World} {hi : Nat} {A : Option Addr} {n c : Nat} {l : List Nat} (h : IntsV w hi (.slice A n c) l) {k : Nat} (hk : k < l.length) :
  ∃b off,A=some ⟨b,off,none⟩∧b<hi∧w.cell? ⟨b,off+k,none⟩=some (.int .i64 (l[k]:Int)):=by
 obtain ⟨b,off,hA,hb,cs,h1,h2,h3⟩:=h.at_ hk
 cases h2
 exact ⟨b,off,hA,hb,by simpa[iv]using h3 0 _ rfl⟩
theorem run_push {P : Program} {w : World} (t ty : TypeId) (base : Nat) (e : TypeId) (z : Value) (size bytes : Nat) (ht : P.underlying t = some (.slice e)) (hinf : (P.info? e).map (fun i => (i.zero, i.size, i.bytes)) = some (some z, size, bytes)) (hzs : z.cells.size = size) (hsz : 0 < size)
    (v:Value) (n:Nat) (xs:List Value) (hown:w.ownsRow base e size v n xs) (cs:List Value) (hl:cs.length=size)
    (h1:∀u∈cs,u.oneCell'=true) (hn:(n+1)*(bytes+1)≤140737488355328) (hbase:base≤w.heap.size) :
    ∃v' w',(Builtin.append_ #[t,t] ty #[v,.slice (some ⟨w.heap.size,0,none⟩) 1 1]).run P (w.alloc (.cells cs.toArray e))=.ok v' w'∧w'.ownsRow base e size v' (n+1) (xs++cs)∧w.grownBy w' v.ownBlock∧(v'.ownBlock=v.ownBlock∨v'.ownBlock=some (w.heap.size+1)):=by
 obtain ⟨i,hi,hz0,hz1,hz2⟩:=info_parts hinf
 have hmul:(n+1)*bytes+(n+1)≤140737488355328:=by rw[Nat.mul_add]at hn;omega
 obtain ⟨v',w',hrun,h2,h3,_,h5⟩:=run_append_own_at (P:=P) (w.alloc (.cells cs.toArray e)) base t ty e i z size bytes ht hi hz0 hz1 hz2 hzs hsz v n xs (hown.alloc _) ⟨w.heap.size,0,none⟩ 1 1 cs (by simpa using hl) (by
  intro j u hu
  have hadd:(⟨w.heap.size,0,none⟩:Addr).add j=⟨w.heap.size,j,none⟩:=by unfold Addr.add;split<;>simp_all
  rw[hadd,cell_of_row _ w.heap.size j cs.toArray e (0,0) (heap_alloc_new w _)]
  simpa using hu) h1 (by unfold maxLen;omega) (by omega) (by simp;omega)
 exact ⟨v',w',hrun,h2,(World.grownBy_alloc w _ _).trans h3,by simpa using h5⟩
theorem step_push {P : Program} {ops : Array Oper} {o : Oper} {a : Act} {w w2 : World} {K : Act → World → Prop} {Q : Exit → Act → World → Prop} {E : Prop}
  (hgd:o.guard=none) (s x:Operand) (t:TypeId) (ho:o.op=.call { callee:=.builtin .append,args:=#[s,x],argTypes:=#[t,t] })
  (base:Nat) (e:TypeId) (z:Value) (size bytes:Nat) (ht:P.underlying t=some (.slice e)) (hinf:(P.info? e).map (fun i=>(i.zero,i.size,i.bytes))=some (some z,size,bytes)) (hzs:z.cells.size=size) (hsz:0<size)
  (v:Value) (n:Nat) (xs:List Value) (hown:w.ownsRow base e size v n xs) (hs:a.eval s=v) (cs:List Value) (hx:a.eval x=.slice (some ⟨w.heap.size,0,none⟩) 1 1) (hl:cs.length=size)
  (h1:∀u∈cs,u.oneCell'=true) (hn:(n+1)*(bytes+1)≤140737488355328) (hbase:base≤w.heap.size)
  (hK:∀v' w',w'.ownsRow base e size v' (n+1) (xs++cs)→w.grownBy w' v.ownBlock→(v'.ownBlock=v.ownBlock∨v'.ownBlock=some (w.heap.size+1))→K (a.put o.dst v') w') (hw2:w2=w.alloc (.cells cs.toArray e)) :
  if Region.wanted o (yielded ops a.tmps)=true then Oper.wp P o a w2 K Q else E:=by
 have hw:Region.wanted o (yielded ops a.tmps)=true:=by simp[Region.wanted,hgd]
 rw[if_pos hw]
 subst hw2
 obtain ⟨v',w',hrun,g1,g2,g3⟩:=run_push (P:=P) t o.type base e z size bytes ht hinf hzs hsz v n xs hown cs hl h1 hn hbase
 unfold Oper.wp execOp
 simp only[ho,resolve,invoke,builtin,Sem.run_bind,Sem.run_pure,Result.andThen_ok,List.map_toArray,List.map_cons,List.map_nil,hs,hx,hrun]
 exact hK v' w' g1 g2 g3
end Go.Proofs.YtbkkchhimhlhcaaGreatDoor
/- identityref07: lineage, Lineage. -/
namespace Go.Proofs.YtbkkchhimhlhcaaGreatDoor
open Go.RowKit Go.Sort
open Idn (L B Bs drop_L take_L size_L)
end Go.Proofs.YtbkkchhimhlhcaaGreatDoor
/- identityref07: Must, May. -/
namespace Go.Proofs.YtbkkchhimhlhcaaGreatDoor
open Go.RowKit Go.Sort
open Idn (L B Bs drop_L take_L size_L)
theorem SlV.grown {α:Type} {E:α→List Value→Prop} {w w':World} {hi size n c:Nat} {A:Option Addr} {l:List α} {row:Option Nat} (h:SlV E w hi size (.slice A n c) l) (hg:w.grownBy w' row) (hs:∀b off,A=some ⟨b,off,none⟩→row≠some b) (hh:hi≤w.heap.size):SlV E w' hi size (.slice A n c) l:=by
 obtain ⟨A',c',e,h1,h2⟩:=h
 injection e with e1 e2 e3
 subst e1
 refine ⟨A,c',by rw[e2,e3],h1,fun hp=>?_⟩
 obtain ⟨b,off,hA,hb,hx⟩:=h2 hp
 refine ⟨b,off,hA,hb,fun i x hix=>?_⟩
 obtain ⟨cs,h3,h4,h5⟩:=hx i x hix
 exact ⟨cs,h3,h4,fun j u hj=>(World.cell?_of_block (w:=w) (hg.block b (by omega) (fun e=>hs b off hA e.symm))).trans (h5 j u hj)⟩
end Go.Proofs.YtbkkchhimhlhcaaGreatDoor
