/- The last part of the proof that identitylaw12.SearchOrders returns true for every data that it may be called with: proof: the package variables hold what the program lays; nothing else is asked. -/
import Derived.Test.YtbkkchhimhlhcaaGreatDoorSrk50
set_option linter.unusedVariables false
set_option linter.unusedSimpArgs false
set_option maxRecDepth 100000
set_option maxHeartbeats 16000000
/- The argument of a law: a schema, out of what it reads as. -/
namespace Go.Proofs.YtbkkchhimhlhcaaGreatDoor
open Go.RowKit Go.Sort Go.ChangeShapes Go.WideShapes Go.ChangeAt
open Idn (L B Bs drop_L take_L size_L)
theorem cellsOf_syn:Tryz.prog.cellsOf 87=1:=by kernel_rfl
theorem cellsOf_bool:Tryz.prog.cellsOf 4=1:=by kernel_rfl
theorem cellsOf_AT:Tryz.prog.cellsOf 89=3:=by kernel_rfl
theorem cellsOf_CL:Tryz.prog.cellsOf 91=4:=by kernel_rfl
section
variable {H:Type} {enc:TypeId×Value→H} {W:World}
end
end Go.Proofs.YtbkkchhimhlhcaaGreatDoor
/- An entry handed over: what a trodden value of api.Entry reads as. -/
namespace Go.Proofs.YtbkkchhimhlhcaaGreatDoor
open Go.RowKit Go.Sort Go.ChangeShapes Go.WideShapes Go.ChangeAt
open Idn (L B Bs)
theorem cellsOf_Att:Tryz.prog.cellsOf 96=2:=by kernel_rfl
section
variable {H:Type} {enc:TypeId×Value→H} {W:World}
end
end Go.Proofs.YtbkkchhimhlhcaaGreatDoor
/- What the second form's bound gives: arguments of small bulk read as short lists of short strings. -/
namespace Go.Proofs.YtbkkchhimhlhcaaGreatDoor
open Go.RowKit Go.Sort Go.ChangeShapes Go.WideShapes Go.ChangeAt
open Idn (L B Bs)
section
variable {H:Type}
theorem bk_one (d:DataW H):1≤Rows.uptoBulk d:=by
 cases d with
 |lit l=>cases l<;>simp[Rows.uptoBulk]
 |nil=>simp[Rows.uptoBulk]
 |ptr d=>simp[Rows.uptoBulk]
 |slice elems spare=>simp[Rows.uptoBulk]
 |agg parts=>simp[Rows.uptoBulk]
 |iface t d=>simp[Rows.uptoBulk]
 |map entries=>simp[Rows.uptoBulk]
 |held h=>simp[Rows.uptoBulk]
theorem bk_part {d:DataW H} {l:List (DataW H)} (h:d∈l):Rows.uptoBulk d≤Rows.uptoBulkAll l:=by
 induction l with
 |nil=>cases h
 |cons x r ih=>
  simp only[Rows.uptoBulkAll]
  cases List.mem_cons.1 h with
  |inl e=>subst e;omega
  |inr e=>have:=ih e;omega
theorem bk_len (l:List (DataW H)):l.length≤Rows.uptoBulkAll l:=by
 induction l with
 |nil=>simp[Rows.uptoBulkAll]
 |cons x r ih=>have:=bk_one x;simp only[Rows.uptoBulkAll,List.length_cons];omega
theorem bk_slice (elems spare:List (DataW H)):Rows.uptoBulkAll elems≤Rows.uptoBulk (.slice elems spare):=by
 simp only[Rows.uptoBulk];omega
theorem bk_str (bytes:List UInt8):bytes.length≤Rows.uptoBulk (DataW.lit (H:=H) (.string bytes)):=by
 simp[Rows.uptoBulk]
theorem bk_agg {d:DataW H} {parts:List (DataW H)} (h:d∈parts):Rows.uptoBulk d≤Rows.uptoBulk (.agg parts):=by
 have:=bk_part h
 simp only[Rows.uptoBulk];omega
theorem bk_bound {l:List (DataW H)} (hk:Rows.uptoSmall H l=true):∀d∈l,Rows.uptoBulk d≤1048576:=by
 have h:Rows.uptoBulkAll l≤1048576:=of_decide_eq_true hk
 intro d hd
 exact Nat.le_trans (bk_part hd) h
end
section
variable {H:Type} {enc:TypeId×Value→H} {W:World}
theorem strs_openB {fuel:Nat} {v:Value} {x:DataW H×List MemPlace} (h:DataW.trod enc Tryz.prog W 0 (fun _=>true) true fuel 26 [v]=some x):∃l,StrsV W W.heap.size v l∧GS l (Rows.uptoBulk x.1):=by
 rcases open_strings Tryz.underlying26 Tryz.underlying9 cellsOf_string h with ⟨hcs,hx⟩|⟨a,len,cap,ss,hcs,_,hl,hm,hz,hx,hcell,_⟩
 ·simp at hcs
  subst hcs
  exact ⟨[],SlV.nil _ _ _ _,by simp,by simp⟩
 ·simp at hcs
  subst hcs
  simp only[if_true]at hz
  obtain ⟨b,off,spot⟩:=a
  have hlen:((ss.take len).map L).length=len:=by simp;omega
  refine ⟨(ss.take len).map L,?_,?_⟩
  case refine_2=>
   subst hx
   have k1:=bk_slice (H:=H) (strs (ss.take len)) (strs (ss.drop len))
   refine ⟨?_,fun y hy=>?_⟩
   ·have k2:=bk_len (H:=H) (strs (ss.take len))
    rw[List.length_map]
    simp only[strs,List.length_map]at k2
    exact Nat.le_trans k2 k1
   ·obtain ⟨t,ht,rfl⟩:=List.mem_map.1 hy
    have k3:(DataW.lit (.string t.data.toList):DataW H)∈strs (ss.take len):=List.mem_map.2 ⟨t,ht,rfl⟩
    exact Nat.le_trans (bk_str (H:=H) _) (Nat.le_trans (bk_part k3) k1)
  refine ⟨some ⟨b,off,spot⟩,cap,by rw[hlen],by rw[hlen];exact hl,fun hp=>?_⟩
  rw[hlen]at hp
  have hspot:spot=none:=by simpa[Addr.add]using World.cell?_spot (hcell 0 (by omega))
  subst hspot
  refine ⟨b,off,rfl,World.block_lt_of_cell? _ _ (hcell 0 (by omega)),fun i y hy=>?_⟩
  rw[List.getElem?_map]at hy
  obtain ⟨t,ht,rfl⟩:=Option.map_eq_some_iff.1 hy
  refine ⟨[sv (L t)],rfl,rfl,fun j u hj=>?_⟩
  match j,hj with
  |0,hj=>
   simp at hj;subst hj
   have hil:i<len:=by
    have:=(List.getElem?_eq_some_iff.1 ht).1
    simp at this;omega
   have:=hcell i (by omega)
   rw[add_plain]at this
   rw[Nat.mul_one,Nat.add_zero,this]
   rw[List.getElem?_take_of_lt hil]at ht
   simp[sv,Idn.B_L,List.getD,ht]
theorem sl_openB {α : Type} {E : α → List Value → Prop} {G : α → Nat → Prop} (hG : ∀ z n m, G z n → n ≤ m → G z m) {size : Nat} {t e : TypeId} {fuel : Nat} {v : Value} {x : DataW H × List MemPlace} (ht : Tryz.prog.underlying t = some (.slice e)) (hsz : Tryz.prog.cellsOf e = size) (hpos : 0 < size)
  (h:DataW.trod enc Tryz.prog W 0 (fun _=>true) true fuel t [v]=some x)
  (hE:∀(cs:List Value) (n:Nat) (y:DataW H×List MemPlace),DataW.trod enc Tryz.prog W 0 (fun _=>true) true n e cs=some y→∃z:α,cs.length=size∧E z cs∧G z (Rows.uptoBulk y.1)):∃l,SlV E W W.heap.size size v l∧l.length≤Rows.uptoBulk x.1∧∀z∈l,G z (Rows.uptoBulk x.1):=by
 rcases Go.Deep.open_slice ht h with ⟨hcs,hx⟩|⟨a,len,cap,m,n,D,Pl,hcs,_,hl,hm,hmm,hx,hel⟩
 ·simp at hcs
  subst hcs
  exact ⟨[],SlV.nil _ _ _ _,by simp,by simp⟩
 ·simp at hcs
  subst hcs
  simp only[if_true]at hmm
  have k1:=bk_slice (H:=H) ((List.range len).map D) ((List.range (m-len)).map fun j=>D (len+j))
  obtain ⟨l,hl1,hl2⟩:=exList (fun i (z:α)=>(∃cs,W.cells? 0 (a.add (i*size)) size=some cs∧cs.length=size∧E z cs)∧G z (Rows.uptoBulk (.slice ((List.range len).map D) ((List.range (m-len)).map fun j=>D (len+j)):DataW H))) len fun i hi=>by
   obtain ⟨cs,h1,h2⟩:=hel i (by omega)
   rw[hsz]at h1
   obtain ⟨z,h3,h4,h5⟩:=hE cs n _ h2
   refine ⟨z,⟨cs,h1,h3,h4⟩,hG _ _ _ h5 (Nat.le_trans (bk_part ?_) k1)⟩
   exact List.mem_map.2 ⟨i,List.mem_range.2 hi,rfl⟩
  refine ⟨l,⟨some a,cap,by rw[hl1],by rw[hl1];exact hl,fun hp=>?_⟩,?_,?_⟩
  case refine_2=>
   subst hx
   have k2:=bk_len (H:=H) ((List.range len).map D)
   rw[List.length_map,List.length_range]at k2
   rw[hl1]
   exact Nat.le_trans k2 k1
  case refine_3=>
   subst hx
   intro z hz
   obtain ⟨i,hi,rfl⟩:=List.getElem_of_mem hz
   exact (hl2 i _ (List.getElem?_eq_getElem hi)).2
  obtain ⟨b,off,spot⟩:=a
  obtain ⟨z0,hz0⟩:∃z,l[0]?=some z:=⟨_,List.getElem?_eq_getElem hp⟩
  obtain ⟨⟨cs0,h0,h0l,_⟩,_⟩:=hl2 0 z0 hz0
  have hc0:=(World.cells?_some h0).2.2 0 (by omega)
  have hv0:∃u,cs0[0]?=some u:=⟨_,List.getElem?_eq_getElem (by omega)⟩
  obtain ⟨u0,hu0⟩:=hv0
  rw[hu0]at hc0
  have hspot:spot=none:=by simpa[Addr.add]using World.cell?_spot hc0
  subst hspot
  rw[add_plain,add_plain]at hc0
  refine ⟨b,off,rfl,World.block_lt_of_cell? _ _ hc0,fun i z hz=>?_⟩
  obtain ⟨⟨cs,h1,h2,h3⟩,_⟩:=hl2 i z hz
  refine ⟨cs,h2,h3,fun j u hj=>?_⟩
  have hjl:=(List.getElem?_eq_some_iff.1 hj).1
  have:=(World.cells?_some h1).2.2 j (by omega)
  rw[hj,add_plain,add_plain]at this
  rw[←Nat.add_assoc];exact this
theorem bk_a2 (a b:DataW H):Rows.uptoBulk a≤Rows.uptoBulk (.agg [a,b])∧Rows.uptoBulk b≤Rows.uptoBulk (.agg [a,b]):=⟨bk_agg (by simp),bk_agg (by simp)⟩
theorem bk_a3 (a b c:DataW H):Rows.uptoBulk a≤Rows.uptoBulk (.agg [a,b,c])∧Rows.uptoBulk b≤Rows.uptoBulk (.agg [a,b,c])∧Rows.uptoBulk c≤Rows.uptoBulk (.agg [a,b,c]):=⟨bk_agg (by simp),bk_agg (by simp),bk_agg (by simp)⟩
theorem bk_a4 (a b c d:DataW H):Rows.uptoBulk a≤Rows.uptoBulk (.agg [a,b,c,d])∧Rows.uptoBulk b≤Rows.uptoBulk (.agg [a,b,c,d])∧Rows.uptoBulk c≤Rows.uptoBulk (.agg [a,b,c,d])∧Rows.uptoBulk d≤Rows.uptoBulk (.agg [a,b,c,d]):=⟨bk_agg (by simp),bk_agg (by simp),bk_agg (by simp),bk_agg (by simp)⟩
theorem bk_of {x:ByteArray} {y:DataW H×List MemPlace} (h:y=(.lit (.string x.data.toList),[])):(L x).length≤Rows.uptoBulk y.1:=by
 subst h
 exact bk_str (H:=H) _
theorem types_openB {fuel:Nat} {v:Value} {x:DataW H×List MemPlace} (h:DataW.trod enc Tryz.prog W 0 (fun _=>true) true fuel 22 [v]=some x):∃l,TypesV W W.heap.size v l∧l.length≤Rows.uptoBulk x.1∧∀t∈l,t.name.length≤Rows.uptoBulk x.1:=by
 refine sl_openB (E:=ET) (G:=fun t n=>t.name.length≤n) (fun _ _ _ h1 h2=>Nat.le_trans h1 h2) Tryz.underlying22 cellsOf_AT (by decide) h fun cs n y hy=>?_
 obtain ⟨y0,y1,y2,m,hyy,hl,h0,h1,h2⟩:=Go.Deep.trod_struct3 Tryz.underlying89 hy
 rw[cellsOf_AT]at hl
 match cs,hl with
 |[a,b,c],_=>
  obtain ⟨s,e0,f0,_⟩:=DataW.trod_string Tryz.underlying9 h0
  obtain ⟨k,e1,_,_⟩:=DataW.trod_int Tryz.underlying87 h1
  obtain ⟨d,e2,_⟩:=DataW.trod_bool Tryz.underlying4 h2
  simp[cellsOf_string]at e0
  simp[cellsOf_syn]at e1
  simp[cellsOf_bool]at e2
  subst e0 e1 e2
  refine ⟨⟨L s,k,d⟩,rfl,by simp[ET,sv,Idn.B_L],?_⟩
  subst hyy
  exact Nat.le_trans (bk_of f0) (bk_a3 _ _ _).1
theorem classes_openB {fuel:Nat} {v:Value} {x:DataW H×List MemPlace} (h:DataW.trod enc Tryz.prog W 0 (fun _=>true) true fuel 23 [v]=some x):∃l,ClassesV W W.heap.size v l∧l.length≤Rows.uptoBulk x.1∧∀c∈l,GC c (Rows.uptoBulk x.1):=by
 refine sl_openB (E:=EC W W.heap.size) (G:=GC) (fun _ _ _ h1 h2=>h1.mono h2) Tryz.underlying23 cellsOf_CL (by decide) h fun cs n y hy=>?_
 obtain ⟨y0,y1,y2,y3,m,hyy,hl,h0,h1,h2,h3⟩:=Go.Joins.trod_struct4 Tryz.underlying91 hy
 rw[cellsOf_CL]at hl
 match cs,hl with
 |[a,b,c,d],_=>
  obtain ⟨s,e0,f0,_⟩:=DataW.trod_string Tryz.underlying9 h0
  obtain ⟨t,e1,f1,_⟩:=DataW.trod_string Tryz.underlying9 h1
  simp[cellsOf_string]at e0 e1
  subst e0 e1
  have h2':DataW.trod enc Tryz.prog W 0 (fun _=>true) true m 26 [c]=some y2:=by simpa[cellsOf_strs]using h2
  have h3':DataW.trod enc Tryz.prog W 0 (fun _=>true) true m 26 [d]=some y3:=by simpa[cellsOf_strs]using h3
  obtain ⟨l2,a1,a2⟩:=strs_openB h2'
  obtain ⟨l3,b1,b2⟩:=strs_openB h3'
  subst hyy
  obtain ⟨k0,k1,k2,k3⟩:=bk_a4 y0.1 y1.1 y2.1 y3.1
  exact ⟨⟨L s,L t,l2,l3⟩,rfl,⟨c,d,by simp[sv,Idn.B_L],a1,b1⟩,Nat.le_trans (bk_of f0) k0,Nat.le_trans (bk_of f1) k1,a2.mono k2,b2.mono k3⟩
theorem atts_openB {fuel:Nat} {v:Value} {x:DataW H×List MemPlace} (h:DataW.trod enc Tryz.prog W 0 (fun _=>true) true fuel 46 [v]=some x):∃l,AttsV W W.heap.size v l∧GAs l (Rows.uptoBulk x.1):=by
 refine sl_openB (E:=EA W W.heap.size) (G:=GA) (fun _ _ _ h1 h2=>h1.mono h2) Tryz.underlying46 cellsOf_Att (by decide) h fun cs n y hy=>?_
 obtain ⟨y0,y1,m,hyy,hl,h0,h1⟩:=trod_struct2 Tryz.underlying96 hy
 rw[cellsOf_Att]at hl
 match cs,hl with
 |[a,b],_=>
  obtain ⟨s,e0,f0,_⟩:=DataW.trod_string Tryz.underlying9 h0
  simp[cellsOf_string]at e0
  subst e0
  have h1':DataW.trod enc Tryz.prog W 0 (fun _=>true) true m 26 [b]=some y1:=by simpa[cellsOf_string,cellsOf_strs]using h1
  obtain ⟨l2,a1,a2⟩:=strs_openB h1'
  subst hyy
  obtain ⟨k0,k1⟩:=bk_a2 y0.1 y1.1
  exact ⟨⟨L s,l2⟩,rfl,⟨b,by simp[sv,Idn.B_L],a1⟩,Nat.le_trans (bk_of f0) k0,a2.mono k1⟩
end
end Go.Proofs.YtbkkchhimhlhcaaGreatDoor
/- The second form's bound at entries, at filters, at the cases of identitylaw11. -/
namespace Go.Proofs.YtbkkchhimhlhcaaGreatDoor
open Go.RowKit Go.Sort Go.ChangeShapes Go.WideShapes Go.ChangeAt
open Idn (L B Bs)
section
variable {H:Type} {enc:TypeId×Value→H} {W:World}
theorem sl_openBN {α : Type} {E : α → List Value → Prop} {G : α → Nat → Prop} (hG : ∀ z n m, G z n → n ≤ m → G z m) {size : Nat} {t e : TypeId} {fuel : Nat} {v : Value} {x : DataW H × List MemPlace} (ht : Tryz.prog.underlying t = some (.slice e)) (hsz : Tryz.prog.cellsOf e = size) (hpos : 0 < size)
  (h:DataW.trod enc Tryz.prog W 0 (fun _=>true) true fuel t [v]=some x)
  (hE:∀(cs:List Value) (n:Nat) (y:DataW H×List MemPlace),n<fuel→DataW.trod enc Tryz.prog W 0 (fun _=>true) true n e cs=some y→∃z:α,cs.length=size∧E z cs∧G z (Rows.uptoBulk y.1)):∃l,SlV E W W.heap.size size v l∧l.length≤Rows.uptoBulk x.1∧∀z∈l,G z (Rows.uptoBulk x.1):=by
 rcases DataW.trod_slice ht h with ⟨hcs,hx⟩|⟨a,len,cap,elems,rest,n,hfu,hcs,hx,_,hl,hm,hlen,hel,_,_⟩
 ·simp at hcs
  subst hcs
  exact ⟨[],SlV.nil _ _ _ _,by simp,by simp⟩
 ·simp at hcs
  subst hcs
  have k1:=bk_slice (H:=H) (elems.map (·.1)) (rest.map (·.1))
  obtain ⟨l,hl1,hl2⟩:=exList (fun i (z:α)=>(∃cs,W.cells? 0 (a.add (i*size)) size=some cs∧cs.length=size∧E z cs)∧G z (Rows.uptoBulk (.slice (elems.map (·.1)) (rest.map (·.1)):DataW H))) len fun i hi=>by
   have h1:=hel i hi
   rw[hsz,List.getElem?_eq_getElem (by omega)]at h1
   obtain ⟨cs,h3,h4⟩:=Option.bind_eq_some_iff.1 h1
   obtain ⟨z,h5,h6,h7⟩:=hE cs n _ (by omega) h4
   exact ⟨z,⟨cs,h3,h5,h6⟩,hG _ _ _ h7 (Nat.le_trans (bk_part (List.mem_map.2 ⟨_,List.getElem_mem (by omega),rfl⟩)) k1)⟩
  refine ⟨l,⟨some a,cap,by rw[hl1],by rw[hl1];exact hl,fun hp=>?_⟩,?_,?_⟩
  case refine_2=>
   subst hx
   have k2:=bk_len (H:=H) (elems.map (·.1))
   rw[List.length_map]at k2
   rw[hl1,←hlen]
   exact Nat.le_trans k2 k1
  case refine_3=>
   subst hx
   intro z hz
   obtain ⟨i,hi,rfl⟩:=List.getElem_of_mem hz
   exact (hl2 i _ (List.getElem?_eq_getElem hi)).2
  obtain ⟨b,off,spot⟩:=a
  obtain ⟨z0,hz0⟩:∃z,l[0]?=some z:=⟨_,List.getElem?_eq_getElem hp⟩
  obtain ⟨⟨cs0,h0,h0l,_⟩,_⟩:=hl2 0 z0 hz0
  have hc0:=(World.cells?_some h0).2.2 0 (by omega)
  have hv0:∃u,cs0[0]?=some u:=⟨_,List.getElem?_eq_getElem (by omega)⟩
  obtain ⟨u0,hu0⟩:=hv0
  rw[hu0]at hc0
  have hspot:spot=none:=by simpa[Addr.add]using World.cell?_spot hc0
  subst hspot
  rw[add_plain,add_plain]at hc0
  refine ⟨b,off,rfl,World.block_lt_of_cell? _ _ hc0,fun i z hz=>?_⟩
  obtain ⟨⟨cs,h1,h2,h3⟩,_⟩:=hl2 i z hz
  refine ⟨cs,h2,h3,fun j u hj=>?_⟩
  have hjl:=(List.getElem?_eq_some_iff.1 hj).1
  have:=(World.cells?_some h1).2.2 j (by omega)
  rw[hj,add_plain,add_plain]at this
  rw[←Nat.add_assoc];exact this
theorem cellsOf_Ent:Tryz.prog.cellsOf 48=2:=by kernel_rfl
theorem cellsOf_atts:Tryz.prog.cellsOf 46=1:=by kernel_rfl
theorem entries_openB {fuel:Nat} {v:Value} {x:DataW H×List MemPlace} (h:DataW.trod enc Tryz.prog W 0 (fun _=>true) true fuel 27 [v]=some x):∃l,EntsV W W.heap.size v l∧l.length≤Rows.uptoBulk x.1∧∀e∈l,GE e (Rows.uptoBulk x.1):=by
 refine sl_openB (E:=EEn W W.heap.size) (G:=GE) (fun _ _ _ h1 h2=>h1.mono h2) Tryz.underlying27 cellsOf_Ent (by decide) h fun cs n y hy=>?_
 obtain ⟨y0,y1,m,hyy,hl,h0,h1⟩:=trod_struct2 Tryz.underlying48 hy
 rw[cellsOf_Ent]at hl
 match cs,hl with
 |[a,b],_=>
  obtain ⟨s,e0,f0,_⟩:=DataW.trod_string Tryz.underlying9 h0
  simp[cellsOf_string]at e0
  subst e0
  have h1':DataW.trod enc Tryz.prog W 0 (fun _=>true) true m 46 [b]=some y1:=by simpa[cellsOf_string,cellsOf_atts]using h1
  obtain ⟨l2,a1,a2⟩:=atts_openB h1'
  subst hyy
  obtain ⟨k0,k1⟩:=bk_a2 y0.1 y1.1
  exact ⟨(L s,l2),rfl,⟨b,by simp[sv,Idn.B_L],a1⟩,Nat.le_trans (bk_of f0) k0,a2.mono k1⟩
theorem flt_openB:∀(fuel:Nat) (cs:List Value) (x:DataW H×List MemPlace),DataW.trod enc Tryz.prog W 0 (fun _=>true) true fuel 31 cs=some x→∃f,cs.length=5∧FltC W W.heap.size fuel f cs∧fG (Rows.uptoBulk x.1) f:=by
 intro fuel
 induction fuel using Nat.strongRecOn with
 |_ fuel ih=>
 intro cs x h
 obtain ⟨xs,n,rfl,rfl,hl,hxs,hf⟩:=DataW.trod_struct Tryz.underlying31 h
 rw[cellsOf_Flt]at hl
 match cs,hl with
 |[a,b,c,d,e],_=>
 match xs,hxs with
 |[y0,y1,y2,y3,y4],_=>
 have h0:DataW.trod enc Tryz.prog W 0 (fun _=>true) true n 28 [a]=some y0:=by have:=hf 0 _ rfl;simpa[cellsOf_kind]using this
 have h1:DataW.trod enc Tryz.prog W 0 (fun _=>true) true n 9 [b]=some y1:=by have:=hf 1 _ rfl;simpa[cellsOf_string]using this
 have h2:DataW.trod enc Tryz.prog W 0 (fun _=>true) true n 9 [c]=some y2:=by have:=hf 2 _ rfl;simpa[cellsOf_string]using this
 have h3:DataW.trod enc Tryz.prog W 0 (fun _=>true) true n 26 [d]=some y3:=by have:=hf 3 _ rfl;simpa[cellsOf_strs]using this
 have h4:DataW.trod enc Tryz.prog W 0 (fun _=>true) true n 29 [e]=some y4:=by have:=hf 4 _ rfl;simpa[cellsOf_flts]using this
 obtain ⟨k,e0,_,_⟩:=DataW.trod_int Tryz.underlying28 h0
 obtain ⟨s1,e1,f1,_⟩:=DataW.trod_string Tryz.underlying9 h1
 obtain ⟨s2,e2,f2,_⟩:=DataW.trod_string Tryz.underlying9 h2
 obtain ⟨ps,hp,hpl⟩:=strs_openB h3
 obtain ⟨ks,hk,hkl,hkx⟩:=sl_openBN (E:=FltC W W.heap.size n) (G:=fun f n=>fG n f) (fun z n m h1 h2=>fG_mono h2 z h1) Tryz.underlying29 cellsOf_Flt (by decide) h4 fun cs m y hm hy=>by
  obtain ⟨g,g1,g2,g3⟩:=ih m (by omega) cs y hy
  exact ⟨g,g1,FltC.deep (by omega) g2,g3⟩
 simp at e0 e1 e2
 subst e0 e1 e2
 have hb:∀y∈[y0,y1,y2,y3,y4],Rows.uptoBulk y.1≤Rows.uptoBulk (.agg [y0.1,y1.1,y2.1,y3.1,y4.1]:DataW H):=fun y hy=>bk_agg (by
  simp at hy
  rcases hy with rfl|rfl|rfl|rfl|rfl<;>simp)
 refine ⟨.mk k (L s1) (L s2) ps ks,rfl,⟨d,e,rfl,hp,hk⟩,?_⟩
 show fG (Rows.uptoBulk (.agg [y0.1,y1.1,y2.1,y3.1,y4.1]:DataW H)) _
 rw[fG]
 exact ⟨Nat.le_trans (bk_of f1) (hb y1 (by simp)),Nat.le_trans (bk_of f2) (hb y2 (by simp)),hpl.mono (hb y3 (by simp)),Nat.le_trans hkl (hb y4 (by simp)),fGs_all.2 fun g hg=>fG_mono (hb y4 (by simp)) g (hkx g hg)⟩
end
end Go.Proofs.YtbkkchhimhlhcaaGreatDoor
/- law11: light, nodes. -/
namespace Go.Proofs.YtbkkchhimhlhcaaGreatDoor
open Go.RowKit Go.Sort
open Idn (L B Bs drop_L take_L size_L)
theorem take_allP {α:Type} {p:α→Prop} {l:List α} {k:Nat} (h:∀a∈l.take k,p a) (hk:k<l.length) (hp:p l[k]):∀a∈l.take (k+1),p a:=fun a ha=>by
 rw[List.take_succ_eq_append_getElem hk,List.mem_append,List.mem_singleton]at ha
 rcases ha with ha|rfl
 ·exact h a ha
 ·exact hp
end Go.Proofs.YtbkkchhimhlhcaaGreatDoor
/- Plain laws of the layer tree: parents; the reference's insert; what Add keeps. -/
namespace Go.Proofs.YtbkkchhimhlhcaaGreatDoor
open Go.RowKit Go.Sort
open Idn (L B Bs)
theorem scan_ok {s:Idn.Sch} {es:List IxE} (h:OkE es) (q:Qry):OkE (qScan s es q).1∧∀e∈(qScan s es q).1,qIn q e.1=true:=by
 unfold qScan
 split
 ·exact ⟨OkE.nil,by simp⟩
 ·unfold qRes
  split
  ·exact ⟨OkE.nil,by simp⟩
  ·have h2:OkE ((qScope es q).filter fun e=>fMatch s e.2 q.flt):=filter_ok (filter_ok h _) _
   refine ⟨⟨?_,fun e he=>?_⟩,fun e he=>?_⟩
   ·exact List.pairwise_map.2 h2.srt
   ·obtain ⟨x,hx,rfl⟩:=List.mem_map.1 he
    exact h2.val x hx
   ·obtain ⟨x,hx,rfl⟩:=List.mem_map.1 he
    exact (List.mem_filter.1 (List.mem_filter.1 hx).1).2
end Go.Proofs.YtbkkchhimhlhcaaGreatDoor
/- Plain laws of the layer search: what lies below a base is the base and what lies below its children, in this order. -/
namespace Go.Proofs.YtbkkchhimhlhcaaGreatDoor
open Go.RowKit Go.Sort
open Idn (L B Bs)
theorem cmp_key {a b:Bs} (ha:validN a=true) (hb:validN b=true):cmpNm a b=cmpL (keyN a) (keyN b):=by
 unfold cmpNm keyN
 rw[normal_valid,normal_valid,ha,hb,if_pos rfl,if_pos rfl]
end Go.Proofs.YtbkkchhimhlhcaaGreatDoor
/- law12: rich, long, large; the data in memory. -/
namespace Go.Proofs.YtbkkchhimhlhcaaGreatDoor
open Go.RowKit Go.Sort
open Idn (L B Bs drop_L take_L size_L)
section
variable {w:World}
theorem rich12_any (n : ByteArray) (a : Value) (l : List Idn.Att) (hA : AttsV w w.heap.size a l) (hl : ALen8 l) (hn : n.size ≤ 9223372036854775807) :
  Calls Tryz.prog 89 #[.agg #[.string n,a]] w (RetN (n.size≤300∧RchA l) w):=by
 obtain ⟨A,c,rfl,hc⟩:=SlV.shape hA
 obtain ⟨hl1,hl2⟩:=hl
 go_enter Tryz.func89,Tryz.ntmps89
 go_upto_region 1 with fail
 with_reducible refine gen1 (R:=fun W=>Code.wp Tryz.prog _ _ _ W) ?_
 intro W hbW hszW hc1 _
 have b0:W.cell? ⟨w.heap.size,0,none⟩=some (.string n):=hc1 0 _ rfl
 have b1:W.cell? ⟨w.heap.size,1,none⟩=some (.slice A l.length c):=hc1 1 _ rfl
 clear hc1 hszW
 by_cases h1:n.size≤300
 case neg=>
  have hI:(300:Int)<(n.size:Int):=by omega
  clear h1
  go_wp2
  go_ret
  exact RetN.no hbW
 have hI:¬(300:Int)<(n.size:Int):=by omega
 by_cases h2:l.length≤6
 case neg=>
  have hI2:(6:Int)<(l.length:Int):=by omega
  clear h1 h2
  go_wp2
  go_ret
  exact RetN.no hbW
 have hI2:¬(6:Int)<(l.length:Int):=by omega
 have H1:=Lib.hid h1
 have H2:=Lib.hid h2
 clear h1
 go_wp2_with fail
 go_loopw [17] (fun i wr=>∃k:Nat,k≤l.length∧i=.int .i64 k∧Below W.heap.size W wr∧Hid (∀a∈l.take k,a.name.length≤100∧a.vals.length≤6∧∀x∈a.vals,x.length≤100)) (fun i _=>l.length-(intOf i).toNat)
 case atStart=>exact ⟨0,Nat.zero_le _,rfl,Below.refl _ _,fun t ht=>by simp at ht⟩
 case round=>
  obtain ⟨k,hk,rfl,hb,hinv⟩:=hrel
  replace b0:=cell_later hb b0
  replace b1:=cell_later hb b1
  have hbw:=hbW.trans (hb.mono hbW.size)
  by_cases hlt:k<l.length
  ·obtain ⟨b,off,va,hA',hbl,c0,c1,hva⟩:=AttsV.cell (AttsV.keep hA hbw) hlt
   subst hA'
   obtain ⟨Av,cv,rfl,hcv⟩:=SlV.shape hva
   have hltI:(k:Int)<(l.length:Int):=by omega
   have hsz:=Idn.size_B l[k].name
   have hvl:=hl2 _ (List.getElem_mem hlt)
   by_cases he:l[k].name.length≤100
   case neg=>
    have hg:(100:Int)<((B l[k].name).size:Int):=by omega
    clear hsz he hinv
    go_wp2_with fail
    go_ret
    exact RetN.no hbw
   have hg:¬(100:Int)<((B l[k].name).size:Int):=by omega
   have kN:=r2_Great_any _ l[k].vals 6 100 wr (SlV.mono hva hbw.size) (by omega) (by decide) (by decide)
   have HE:=Lib.hid he
   clear hsz he
   go_wp2_with fail
   refine kN.mono ?_
   rintro e w2 ⟨r2,rfl,hr2,hb2⟩
   have hb12:=hb.trans (hb2.mono hb.size)
   have hbw2:=hbw.trans (hb2.mono hbw.size)
   have HR2:=Lib.hid hr2
   clear hr2 kN c0 c1 hva
   cases r2
   case true=>
    clear HR2 hinv HE
    go_wp2_with fail
    go_ret
    exact RetN.no hbw2
   have HX:Hid (∀a∈l.take (k+1),a.name.length≤100∧a.vals.length≤6∧∀x∈a.vals,x.length≤100):=take_allP hinv.out hlt ⟨HE.out,HR2.out (by trivial)⟩
   clear hinv HR2 HE
   go_wp2_with fail
   go_roundw
   case rel=>exact ⟨k+1,by omega,by go_num,hb12,HX⟩
   case measure=>simp[intOf];omega
  ·have hltI:¬(k:Int)<(l.length:Int):=by omega
   have HX:Hid (n.size≤300∧RchA l):=⟨H1.out,H2.out,by
    have h:=hinv.out
    rwa[List.take_of_length_le (by omega)]at h⟩
   clear hinv
   go_wp2_with fail
   go_ret
   exact RetN.yes HX.out hbw
theorem large12_any {v:Value} {d:Dat} (hD:DatV w w.heap.size v d) (hl:DLen d):Calls Tryz.prog 27 #[v] w (RetN (DSm d) w):=by
 obtain ⟨A1,c1,A2,c2,A3,c3,A4,c4,A5,c5,rfl,hS,hR,hV,hX⟩:=hD.shape
 obtain ⟨l1,l2,l3,l4,l5,l6,l7⟩:=hl
 obtain ⟨sa,sb,e0,_,hC⟩:=hS
 obtain ⟨rfl,rfl⟩:Value.slice A1 d.sch.types.length c1=sa∧Value.slice A2 d.sch.classes.length c2=sb:=by injection e0 with h;simp at h;exact h
 have kR:=fun W (hW:Below w.heap.size w W)=>r2_Great_any _ d.roots 4 100 W (SlV.mono (SlV.keep hR hW) hW.size) l4 (by decide) (by decide)
 have kX:=fun W (hW:Below w.heap.size w W)=>r2_Great_any _ d.idx 6 100 W (SlV.mono (SlV.keep hX hW) hW.size) l7 (by decide) (by decide)
 clear hD hR hX e0 l4 l7
 obtain ⟨s,roots,ents,idx⟩:=d
 dsimp only at *
 go_enter Tryz.func27,Tryz.ntmps27
 go_upto_region 1 with fail
 with_reducible refine gen1 (R:=fun W=>Code.wp Tryz.prog _ _ _ W) ?_
 intro W hbW hszW hc _
 have b0:W.cell? ⟨w.heap.size,0,none⟩=some (.slice A1 s.types.length c1):=hc 0 _ rfl
 have b1:W.cell? ⟨w.heap.size,1,none⟩=some (.slice A2 s.classes.length c2):=hc 1 _ rfl
 have b2:W.cell? ⟨w.heap.size,2,none⟩=some (.slice A3 roots.length c3):=hc 2 _ rfl
 have b3:W.cell? ⟨w.heap.size,3,none⟩=some (.slice A4 ents.length c4):=hc 3 _ rfl
 have b4:W.cell? ⟨w.heap.size,4,none⟩=some (.slice A5 idx.length c5):=hc 4 _ rfl
 clear hc hszW
 by_cases h1:s.types.length≤12
 case neg=>
  have hI:(12:Int)<(s.types.length:Int):=by omega
  clear h1 kR kX
  go_wp2
  go_ret
  exact RetN.no hbW
 have hI1:¬(12:Int)<(s.types.length:Int):=by omega
 by_cases h2:s.classes.length≤6
 case neg=>
  have hI:(6:Int)<(s.classes.length:Int):=by omega
  clear h1 h2 kR kX
  go_wp2
  go_ret
  exact RetN.no hbW
 have hI2:¬(6:Int)<(s.classes.length:Int):=by omega
 have H1:=Lib.hid h1
 have H2:=Lib.hid h2
 clear h1
 go_wp2_with fail
 refine (kR W hbW).mono ?_
 rintro e w1 ⟨r1,rfl,hr1,hb1⟩
 have hbw1:=hbW.trans (hb1.mono hbW.size)
 replace b0:=cell_later hb1 b0
 replace b1:=cell_later hb1 b1
 replace b3:=cell_later hb1 b3
 replace b4:=cell_later hb1 b4
 have HR1:=Lib.hid hr1
 clear hr1 kR b2 hb1 hbW
 cases r1
 case true=>
  clear kX HR1
  go_wp2_with fail
  go_ret
  exact RetN.no hbw1
 by_cases h3:ents.length≤10
 case neg=>
  have hI:(10:Int)<(ents.length:Int):=by omega
  clear h3 kX HR1
  go_wp2_with fail
  go_ret
  exact RetN.no hbw1
 have hI3:¬(10:Int)<(ents.length:Int):=by omega
 have H3:=Lib.hid h3
 go_wp2_with fail
 refine (kX w1 hbw1).mono ?_
 rintro e w2 ⟨r2,rfl,hr2,hb2⟩
 have hbw2:=hbw1.trans (hb2.mono hbw1.size)
 replace b0:=cell_later hb2 b0
 replace b1:=cell_later hb2 b1
 replace b3:=cell_later hb2 b3
 have HR2:=Lib.hid hr2
 clear hr2 kX b4 hb2 hbw1
 cases r2
 case true=>
  clear HR1 HR2
  go_wp2_with fail
  go_ret
  exact RetN.no hbw2
 go_wp2_with fail
 go_loopw [37] (fun i wr=>∃k:Nat,k≤s.classes.length∧i=.int .i64 k∧Below w2.heap.size w2 wr∧Hid (∀c∈s.classes.take k,c.must.length≤12∧c.may.length≤12)) (fun i _=>s.classes.length-(intOf i).toNat)
 case atStart=>exact ⟨0,Nat.zero_le _,rfl,Below.refl _ _,fun t ht=>by simp at ht⟩
 case round=>
  obtain ⟨k,hk,rfl,hb,hinv⟩:=hrel
  replace b0:=cell_later hb b0
  replace b1:=cell_later hb b1
  replace b3:=cell_later hb b3
  have hbw:=hbw2.trans (hb.mono hbw2.size)
  by_cases hlt:k<s.classes.length
  ·obtain ⟨b,off,hA,_,cs,g1,⟨mv,uv,g2,gm,gu⟩,g3⟩:=(ClassesV.keep hC hbw).at_ hlt
   subst g2 hA
   obtain ⟨Am,cm,rfl,_⟩:=SlV.shape gm
   obtain ⟨Au,cu,rfl,_⟩:=SlV.shape gu
   have d2:wr.cell? ⟨b,off+k*4+2,none⟩=some (.slice Am s.classes[k].must.length cm):=by simpa[sv,Nat.add_assoc]using g3 2 _ rfl
   have d3:wr.cell? ⟨b,off+k*4+3,none⟩=some (.slice Au s.classes[k].may.length cu):=by simpa[sv,Nat.add_assoc]using g3 3 _ rfl
   have hltI:(k:Int)<(s.classes.length:Int):=by omega
   obtain ⟨hm1,hm2⟩:=l3 _ (List.getElem_mem hlt)
   have kM:=r2_Great_any _ s.classes[k].must 12 100 wr (SlV.mono gm hbw.size) hm1 (by decide) (by decide)
   have kY:=fun V (hV:Below wr.heap.size wr V)=>r2_Great_any _ s.classes[k].may 12 100 V (SlV.mono (SlV.keep (SlV.mono gu hbw.size) hV) hV.size) hm2 (by decide) (by decide)
   clear g3 g1 gm gu hm1 hm2
   go_wp2_with fail
   refine kM.mono ?_
   rintro e w3 ⟨r3,rfl,hr3,hb3⟩
   have hbw3:=hbw.trans (hb3.mono hbw.size)
   have hb13:=hb.trans (hb3.mono hb.size)
   replace b0:=cell_later hb3 b0
   replace b1:=cell_later hb3 b1
   replace d2:=cell_later hb3 d2
   replace d3:=cell_later hb3 d3
   have HR3:=Lib.hid hr3
   clear hr3 kM
   cases r3
   case true=>
    clear HR3 hinv kY
    go_wp2_with fail
    go_ret
    exact RetN.no hbw3
   go_wp2_with fail
   refine (kY w3 hb3).mono ?_
   rintro e w4 ⟨r4,rfl,hr4,hb4⟩
   have hbw4:=hbw3.trans (hb4.mono hbw3.size)
   have hb14:=hb13.trans (hb4.mono hb13.size)
   have HR4:=Lib.hid hr4
   clear hr4 kY d2 d3
   cases r4
   case true=>
    clear HR3 HR4 hinv
    go_wp2_with fail
    go_ret
    exact RetN.no hbw4
   have HX:Hid (∀c∈s.classes.take (k+1),c.must.length≤12∧c.may.length≤12):=take_allP hinv.out hlt ⟨(HR3.out (by trivial)).1,(HR4.out (by trivial)).1⟩
   clear hinv HR3 HR4
   go_wp2_with fail
   go_roundw
   case rel=>exact ⟨k+1,by omega,by go_num,hb14,HX⟩
   case measure=>simp[intOf];omega
  ·have hltI:¬(k:Int)<(s.classes.length:Int):=by omega
   have HC:Hid (∀c∈s.classes,c.must.length≤12∧c.may.length≤12):=by
    have h:=hinv.out
    rwa[List.take_of_length_le (by omega)]at h
   clear hinv b1
   go_wp2_with fail
   go_loopw [62] (fun i wi=>∃k:Nat,k≤ents.length∧i=.int .i64 k∧Below wr.heap.size wr wi∧Hid (∀e∈ents.take k,e.1.length≤300∧RchA e.2)) (fun i _=>ents.length-(intOf i).toNat)
   case atStart=>exact ⟨0,Nat.zero_le _,rfl,Below.refl _ _,fun t ht=>by simp at ht⟩
   case round=>
    rename World=>wi
    obtain ⟨m,hm,rfl,hb5,hin5⟩:=hrel
    replace b3:=cell_later hb5 b3
    have hbw5:=hbw.trans (hb5.mono hbw.size)
    by_cases hlt5:m<ents.length
    ·have hltI5:(m:Int)<(ents.length:Int):=by omega
     obtain ⟨b,off,va,hA4,_,d0,d1,hva⟩:=EntsV.cell (EntsV.keep hV hbw5) hlt5
     subst hA4
     obtain ⟨Av,cv,rfl,_⟩:=SlV.shape hva
     obtain ⟨hn1,hn2⟩:=l6 _ (List.getElem_mem hlt5)
     have hL:=rich12_any (B ents[m].1) _ ents[m].2 (AttsV.mono hva hbw5.size) hn2 (by rw[Idn.size_B];exact hn1)
     rw[Idn.size_B]at hL
     clear hva hn1 hn2
     go_wp2_with fail
     refine hL.mono ?_
     rintro e w6 ⟨r6,rfl,hr6,hb6⟩
     have hbw6:=hbw5.trans (hb6.mono hbw5.size)
     have hb56:=hb5.trans (hb6.mono hb5.size)
     have HR6:=Lib.hid hr6
     clear hL hr6 d0 d1
     cases r6
     case true=>
      clear HR6 hin5
      go_wp2_with fail
      go_ret
      exact RetN.no hbw6
     have HX:Hid (∀e∈ents.take (m+1),e.1.length≤300∧RchA e.2):=take_allP (p:=fun e:EntP=>e.1.length≤300∧RchA e.2) hin5.out hlt5 (HR6.out (by trivial))
     clear hin5 HR6
     go_wp2_with fail
     go_roundw
     case rel=>exact ⟨m+1,by omega,by go_num,hb56,HX⟩
     case measure=>simp[intOf];omega
    ·have hltI5:¬(m:Int)<(ents.length:Int):=by omega
     have HX:Hid (DSm ⟨s,roots,ents,idx⟩):=⟨H1.out,H2.out,HR1.out (by trivial),H3.out,HR2.out (by trivial),HC.out,by
      have h:=hin5.out
      rwa[List.take_of_length_le (by omega)]at h⟩
     clear hin5 HC HR1 HR2
     go_wp2_with fail
     go_ret
     exact RetN.yes HX.out hbw5
end
end Go.Proofs.YtbkkchhimhlhcaaGreatDoor
/- Queries and the data of identitylaw12 handed over. -/
namespace Go.Proofs.YtbkkchhimhlhcaaGreatDoor
open Go.RowKit Go.Sort Go.ChangeShapes Go.WideShapes Go.ChangeAt
open Idn (L B Bs)
section
variable {H:Type} {enc:TypeId×Value→H} {W:World}
theorem query_openB {r : Reach} {b0 : Nat} {v : Value} {d : DataW H} {p : List MemPlace} (hv : Value.okWide Tryz.prog W r b0 55 v) (h : DataW.Trod enc Tryz.prog W 0 (fun _ => true) true 55 v d p) :
    ∃n q,QryV W W.heap.size n v q∧GQ q (Rows.uptoBulk d):=by
 obtain ⟨cs,rfl,hsz⟩:=okWide_struct Tryz.underlying55 hv
 obtain ⟨fuel,hf⟩:=h
 have hf':DataW.trod enc Tryz.prog W 0 (fun _=>true) true fuel 55 cs.toList=some (d,p):=by simpa[Value.cells]using hf
 obtain ⟨xs,n,rfl,hyy,hl,hxs,hg⟩:=DataW.trod_struct Tryz.underlying55 hf'
 rw[cellsOf_Qry]at hl
 obtain ⟨l⟩:=cs
 dsimp only at hl hg
 match l,hl with
 |[a0,a1,a2,a3,a4,a5,a6,a7,a8],_=>
 match xs,hxs with
 |[y0,y1,y2,y3,y4],_=>
 have h0:DataW.trod enc Tryz.prog W 0 (fun _=>true) true n 9 [a0]=some y0:=by have:=hg 0 _ rfl;simpa[cellsOf_string]using this
 have h1:DataW.trod enc Tryz.prog W 0 (fun _=>true) true n 53 [a1]=some y1:=by have:=hg 1 _ rfl;simpa[cellsOf_string,cellsOf_scope]using this
 have h2:DataW.trod enc Tryz.prog W 0 (fun _=>true) true n 31 [a2,a3,a4,a5,a6]=some y2:=by have:=hg 2 _ rfl;simpa[cellsOf_string,cellsOf_scope,cellsOf_fl5]using this
 have h3:DataW.trod enc Tryz.prog W 0 (fun _=>true) true n 26 [a7]=some y3:=by have:=hg 3 _ rfl;simpa[cellsOf_string,cellsOf_scope,cellsOf_fl5,cellsOf_strs]using this
 have h4:DataW.trod enc Tryz.prog W 0 (fun _=>true) true n 3 [a8]=some y4:=by have:=hg 4 _ rfl;simpa[cellsOf_string,cellsOf_scope,cellsOf_fl5,cellsOf_strs,cellsOf_in1]using this
 obtain ⟨s0,e0,f0,_⟩:=DataW.trod_string Tryz.underlying9 h0
 obtain ⟨k1,e1,_,_⟩:=DataW.trod_int Tryz.underlying53 h1
 obtain ⟨f,_,e2,e3⟩:=flt_openB n _ _ h2
 obtain ⟨ns,g3,l3⟩:=strs_openB h3
 obtain ⟨k4,e4,_,_⟩:=DataW.trod_int Tryz.underlying3 h4
 simp at e0 e1 e4
 subst e0 e1 e4
 injection hyy with hd hp
 subst hd
 have hb:∀y∈[y0,y1,y2,y3,y4],Rows.uptoBulk y.1≤Rows.uptoBulk (.agg [y0.1,y1.1,y2.1,y3.1,y4.1]:DataW H):=fun y hy=>bk_agg (by
  simp at hy
  rcases hy with rfl|rfl|rfl|rfl|rfl<;>simp)
 cases n with
 |zero=>exact e2.elim
 |succ n=>
  obtain ⟨pv,kv,e,hp,hk⟩:=e2
  simp only[List.cons.injEq,and_true]at e
  obtain ⟨rfl,rfl,rfl,rfl,rfl⟩:=e
  exact ⟨n,⟨L s0,k1,f,ns,k4⟩,⟨_,_,_,by simp[sv,Idn.B_L],⟨_,_,rfl,hp,hk⟩,g3⟩,Nat.le_trans (bk_of f0) (hb y0 (by simp)),fG_mono (hb y2 (by simp)) _ e3,l3.mono (hb y3 (by simp))⟩
theorem cellsOf_Dat:Tryz.prog.cellsOf 60=5:=by kernel_rfl
theorem cellsOf_Sch2:Tryz.prog.cellsOf 25=2:=by kernel_rfl
theorem cellsOf_enl:Tryz.prog.cellsOf 27=1:=by kernel_rfl
theorem cellsOf_tyl:Tryz.prog.cellsOf 22=1:=by kernel_rfl
theorem cellsOf_cll:Tryz.prog.cellsOf 23=1:=by kernel_rfl
theorem data_openB {r : Reach} {b0 : Nat} {v : Value} {d : DataW H} {p : List MemPlace} (hv : Value.okWide Tryz.prog W r b0 60 v) (h : DataW.Trod enc Tryz.prog W 0 (fun _ => true) true 60 v d p) :
  ∃D,DatV W W.heap.size v D∧GD D (Rows.uptoBulk d):=by
 obtain ⟨cs,rfl,hsz⟩:=okWide_struct Tryz.underlying60 hv
 obtain ⟨fuel,hf⟩:=h
 have hf':DataW.trod enc Tryz.prog W 0 (fun _=>true) true fuel 60 cs.toList=some (d,p):=by simpa[Value.cells]using hf
 obtain ⟨xs,n,rfl,hyy,hl,hxs,hg⟩:=DataW.trod_struct Tryz.underlying60 hf'
 rw[cellsOf_Dat]at hl
 obtain ⟨l⟩:=cs
 dsimp only at hl hg
 match l,hl with
 |[a0,a1,a2,a3,a4],_=>
 match xs,hxs with
 |[y0,y1,y2,y3],_=>
 have h0:DataW.trod enc Tryz.prog W 0 (fun _=>true) true n 25 [a0,a1]=some y0:=by have:=hg 0 _ rfl;simpa[cellsOf_Sch2]using this
 have h1:DataW.trod enc Tryz.prog W 0 (fun _=>true) true n 26 [a2]=some y1:=by have:=hg 1 _ rfl;simpa[cellsOf_Sch2,cellsOf_strs]using this
 have h2:DataW.trod enc Tryz.prog W 0 (fun _=>true) true n 27 [a3]=some y2:=by have:=hg 2 _ rfl;simpa[cellsOf_Sch2,cellsOf_strs,cellsOf_enl]using this
 have h3:DataW.trod enc Tryz.prog W 0 (fun _=>true) true n 26 [a4]=some y3:=by have:=hg 3 _ rfl;simpa[cellsOf_Sch2,cellsOf_strs,cellsOf_enl]using this
 obtain ⟨z0,z1,m,hzz,hl2,g0,g1⟩:=trod_struct2 Tryz.underlying25 h0
 have g0':DataW.trod enc Tryz.prog W 0 (fun _=>true) true m 22 [a0]=some z0:=by simpa[cellsOf_tyl]using g0
 have g1':DataW.trod enc Tryz.prog W 0 (fun _=>true) true m 23 [a1]=some z1:=by simpa[cellsOf_tyl,cellsOf_cll]using g1
 obtain ⟨l0,t1,t2,t3⟩:=types_openB g0'
 obtain ⟨l1,c1,c2,c3⟩:=classes_openB g1'
 obtain ⟨rs,r1,r2⟩:=strs_openB h1
 obtain ⟨es,e1,e2,e3⟩:=entries_openB h2
 obtain ⟨xs,x1,x2⟩:=strs_openB h3
 injection hyy with hd hp
 subst hd hzz
 obtain ⟨k0,k1⟩:=bk_a2 z0.1 z1.1
 have hb:∀y∈[(.agg [z0.1,z1.1],z0.2++z1.2),y1,y2,y3],Rows.uptoBulk y.1≤Rows.uptoBulk (.agg [.agg [z0.1,z1.1],y1.1,y2.1,y3.1]:DataW H):=fun y hy=>bk_agg (by
  simp at hy
  rcases hy with rfl|rfl|rfl|rfl<;>simp)
 have hbe:=hb (.agg [z0.1,z1.1],z0.2++z1.2) (by simp)
 refine ⟨⟨⟨l0,l1⟩,rs,es,xs⟩,⟨a0,a1,a2,a3,a4,rfl,⟨_,_,rfl,t1,c1⟩,r1,e1,x1⟩,?_,r2.mono (hb y1 (by simp)),⟨Nat.le_trans e2 (hb y2 (by simp)),fun e he=>(e3 e he).mono (hb y2 (by simp))⟩,x2.mono (hb y3 (by simp))⟩
 exact ⟨⟨Nat.le_trans t2 (Nat.le_trans k0 hbe),fun t ht=>Nat.le_trans (t3 t ht) (Nat.le_trans k0 hbe)⟩,Nat.le_trans c2 (Nat.le_trans k1 hbe),fun c hc=>(c3 c hc).mono (Nat.le_trans k1 hbe)⟩
end
end Go.Proofs.YtbkkchhimhlhcaaGreatDoor
/- law12: SearchOrders. -/
namespace Go.Proofs.YtbkkchhimhlhcaaGreatDoor
open Go.RowKit Go.Sort
open Idn (L B Bs drop_L take_L size_L)
theorem nm_rng {a b:Bs} (ha:validN a=true) (hb:validN b=true) (h:cmpNm a b<0):cmpNm a b = -1:=by
 rw[cmp_key ha hb]at h⊢
 rcases tot_cmpL.rng (keyN a) (keyN b)with e|e|e<;>omega
theorem scan_len {s:Idn.Sch} {es:List IxE} {q:Qry}:(qScan s es q).1.length≤es.length:=by
 unfold qScan
 split
 ·exact Nat.zero_le _
 ·unfold qRes
  split
  ·exact Nat.zero_le _
  ·show (List.map _ _).length≤_
   rw[List.length_map]
   unfold qScope
   exact Nat.le_trans (List.length_filter_le _ _) (List.length_filter_le _ _)
theorem searchOrders_any (v : Value) (d : Dat) (dq : Nat) (qv : Value) (q : Qry) (w : World) (hD : DatV w w.heap.size v d) (hg : GD d 1048576) (hq : QryV w w.heap.size dq qv q) (hgq : GQ q 1048576) (hE : Env w) (hU : EnvU w) :
  Calls Tryz.prog 8 #[v,qv] w fun e w'=>e=.returned (.bool true)∧Below w.heap.size w w':=by
 have hEv:∀W,Below w.heap.size w W→Env W∧EnvU W:=fun W hW=>⟨hE.keep hW,hU.keep hW⟩
 have kL:=fun W (hW:Below w.heap.size w W)=>live12_any W (hE.keep hW) (hU.keep hW)
 have kG:=fun W (hW:Below w.heap.size w W)=>large12_any (hD.on hW) hg.len
 have kQ:=fun W (hW:Below w.heap.size w W)=>long12_any (hq.on hW) hgq.len.1 hgq.len.2
 have hssm:=hg.ssm
 have kP:=fun (hs:DSm d) W (hW:Below w.heap.size w W)=>program12_any W (hD.on hW) hs hssm fun V hV=>hEv V (hW.trans (hV.mono hW.size))
 have kQv:=fun W (hW:Below w.heap.size w W)=>hq.on hW
 obtain ⟨A1,c1,A2,c2,A3,c3,A4,c4,A5,c5,rfl,hS,_,_,_⟩:=hD.shape
 have kSv:=fun W (hW:Below w.heap.size w W)=>SchV.mono (SchV.keep hS hW) hW.size
 obtain ⟨Ap,cp,Ak,ck,An,cn,rfl,_,_⟩:=hq.shape
 clear hD hq hg hgq hS hE hU
 obtain ⟨base,scope,flt,names,limit⟩:=q
 obtain ⟨s,roots,ents,idx⟩:=d
 dsimp only at *
 go_enter Tryz.func8,Tryz.ntmps8
 go_upto_region 1 with fail
 with_reducible refine gen2 (R:=fun W=>Code.wp Tryz.prog _ _ _ W) ?_
 intro W hbW hszW hc1 hc2
 have a0:W.cell? ⟨w.heap.size,0,none⟩=some (.slice A1 s.types.length c1):=hc1 0 _ rfl
 have a1:W.cell? ⟨w.heap.size,1,none⟩=some (.slice A2 s.classes.length c2):=hc1 1 _ rfl
 have a2:W.cell? ⟨w.heap.size,2,none⟩=some (.slice A3 roots.length c3):=hc1 2 _ rfl
 have a3:W.cell? ⟨w.heap.size,3,none⟩=some (.slice A4 ents.length c4):=hc1 3 _ rfl
 have a4:W.cell? ⟨w.heap.size,4,none⟩=some (.slice A5 idx.length c5):=hc1 4 _ rfl
 have b0:W.cell? ⟨w.heap.size+1,0,none⟩=some (.string (B base)):=hc2 0 _ rfl
 have b1:W.cell? ⟨w.heap.size+1,1,none⟩=some (.int .i64 scope):=hc2 1 _ rfl
 have b2:W.cell? ⟨w.heap.size+1,2,none⟩=some (.int .i64 flt.kind):=hc2 2 _ rfl
 have b3:W.cell? ⟨w.heap.size+1,3,none⟩=some (.string (B flt.name)):=hc2 3 _ rfl
 have b4:W.cell? ⟨w.heap.size+1,4,none⟩=some (.string (B flt.value)):=hc2 4 _ rfl
 have b5:W.cell? ⟨w.heap.size+1,5,none⟩=some (.slice Ap flt.parts.length cp):=hc2 5 _ rfl
 have b6:W.cell? ⟨w.heap.size+1,6,none⟩=some (.slice Ak flt.kids.length ck):=hc2 6 _ rfl
 have b7:W.cell? ⟨w.heap.size+1,7,none⟩=some (.slice An names.length cn):=hc2 7 _ rfl
 have b8:W.cell? ⟨w.heap.size+1,8,none⟩=some (.int .i64 limit):=hc2 8 _ rfl
 clear hc1 hc2 hszW
 go_upto_region 3 with (go_at_call 22;refine (kL W hbW).mono ?_;rintro e w1 ⟨rfl,hb1⟩)
 have hbw1:=hbW.trans (hb1.mono hbW.size)
 replace a0:=cell_later hb1 a0
 replace a1:=cell_later hb1 a1
 replace a2:=cell_later hb1 a2
 replace a3:=cell_later hb1 a3
 replace a4:=cell_later hb1 a4
 replace b0:=cell_later hb1 b0
 replace b1:=cell_later hb1 b1
 replace b2:=cell_later hb1 b2
 replace b3:=cell_later hb1 b3
 replace b4:=cell_later hb1 b4
 replace b5:=cell_later hb1 b5
 replace b6:=cell_later hb1 b6
 replace b7:=cell_later hb1 b7
 replace b8:=cell_later hb1 b8
 clear kL hb1 hbW
 go_wp2_with fail
 refine (kG w1 hbw1).mono ?_
 rintro e w2 ⟨r2,rfl,hr2,hb2⟩
 have hbw2:=hbw1.trans (hb2.mono hbw1.size)
 replace a0:=cell_later hb2 a0
 replace a1:=cell_later hb2 a1
 replace a2:=cell_later hb2 a2
 replace a3:=cell_later hb2 a3
 replace a4:=cell_later hb2 a4
 replace b0:=cell_later hb2 b0
 replace b1:=cell_later hb2 b1
 replace b2:=cell_later hb2 b2
 replace b3:=cell_later hb2 b3
 replace b4:=cell_later hb2 b4
 replace b5:=cell_later hb2 b5
 replace b6:=cell_later hb2 b6
 replace b7:=cell_later hb2 b7
 replace b8:=cell_later hb2 b8
 have HR2:=Lib.hid hr2
 clear kG hb2 hr2 hbw1
 cases r2
 case true=>
  clear kQ kP kQv kSv HR2
  go_wp2_with fail
  go_ret
  exact ⟨rfl,hbw2⟩
 have hds:=HR2.out rfl
 replace kP:=kP hds
 go_wp2_with fail
 refine (kQ w2 hbw2).mono ?_
 rintro e w3 ⟨r3,rfl,hr3,hb3⟩
 have hbw3:=hbw2.trans (hb3.mono hbw2.size)
 replace a0:=cell_later hb3 a0
 replace a1:=cell_later hb3 a1
 replace a2:=cell_later hb3 a2
 replace a3:=cell_later hb3 a3
 replace a4:=cell_later hb3 a4
 replace b0:=cell_later hb3 b0
 replace b1:=cell_later hb3 b1
 replace b2:=cell_later hb3 b2
 replace b3:=cell_later hb3 b3
 replace b4:=cell_later hb3 b4
 replace b5:=cell_later hb3 b5
 replace b6:=cell_later hb3 b6
 replace b7:=cell_later hb3 b7
 replace b8:=cell_later hb3 b8
 have HR3:=Lib.hid hr3
 clear kQ hb3 hr3 hbw2 HR2
 cases r3
 case true=>
  clear kP kQv kSv HR3
  go_wp2_with fail
  go_ret
  exact ⟨rfl,hbw3⟩
 have hqs:=(HR3.out rfl).sm
 clear HR3
 generalize hes:addsE ents (trNew roots).2=es at *
 have hpr:=kP w3 hbw3
 unfold RetPr at hpr
 dsimp only at hpr
 rw[hes]at hpr
 clear kP hes
 generalize hpo:putsOk es []=po at *
 have HPO:=Lib.hid hpo
 clear hpo
 go_upto_region 6 with fail
 refine hpr.mono ?_
 rintro e w4 ⟨hb4,⟨_,_,lo,pt,mb,g,px,rfl,hT,hG,hok⟩|⟨_,rfl⟩⟩
 case inr=>
  have hbw4:=hbw3.trans (hb4.mono hbw3.size)
  clear kQv kSv hpr
  go_wp2_with fail
  go_ret
  exact ⟨rfl,hbw4⟩
 have hbw4:=hbw3.trans (hb4.mono hbw3.size)
 replace a0:=cell_later hb4 a0
 replace a1:=cell_later hb4 a1
 replace a2:=cell_later hb4 a2
 replace a3:=cell_later hb4 a3
 replace a4:=cell_later hb4 a4
 replace b0:=cell_later hb4 b0
 replace b1:=cell_later hb4 b1
 replace b2:=cell_later hb4 b2
 replace b3:=cell_later hb4 b3
 replace b4:=cell_later hb4 b4
 replace b5:=cell_later hb4 b5
 replace b6:=cell_later hb4 b6
 replace b7:=cell_later hb4 b7
 replace b8:=cell_later hb4 b8
 clear hpr hb4
 cases po
 case false=>
  clear kQv kSv hT hG hok
  go_wp2_with fail
  go_ret
  exact ⟨rfl,hbw4⟩
 obtain ⟨hs,lo',ta,cb,eb,vb,gx,ts,Gx,hI,hGI⟩:=hok rfl
 clear hok
 go_upto_region 8 with fail
 have kS:=seScan_any _ s (kSv w4 hbw4) hssm (hEv w4 hbw4).1 (hEv w4 hbw4).2 hT hG (kQv w4 hbw4) hqs
 obtain ⟨hok1,hin1⟩:=scan_ok (s:=s) hG.ok (⟨base,scope,flt,names,limit⟩:Qry)
 have hRl:=Nat.le_trans (scan_len (s:=s) (es:=es) (q:=(⟨base,scope,flt,names,limit⟩:Qry))) hG.len
 clear hT hG hI hGI hssm kSv
 generalize (qScan s es (⟨base,scope,flt,names,limit⟩:Qry))=rs at *
 obtain ⟨R,re⟩:=rs
 dsimp only at hok1 hin1 hRl
 go_upto_region 9 with fail
 refine kS.mono ?_
 rintro e w5 ⟨v5,qs,rfl,hrow,hres,hb5⟩
 obtain ⟨A9,c9,hsh⟩:=own_shape hrow.1
 subst hsh
 dsimp only at hres
 have hbw5:=hbw4.trans (hb5.mono hbw4.size)
 replace b0:=cell_later hb5 b0
 replace b1:=cell_later hb5 b1
 replace b2:=cell_later hb5 b2
 replace b3:=cell_later hb5 b3
 replace b4:=cell_later hb5 b4
 replace b5:=cell_later hb5 b5
 replace b6:=cell_later hb5 b6
 replace b7:=cell_later hb5 b7
 replace b8:=cell_later hb5 b8
 have hqR:∀k (hk:k<qs.length),∃x∈R,R[k]?=some x∧x=qs[k].1:=fun k hk=>by
  have h1:R[k]?=some qs[k].1:=by rw[←hres,List.getElem?_map,List.getElem?_eq_getElem hk];rfl
  exact ⟨_,List.mem_of_getElem? h1,h1,rfl⟩
 have hIn:∀k (hk:k<qs.length),qIn (⟨base,scope,flt,names,limit⟩:Qry) qs[k].1.1=true∧validN qs[k].1.1=true:=fun k hk=>by
  obtain ⟨x,hx,_,e⟩:=hqR k hk
  rw[←e]
  exact ⟨hin1 x hx,hok1.val x hx⟩
 have hCm:∀k (hk:k+1<qs.length),cmpNm (qs[k]'(by omega)).1.1 qs[k+1].1.1 = -1:=fun k hk=>by
  refine nm_rng (hIn k (by omega)).2 (hIn (k+1) hk).2 ?_
  obtain ⟨x,_,hx,ex⟩:=hqR k (by omega)
  obtain ⟨y,_,hy,ey⟩:=hqR (k+1) hk
  rw[←ex,←ey]
  have h1:=hok1.srt
  unfold srtE at h1
  obtain ⟨h2,e2⟩:=List.getElem?_eq_some_iff.1 hx
  obtain ⟨h3,e3⟩:=List.getElem?_eq_some_iff.1 hy
  have:=List.pairwise_iff_getElem.1 h1 k (k+1) h2 h3 (by omega)
  rw[e2,e3]at this
  exact this
 have hHC:=Lib.hid hCm
 have hHI:=Lib.hid hIn
 have hql:qs.length≤256:=by rw[←hres,List.length_map]at hRl;exact hRl
 clear kS hb5 a0 a1 a2 a3 a4 hok1 hin1 hres hqR hCm hIn hbw4 hRl
 go_wp2_with fail
 go_loopw [37] (fun i wr=>∃k:Nat,k≤qs.length∧i=.int .i64 k∧Below w5.heap.size w5 wr) (fun i _=>qs.length-(intOf i).toNat)
 case atStart=>exact ⟨0,Nat.zero_le _,rfl,Below.refl _ _⟩
 case round=>
  obtain ⟨k,hk,rfl,hb⟩:=hrel
  obtain ⟨wo,hwo⟩:∃wo:World,wo=wr:=⟨_,rfl⟩
  subst hwo
  replace b0:=cell_later hb b0
  replace b1:=cell_later hb b1
  replace b2:=cell_later hb b2
  replace b3:=cell_later hb b3
  replace b4:=cell_later hb b4
  replace b5:=cell_later hb b5
  replace b6:=cell_later hb b6
  replace b7:=cell_later hb b7
  replace b8:=cell_later hb b8
  have hbw:=hbw5.trans (hb.mono hbw5.size)
  by_cases hlt:k<qs.length
  ·have hltI:(k:Int)<(qs.length:Int):=by omega
   obtain ⟨g9,hA,hcells⟩:=own_open (hrow.keep hb).1 (by omega)
   subst hA
   obtain ⟨e1,_⟩:=rowEn_at qs k _ (List.getElem?_eq_getElem hlt)
   have x0:wo.cell? ⟨g9,k*2,none⟩=some (.string (B qs[k].1.1)):=hcells _ _ e1
   obtain ⟨i1,i2⟩:=hHI.out k hlt
   have hI1:=fun V (hV:Below wo.heap.size wo V)=>seIn_any (kQv V (hbw.trans (hV.mono hbw.size))) hqs.base qs[k].1.1 (by have:=valid_len i2;omega)
   rw[i1]at hI1
   have j0:=cell_regrown x0
   have q1:=cq (W:=wo) fun V hV=>hI1 V hV
   have l0:=cell_regrown b0
   have l1:=cell_regrown b1
   have l2:=cell_regrown b2
   have l3:=cell_regrown b3
   have l4:=cell_regrown b4
   have l5:=cell_regrown b5
   have l6:=cell_regrown b6
   have l7:=cell_regrown b7
   have l8:=cell_regrown b8
   by_cases hk0:k=0
   ·subst hk0
    clear hcells e1 hI1 i1 i2
    go_wp2
    refine wp_region_quiet_below (by kernel_rfl) (by kernel_rfl) ?_
    repeat (first|go_big_quiet_step ((go_at_call 25;exact q1 _ _))|quiet_step ((go_at_call 25;exact q1 _ _)))
    refine wpQuiet_nil ?_
    intro _ hw'
    obtain ⟨⟨dq,osq⟩,hw''⟩:=hw'
    subst hw''
    have hb7:=below_regrown wo dq osq
    generalize grow (redrawn wo dq) osq=W7 at hb7⊢
    clear q1 l0 l1 l2 l3 l4 l5 l6 l7 l8 j0
    have hb57:=hb.trans (hb7.mono hb.size)
    go_wp2_with fail
    go_roundw
    case rel=>exact ⟨1,by omega,by go_num,hb57⟩
    case measure=>simp[intOf];omega
   ·obtain ⟨m,rfl⟩:∃m,k=m+1:=⟨k-1,by omega⟩
    have hm:m<qs.length:=by omega
    obtain ⟨e3,_⟩:=rowEn_at qs m _ (List.getElem?_eq_getElem hm)
    have y0:wo.cell? ⟨g9,m*2,none⟩=some (.string (B qs[m].1.1)):=hcells _ _ e3
    have hcm:=hHC.out m hlt
    have i3:=(hHI.out m hm).2
    have hC1:=fun V=>nm_compare_any (B qs[m].1.1) (B qs[m+1].1.1) V (by rw[Idn.size_B];have:=valid_len i3;omega) (by rw[Idn.size_B];have:=valid_len i2;omega)
    rw[Idn.L_B,Idn.L_B,hcm]at hC1
    have j1:=cell_regrown y0
    have q2:=cq (W:=wo) fun V _=>hC1 V
    have hmI:(m:Int)<(qs.length:Int):=by omega
    have hw1:IntKind.i64.wrap ((m:Int)+1-1)=(m:Int):=by rw[show (m:Int)+1-1=(m:Int) by omega];exact IntWalk.i64_in _ (by omega)
    have hw2:IntKind.i64.wrap (m:Int)=(m:Int):=IntWalk.i64_in _ (by omega)
    clear hcells e1 e3 hI1 i1 i2 i3 hcm hC1 hk0
    go_wp2
    refine wp_region_quiet_below (by kernel_rfl) (by kernel_rfl) ?_
    repeat (first|go_big_quiet_step ((first|(go_at_call 25;exact q1 _ _)|(go_at_call 41;exact q2 _ _)))|quiet_step ((first|(go_at_call 25;exact q1 _ _)|(go_at_call 41;exact q2 _ _))))
    refine wpQuiet_nil ?_
    intro _ hw'
    obtain ⟨⟨dq,osq⟩,hw''⟩:=hw'
    subst hw''
    have hb7:=below_regrown wo dq osq
    generalize grow (redrawn wo dq) osq=W7 at hb7⊢
    clear q1 q2 l0 l1 l2 l3 l4 l5 l6 l7 l8 j0 j1
    have hb57:=hb.trans (hb7.mono hb.size)
    go_wp2_with fail
    go_roundw
    case rel=>exact ⟨m+1+1,by omega,by go_num,hb57⟩
    case measure=>simp[intOf];omega
  ·have hltI:¬(k:Int)<(qs.length:Int):=by omega
   clear kQv
   go_wp2_with fail
   go_ret
   exact ⟨rfl,hbw⟩
end Go.Proofs.YtbkkchhimhlhcaaGreatDoor
/- SearchOrders: the contract as the row asks it, the statement, the card. -/
namespace Go.Proofs.YtbkkchhimhlhcaaGreatDoor
open Go.RowKit Go.Sort Go.Shelf Go.ChangeShapes Go.WideShapes Go.ChangeAt Go.ChangeMaps
theorem laid_eqSO:Rows.searchOrdersUptoRow.laid=laidL:=by
 unfold laidL
 rw[←pow_eq,←acc_eq,←first_eq,←case_eq]
 rfl
theorem cSO_contract (F : Stop.Interp) (H : Type) (enc : TypeId × Value → H) (W : World) (base : Nat) (args : Array Value) (ds gs : List (DataW H)) (before : List MemPlace)
  (hval:∀(j:Nat) t v,Tryz.f8.params[j]?=some t→args[j]?=some v→Value.okWide Tryz.prog W .any base t v)
  (hW:DataW.Whole enc Tryz.prog Tryz.f8.params.toList Rows.searchOrdersSpec.vars false W args.toList ds gs before) (hL:laidMet Tryz.prog laidL W) (hsh:W.ShapedOpen Tryz.prog) (hk:Rows.uptoSmall H (ds++gs)=true) :
  Calls Tryz.prog 8 args W fun e W'=>∃v,e=.returned v∧((Rows.OpenSpec.upto Rows.searchOrdersSpec).at F).post enc Tryz.prog Tryz.f8 false true false false W args v W':=by
 have hW':=hW
 obtain ⟨p,q,hA0,hV0,rfl,_,_⟩:=hW
 have hA:DataW.TrodAll enc Tryz.prog W 0 (fun _=>true) true Tryz.f8.params.toList args.toList ds p:=hA0
 rw[Tryz.params8]at hA hval
 obtain ⟨v0,v1,d0,d1,p0,p1,rfl,rfl,rfl,h0,h1⟩:=trodAll_two hA
 obtain ⟨rfl,rfl⟩:=trodVars_none hV0
 have hB:=bk_bound hk
 have hb0:=hB d0 (by simp)
 have hb1:=hB d1 (by simp)
 obtain ⟨D0,hD0,hg0⟩:=data_openB (hval 0 60 v0 rfl rfl) h0
 obtain ⟨n1,q1,hQ1,hg1⟩:=query_openB (hval 1 55 v1 rfl rfl) h1
 clear hA0 hV0 hval
 simp only[List.append_nil]at hW'
 have hlt:∀x∈p0++p1,x.block<W.heap.size:=fun x hx=>by simpa using hW'.lt x (by simpa using hx)
 obtain ⟨hE,hU⟩:=env_of hL hsh
 refine (searchOrders_any v0 D0 n1 v1 q1 W hD0 (hg0.mono hb0) hQ1 (hg1.mono hb1) hE hU).mono ?_
 rintro e W' ⟨rfl,bel⟩
 have e1:((Rows.OpenSpec.upto Rows.searchOrdersSpec).at F).fn H ([d0,d1]++[])={ results:=[.lit (.bool true)],args:=[d0,d1] }:=rfl
 refine ⟨_,rfl,_,_,_,[],(p0++p1),[],hW',?_,?_,?_,bel.frame _,fun h=>by cases h⟩
 ·rw[e1];exact trodAll_mk1 (shut_bool Tryz.underlying4 _)
 ·rw[e1];exact trodAll_mk2 (Below.trod laidOut (by kernel_rfl) (of_decide_eq_true (by kernel_rfl)) h0 bel (fun x hx=>hlt x (List.mem_append_left _ hx))) (Below.trod laidOut (by kernel_rfl) (of_decide_eq_true (by kernel_rfl)) h1 bel (fun x hx=>hlt x (List.mem_append_right _ hx)))
 ·rw[e1];rfl
theorem noHandleSO {W:World} (h:laidMetH Tryz.prog Rows.searchOrdersUptoRow.laid W):laidMet Tryz.prog laidL W:=by
 have e:(Rows.searchOrdersUptoRow.laid.filter fun x=>x.2.handleName?.isSome)=[]:=by kernel_rfl
 unfold laidMetH at h
 rw[e]at h
 rw[←laid_eqSO]
 exact h
theorem laid_metSO (os:Os) (args:Array Value):laidMet Tryz.prog Rows.searchOrdersUptoRow.laid ((laidWorld os).forCall (fun _ _=>0) ⟨#[],args,[]⟩).memory:=by
 rw[laid_eqSO]
 exact laid_metW os args
theorem witness_rowSO (os : Os) {H : Type} (enc : TypeId × Value → H) :
  (Rows.OpenSpec.upto Rows.searchOrdersSpec).preRow enc Tryz.prog Tryz.f8 Rows.searchOrdersUptoRow.domain false Rows.searchOrdersUptoRow.laid ((laidWorld os).forCall (fun _ _=>0) ⟨#[],#[.agg #[.slice none 0 0,.slice none 0 0,.slice none 0 0,.slice none 0 0,.slice none 0 0],.agg #[.string ⟨#[]⟩,.int .i64 0,.int .i64 0,.string ⟨#[]⟩,.string ⟨#[]⟩,.slice none 0 0,.slice none 0 0,.slice none 0 0,.int .i64 0]],[]⟩).memory #[.agg #[.slice none 0 0,.slice none 0 0,.slice none 0 0,.slice none 0 0,.slice none 0 0],.agg #[.string ⟨#[]⟩,.int .i64 0,.int .i64 0,.string ⟨#[]⟩,.string ⟨#[]⟩,.slice none 0 0,.slice none 0 0,.slice none 0 0,.int .i64 0]]:=by
 have hw : (DataW.whole enc Tryz.prog ((laidWorld os).forCall (fun _ _ => 0) ⟨#[], #[.agg #[.slice none 0 0, .slice none 0 0, .slice none 0 0, .slice none 0 0, .slice none 0 0], .agg #[.string ⟨#[]⟩, .int .i64 0, .int .i64 0, .string ⟨#[]⟩, .string ⟨#[]⟩, .slice none 0 0, .slice none 0 0, .slice none 0 0, .int .i64 0]], []⟩).memory Tryz.f8.params.toList (Rows.OpenSpec.upto Rows.searchOrdersSpec).vars false #[Value.agg #[.slice none 0 0, .slice none 0 0, .slice none 0 0, .slice none 0 0, .slice none 0 0], .agg #[.string ⟨#[]⟩, .int .i64 0, .int .i64 0, .string ⟨#[]⟩, .string ⟨#[]⟩, .slice none 0 0, .slice none 0 0, .slice none 0 0, .int .i64 0]].toList 8).map (fun x => (x.1, x.2.1)) =
   some ([.agg [.agg [.nil,.nil],.nil,.nil,.nil],.agg [.lit (.string []),.lit (.int .i64 0),.agg [.lit (.int .i64 0),.lit (.string []),.lit (.string []),.nil,.nil],.nil,.lit (.int .i64 0)]],[]):=by kernel_rfl
 obtain ⟨⟨x1,x2,x3⟩,hx,hx1⟩:=Option.map_eq_some_iff.1 hw
 simp only[Prod.mk.injEq]at hx1
 obtain ⟨rfl,rfl⟩:=hx1
 exact OpenSpec.preRow_of_cond 8 hx (by kernel_rfl) (fun k hk=>by cases hk;kernel_rfl) (by kernel_rfl) (laid_metSO os _)
theorem liftedSO (os : Os) (started : os.Started) (H : Type) (enc : TypeId × Value → H) (F : Stop.Interp) :
  ReturnsInHanded {} Tryz.checked os 8 .any ((Rows.OpenSpec.upto Rows.searchOrdersSpec).preRow enc Tryz.prog Tryz.f8 Rows.searchOrdersUptoRow.domain false Rows.searchOrdersUptoRow.laid) (((Rows.OpenSpec.upto Rows.searchOrdersSpec).at F).post enc Tryz.prog Tryz.f8 false true false false):=by
 refine returnsInHanded_of_row (C:=Tryz.checked) (s:=(Rows.OpenSpec.upto Rows.searchOrdersSpec)) own started (by kernel_rfl) Tryz.func8
  (witness_row_atRef (enc:=enc) (C:=Tryz.checked) false (laidWorld os) #[.agg #[.slice none 0 0,.slice none 0 0,.slice none 0 0,.slice none 0 0,.slice none 0 0],.agg #[.string ⟨#[]⟩,.int .i64 0,.int .i64 0,.string ⟨#[]⟩,.string ⟨#[]⟩,.slice none 0 0,.slice none 0 0,.slice none 0 0,.int .i64 0]] rfl (by kernel_rfl) (by kernel_rfl) (by kernel_rfl) (witness_rowSO os enc)) ?_
 intro W base args ds gs before hval hW _ hcond _ hL hsh _
 exact cSO_contract F H enc W base args ds gs before hval hW (noHandleSO hL) hsh (hcond _ rfl)
end Go.Proofs.YtbkkchhimhlhcaaGreatDoor
/- SearchOrders: the statement. -/
namespace Go.Proofs.YtbkkchhimhlhcaaGreatDoor
open Go.RowKit Go.Sort Go.Shelf Go.ChangeShapes Go.WideShapes Go.ChangeAt Go.ChangeMaps
theorem closedSO:joinedFacts Tryz.pinned.checked.prog 8 Tryz.f8 (Rows.OpenSpec.upto Rows.searchOrdersSpec).bare Rows.searchOrdersUptoRow=true:=by
 unfold joinedFacts
 simp only[Bool.and_eq_true]
 repeat' with_reducible apply And.intro
 all_goals (as_aux_lemma=>kernel_rfl)
theorem saidSO:Rows.SearchOrdersUptoSaid:=
 OpenClaim.holds_of_cond 8 Tryz.f8 rfl rfl rfl rfl rfl rfl rfl ⟨rfl,rfl,rfl,rfl,rfl⟩ rfl rfl rfl rfl rfl (by kernel_rfl) Tryz.func8 closedSO
  (of_decide_eq_true (by kernel_rfl)) (by unfold Func.isWrapper;first|(rw[if_pos (by decide +kernel)];kernel_rfl)|(rw[if_neg (by decide +kernel)];exact ⟨rfl,rfl⟩))
  (fun os started H enc _ F=>by rw[OpenClaim.pre_eq_preRow];exact liftedSO os started H enc F)
end Go.Proofs.YtbkkchhimhlhcaaGreatDoor
/- SearchOrders: the card. -/
namespace Go.Proofs.YtbkkchhimhlhcaaGreatDoor
open Go.RowKit Go.Sort Go.Shelf Go.ChangeShapes Go.WideShapes Go.ChangeAt Go.ChangeMaps
theorem plainSO (f : FuncId) (fn : Func) (hf : Tryz.pinned.checked.prog.funcNamed "identity/identitylaw12.SearchOrders" = some f) (hfn : Tryz.pinned.checked.prog.funcs[f]? = some fn) :
  true=Tryz.pinned.checked.prog.looks []∧∀(j:Nat) t,fn.params[j]?=some t→Tryz.pinned.checked.prog.wantsStandIn t=false:=by
 obtain rfl : f = 8 := Option.some.inj ((show Tryz.prog.funcNamed "identity/identitylaw12.SearchOrders" = some 8 by kernel_rfl).symm.trans hf) |>.symm
 obtain rfl:fn=Tryz.f8:=(Option.some.inj (Tryz.func8.symm.trans hfn)).symm
 refine ⟨by kernel_rfl,fun j t ht=>?_⟩
 rw[Tryz.params8]at ht
 have hm:=Array.mem_of_getElem? ht
 simp at hm
 rcases hm with rfl|rfl
 ·exact (show Tryz.prog.wantsStandIn 60=false by kernel_rfl)
 ·exact (show Tryz.prog.wantsStandIn 55=false by kernel_rfl)
theorem searchOrders_card:Rows.SearchOrdersUptoCardSaid:=
 Claim7.holds_tied_plain_at .later [] _ _ _ _ saidSO (fun _ h=>by cases h) (by kernel_rfl) (fun _ h=>by cases h) searchOrdersUpto_row_tie rfl ⟨rfl,rfl⟩ (by kernel_rfl) rfl plainSO (goesBy_no _ (by kernel_rfl))
#print axioms searchOrders_card
end Go.Proofs.YtbkkchhimhlhcaaGreatDoor
