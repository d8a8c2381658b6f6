/- Part 44 of the proof that identitylaw12.SearchChecks returns true for every data that it may be called with: proof: the package variables hold what the program lays; nothing else is asked. -/
import Derived.Test.YtbkkchhimhlhcaaGreatDoorSrk33
import Derived.Test.YtbkkchhimhlhcaaGreatDoorSrk40
set_option linter.unusedVariables false
set_option linter.unusedSimpArgs false
set_option maxRecDepth 100000
set_option maxHeartbeats 16000000
/- A filter handed over: what a trodden value of api.Filter reads as. -/
namespace Go.Proofs.YtbkkchhimhlhcaaGreatDoor
open Go.RowKit Go.Sort Go.ChangeShapes Go.WideShapes Go.ChangeAt
open Idn (L B Bs drop_L take_L size_L)
section
variable {H:Type} {enc:TypeId×Value→H} {W:World}
theorem sl_openN2 {α : Type} {E : α → List Value → Prop} {Pz : α → Prop} {size : Nat} {t e : TypeId} {fuel : Nat} {v : Value} {x : DataW H × List MemPlace} (ht : Tryz.prog.underlying t = some (.slice e)) (hsz : Tryz.prog.cellsOf e = size) (hpos : 0 < size)
  (h:DataW.trod enc Tryz.prog W 0 (fun _=>true) true fuel t [v]=some x)
  (hE:∀(cs:List Value) (n:Nat) (y:DataW H×List MemPlace),n<fuel→DataW.trod enc Tryz.prog W 0 (fun _=>true) true n e cs=some y→∃z:α,cs.length=size∧E z cs∧Pz z):∃l,(SlV E W W.heap.size size v l∧∀z∈l,Pz z)∧l.length≤9223372036854775807:=by
 rcases DataW.trod_slice ht h with ⟨hcs,hx⟩|⟨a,len,cap,elems,rest,n,hfu,hcs,_,_,hl,hm,hlen,hel,_,_⟩
 ·simp at hcs
  subst hcs
  exact ⟨[],⟨SlV.nil _ _ _ _,by simp⟩,by simp⟩
 ·simp at hcs
  subst hcs
  obtain ⟨l,hl1,hl2⟩:=exList (fun i (z:α)=>∃cs,W.cells? 0 (a.add (i*size)) size=some cs∧cs.length=size∧E z cs∧Pz z) len fun i hi=>by
   have h1:=hel i hi
   rw[hsz,List.getElem?_eq_getElem (by omega)]at h1
   obtain ⟨cs,h3,h4⟩:=Option.bind_eq_some_iff.1 h1
   obtain ⟨z,h5,h6⟩:=hE cs n _ (by omega) h4
   exact ⟨z,cs,h3,h5,h6⟩
  refine ⟨l,⟨⟨some a,cap,by rw[hl1],by rw[hl1];exact hl,fun hp=>?_⟩,fun z hz=>?_⟩,by rw[hl1];unfold maxLen at hm;omega⟩
  rotate_left
  ·obtain ⟨i,hi⟩:=List.mem_iff_getElem?.1 hz
   obtain ⟨cs,_,_,_,h4⟩:=hl2 i z hi
   exact h4
  obtain ⟨b,off,spot⟩:=a
  obtain ⟨z0,hz0⟩:∃z,l[0]?=some z:=⟨_,List.getElem?_eq_getElem hp⟩
  obtain ⟨cs0,h0,h0l,_,_⟩:=hl2 0 z0 hz0
  have hc0:=(World.cells?_some h0).2.2 0 (by omega)
  have hv0:∃u,cs0[0]?=some u:=⟨_,List.getElem?_eq_getElem (by omega)⟩
  obtain ⟨u0,hu0⟩:=hv0
  rw[hu0]at hc0
  have hspot:spot=none:=by simpa[Addr.add]using World.cell?_spot hc0
  subst hspot
  rw[add_plain,add_plain]at hc0
  refine ⟨b,off,rfl,World.block_lt_of_cell? _ _ hc0,fun i z hz=>?_⟩
  obtain ⟨cs,h1,h2,h3,_⟩:=hl2 i z hz
  refine ⟨cs,h2,h3,fun j u hj=>?_⟩
  have hjl:=(List.getElem?_eq_some_iff.1 hj).1
  have:=(World.cells?_some h1).2.2 j (by omega)
  rw[hj,add_plain,add_plain]at this
  rw[←Nat.add_assoc];exact this
theorem cellsOf_Flt:Tryz.prog.cellsOf 31=5:=by kernel_rfl
theorem cellsOf_kind:Tryz.prog.cellsOf 28=1:=by kernel_rfl
theorem cellsOf_flts:Tryz.prog.cellsOf 29=1:=by kernel_rfl
theorem flt_open:∀(fuel:Nat) (cs:List Value) (x:DataW H×List MemPlace),DataW.trod enc Tryz.prog W 0 (fun _=>true) true fuel 31 cs=some x→∃f,cs.length=5∧FltC W W.heap.size fuel f cs∧fLen f:=by
 intro fuel
 induction fuel using Nat.strongRecOn with
 |_ fuel ih=>
 intro cs x h
 obtain ⟨xs,n,rfl,rfl,hl,hxs,hf⟩:=DataW.trod_struct Tryz.underlying31 h
 rw[cellsOf_Flt]at hl
 match cs,hl with
 |[a,b,c,d,e],_=>
 match xs,hxs with
 |[y0,y1,y2,y3,y4],_=>
 have h0:DataW.trod enc Tryz.prog W 0 (fun _=>true) true n 28 [a]=some y0:=by have:=hf 0 _ rfl;simpa[cellsOf_kind]using this
 have h1:DataW.trod enc Tryz.prog W 0 (fun _=>true) true n 9 [b]=some y1:=by have:=hf 1 _ rfl;simpa[cellsOf_string]using this
 have h2:DataW.trod enc Tryz.prog W 0 (fun _=>true) true n 9 [c]=some y2:=by have:=hf 2 _ rfl;simpa[cellsOf_string]using this
 have h3:DataW.trod enc Tryz.prog W 0 (fun _=>true) true n 26 [d]=some y3:=by have:=hf 3 _ rfl;simpa[cellsOf_strs]using this
 have h4:DataW.trod enc Tryz.prog W 0 (fun _=>true) true n 29 [e]=some y4:=by have:=hf 4 _ rfl;simpa[cellsOf_flts]using this
 obtain ⟨k,e0,_,_⟩:=DataW.trod_int Tryz.underlying28 h0
 obtain ⟨s1,e1,_,_⟩:=DataW.trod_string Tryz.underlying9 h1
 obtain ⟨s2,e2,_,_⟩:=DataW.trod_string Tryz.underlying9 h2
 obtain ⟨ps,hp,hpl⟩:=strs_open h3
 obtain ⟨ks,⟨hk,hkx⟩,hkl⟩:=sl_openN2 (E:=FltC W W.heap.size n) (Pz:=fLen) Tryz.underlying29 cellsOf_Flt (by decide) h4 fun cs m y hm hy=>by
  obtain ⟨g,g1,g2,g3⟩:=ih m (by omega) cs y hy
  exact ⟨g,g1,FltC.deep (by omega) g2,g3⟩
 simp at e0 e1 e2
 subst e0 e1 e2
 exact ⟨.mk k (L s1) (L s2) ps ks,rfl,⟨d,e,rfl,hp,hk⟩,by rw[fLen];exact ⟨hpl,hkl,fLens_all.2 hkx⟩⟩
end
end Go.Proofs.YtbkkchhimhlhcaaGreatDoor
