/- Part 26 of the proof that identitylaw12.SearchChecks returns true for every data that it may be called with: proof: the package variables hold what the program lays; nothing else is asked. -/
import Derived.Test.YtbkkchhimhlhcaaGreatDoorSrk24
import Derived.Test.YtbkkchhimhlhcaaGreatDoorSrk25
set_option linter.unusedVariables false
set_option linter.unusedSimpArgs false
set_option maxRecDepth 100000
set_option maxHeartbeats 16000000
/- attrs: the order of Sorted. -/
namespace Go.Proofs.YtbkkchhimhlhcaaGreatDoor
open Go.RowKit Go.Sort
open Idn (L B Bs drop_L take_L size_L)
theorem AttOwn.atts {w:World} {base:Nat} {v:Value} {ps:List (Idn.Att×Value)} {l:List Idn.Att} (h:AttOwn w base v ps) (hl:ps.map (·.1)=l):AttsV w w.heap.size v l:=by
 subst hl
 have h0:=h.1
 rw[show ps.length=(ps.map (·.1)).length by simp]at h0
 refine SlV.own h0 fun i x hx=>?_
 rw[List.getElem?_map]at hx
 obtain ⟨p,hp,rfl⟩:=Option.map_eq_some_iff.1 hx
 obtain ⟨e1,e2⟩:=rowA_at ps i p hp
 refine ⟨[sv p.1.name,p.2],rfl,⟨p.2,rfl,StrsV.of_own (h.2.1 p (List.mem_of_getElem? hp))⟩,fun j u hj=>?_⟩
 match j,hj with
 |0,hj=>simp at hj;subst hj;exact e1
 |1,hj=>simp at hj;subst hj;exact e2
theorem sorted3_any (x y:Bs) (A A':Option Addr) (n c n' c':Nat) (w:World):Calls Tryz.prog 138 #[.agg #[.string (B x),.slice A n c],.agg #[.string (B y),.slice A' n' c']] w fun e w'=>e=.returned (.int .i64 (if x<y then -1 else 1))∧∃q os',w'=grow (w.drewN q) os':=by
 have hb:Op.bytesLess (B x).toList (B y).toList=decide (x<y):=by rw[bytesLess_eq,toList_L,toList_L,Idn.L_B,Idn.L_B]
 by_cases h:x<y
 ·rw[if_pos h]
  rw[decide_eq_true h]at hb
  generalize B x=bx at *
  generalize B y=bz at *
  go_enter Tryz.func138,Tryz.ntmps138
  go_wp2
  go_ret
  exact ⟨rfl,0,_,by rw[alloc_eq_grow,alloc_eq_grow,grow_grow];rfl⟩
 ·rw[if_neg h]
  rw[decide_eq_false h]at hb
  generalize B x=bx at *
  generalize B y=bz at *
  go_enter Tryz.func138,Tryz.ntmps138
  go_wp2
  go_ret
  exact ⟨rfl,0,_,by rw[alloc_eq_grow,alloc_eq_grow,grow_grow];rfl⟩
theorem isAggA (w:World):(isAgg (Tryz.sortA_ren.t 24)).run Tryz.prog w=.ok true w:=by kernel_rfl
theorem sizeA (w:World):(Go.sizeOf (Tryz.sortA_ren.t 24)).run Tryz.prog w=.ok 2 w:=by kernel_rfl
theorem heap_sortedV {w : World} {g n : Nat} {os : Array Obj} {cur : Array Value} {e : TypeId} {fr : Nat × Nat} (F : Array Value) (hb : w.heap[g]? = some (.cells cur e fr)) :
  (grow (putRow id (Go.Sort.ahead w n) g 0 F) os).heap[g]?=some (.cells (putCells id 0 F cur) e fr):=by
 have hg:g<w.heap.size:=(Array.getElem?_eq_some_iff.1 hb).1
 rw[heap_grow_old _ _ (by simpa using hg)]
 simp[putRow,mapBlock,Go.Sort.ahead,Array.getElem?_modify,hb,onCells]
theorem grownBy_sortedV {w:World} {g n:Nat} {os:Array Obj} (F:Array Value):w.grownBy (grow (putRow id (Go.Sort.ahead w n) g 0 F) os) (some g):=by
 refine ⟨rfl,rfl,rfl,by simp,fun k hk hne=>?_⟩
 rw[heap_grow_old _ _ (by simpa using hk)]
 have:g≠k:=fun e=>hne (by rw[e])
 simp[putRow,mapBlock,Go.Sort.ahead,Array.getElem?_modify,this]
theorem take_putCellsV (cur F:Array Value) (h:F.size≤cur.size):(putCells id 0 F cur).toList.take F.size=F.toList:=by
 apply List.ext_getElem?
 intro j
 by_cases hj:j<F.size
 ·rw[List.getElem?_take_of_lt hj,Array.getElem?_toList,Array.getElem?_toList]
  simp[putCells,hj,show j<cur.size by omega]
 ·rw[List.getElem?_take_eq_none (by omega),List.getElem?_eq_none (by simp;omega)]
section
variable {qs:List (Idn.Att×Value)}
def encA (p:{p:Idn.Att×Value // p∈qs}):List Value:=[sv p.1.1.name,p.1.2]
def cfA (x y:{p:Idn.Att×Value // p∈qs}):Int:=if x.1.1.name<y.1.1.name then -1 else 1
theorem ltA (x y:{p:Idn.Att×Value // p∈qs}):ltOf cfA x y=decide (x.1.1.name<y.1.1.name):=by
 unfold ltOf cfA
 by_cases h:x.1.1.name<y.1.1.name<;>simp[h]
theorem swoA:SWO (ltOf (cfA (qs:=qs))) where
 irrefl x:=by rw[ltA];simp
 trans x y z h1 h2:=by
  rw[ltA]at *
  simp only[decide_eq_true_eq]at *
  exact List.lt_trans h1 h2
 ntrans x y z h1 h2:=by
  rw[ltA]at *
  simp only[decide_eq_false_iff_not]at *
  rw[List.not_lt]at *
  exact List.le_trans h2 h1
theorem flatA [Inhabited {p:Idn.Att×Value // p∈qs}] (l:List {p:Idn.Att×Value // p∈qs}):(Go.Sort.flatK encA 2 l.toArray).toList=rowA (l.map (·.1)):=by
 apply List.ext_getElem?
 intro j
 by_cases hj:j<l.length*2
 ·have hs:j<(Go.Sort.flatK encA 2 l.toArray).size:=by simpa using hj
  rw[Array.getElem?_toList,Array.getElem?_eq_getElem hs]
  have e:=get_flatK encA 2 l.toArray j (by simpa using hj)
  rw[getElem!_pos _ j hs]at e
  rw[e]
  have hi:j / 2<l.length:=by omega
  have hr:=rowA_at (l.map (·.1)) (j / 2) l[j / 2].1 (by simp[hi])
  have hd:l.toArray[j / 2]! =l[j / 2]:=by simp[hi]
  rw[hd]
  have hm:=Nat.mod_two_eq_zero_or_one j
  have hj2:j=j / 2*2+j % 2:=by omega
  have hr2:(rowA (l.map (·.1)))[j]?=(rowA (l.map (·.1)))[j / 2*2+j % 2]?:=by rw[←hj2]
  rw[hr2]
  generalize l[j / 2]=x at *
  rcases hm with h0|h0
  ·rw[h0,Nat.add_zero,hr.1];simp[encA]
  ·rw[h0,hr.2];simp[encA]
 ·rw[List.getElem?_eq_none (by simp;omega),List.getElem?_eq_none (by rw[rowA_len];simp;omega)]
end
theorem sortA_any (v : Value) (base : Nat) (qs : List (Idn.Att × Value)) (w : World) (hown : AttOwn w base v qs) (hbase : base ≤ w.heap.size) (hl : qs.length ≤ 1000) (hnd : ((qs.map (·.1)).map (·.name)).Nodup) :
  Calls Tryz.prog 137 #[v,.func (.func 138) #[] #[]] w fun e w'=>e=.returned (.tuple #[])∧∃qs',AttOwn w' base v qs'∧qs'.map (·.1)=(qs.map (·.1)).mergeSort (fun a b=>decide (a.name≤b.name))∧Below base w w':=by
 by_cases h0:qs=[]
 ·subst h0
  obtain ⟨A,c,hv⟩:=own_shape hown.1
  have h:=AnyF.slices_SortFunc_none Tryz.sortA A c (.func (.func 138) #[] #[]) w
  change Calls Tryz.prog 137 _ _ _ at h
  rw[hv]
  refine h.mono ?_
  rintro e w' ⟨rfl,rfl⟩
  exact ⟨rfl,[],by rw[←hv];exact hown,by simp,Below.refl _ _⟩
 ·have hpos:0<qs.length:=List.length_pos_iff.2 h0
  rcases hown.1.2 with ⟨_,hn0⟩|⟨g,cap,cur,hu,hbg,hbk,h1,h2,h3,h4⟩
  ·omega
  letI:Inhabited {p:Idn.Att×Value // p∈qs}:=⟨⟨qs[0],List.getElem_mem hpos⟩⟩
  have hsz:qs.attach.toArray.size=qs.length:=by simp
  have hfl:=flatA (qs:=qs) qs.attach
  rw[List.attach_map_subtype_val]at hfl
  have hH:HoldsK encA 2 w g 0 qs.attach.toArray:=fun j hj=>by
   rw[size_flatK,hsz]at hj
   have hjs:j<(Go.Sort.flatK encA 2 qs.attach.toArray).size:=by rw[size_flatK,hsz];exact hj
   refine ⟨?_,Lib.frozen_of_heap hbk _⟩
   rw[Nat.zero_add,cell_of_row w g j _ _ (0,0) hbk,getElem!_pos _ j hjs,←Array.getElem?_toList]
   have:=congrArg (·[j]?) h4
   simp only[List.getElem?_take_of_lt hj]at this
   rw[this,←hfl,Array.getElem?_toList,Array.getElem?_eq_getElem hjs]
   rfl
  have hcmp:CmpLays Tryz.prog 138 #[] encA 2 (cfA (qs:=qs)) g 0 qs.attach.toArray.size w:=fun m os dk _ x y=>by
   obtain ⟨A1,c1,e1⟩:=own_shape (hown.2.1 _ x.2)
   obtain ⟨A2,c2,e2⟩:=own_shape (hown.2.1 _ y.2)
   show Calls Tryz.prog _ #[.agg #[sv x.1.1.name,x.1.2],.agg #[sv y.1.1.name,y.1.2]] _ _
   rw[e1,e2]
   exact sorted3_any _ _ _ _ _ _ _ _ _
  have hT:∀x y:{p:Idn.Att×Value // p∈qs},ltOf cfA x y=false→ltOf cfA y x=false→x=y:=fun x y a b=>by
   rw[ltA]at a b
   simp only[decide_eq_false_iff_not]at a b
   rw[List.not_lt]at a b
   have e:x.1.1.name=y.1.1.name:=List.le_antisymm b a
   rw[List.map_map]at hnd
   obtain ⟨i,hi,hxi⟩:=List.getElem_of_mem x.2
   obtain ⟨j,hj,hyj⟩:=List.getElem_of_mem y.2
   have hij:i=j:=by
    have hi':i<(qs.map ((·.name)∘(·.1):Idn.Att×Value→Bs)).length:=by simpa using hi
    have hj':j<(qs.map ((·.name)∘(·.1):Idn.Att×Value→Bs)).length:=by simpa using hj
    have hpw:=List.pairwise_iff_getElem.1 hnd
    rcases Nat.lt_trichotomy i j with hlt|hlt|hlt
    ·exact absurd (by simp[hxi,hyj,e]) (hpw i j hi' hj' hlt)
    ·exact hlt
    ·exact absurd (by simp[hxi,hyj,e]) (hpw j i hj' hi' hlt)
   subst hij
   exact Subtype.ext (hxi.symm.trans hyj)
  have h:=AnyQ.slices_SortFunc_total Tryz.sortA 2 isAggA sizeA encA (fun _=>rfl) (fun x v hv=>by
   obtain ⟨A1,c1,e1⟩:=own_shape (hown.2.1 _ x.2)
   unfold encA at hv
   rw[e1]at hv
   simp at hv
   rcases hv with rfl|rfl<;>rfl) cfA swoA 138 #[] g 0 cap qs.attach.toArray w fn_sorted3 hcmp hH (Array.getElem?_eq_some_iff.1 hbk).1 (by rw[hsz];omega) hT
  change Calls Tryz.prog 137 _ _ _ at h
  rw[hsz]at h
  rw[hu]
  refine h.mono ?_
  rintro e w' ⟨rfl,n,os,rfl⟩
  clear h
  generalize hms:(qs.attach.toArray.toList.mergeSort fun x y=>!ltOf cfA y x)=ms
  have hperm:(ms.map (·.1)).Perm qs:=by
   rw[←hms]
   have:=(List.mergeSort_perm qs.attach fun x y=>!ltOf cfA y x).map Subtype.val
   rwa[List.attach_map_subtype_val]at this
  have hml:ms.length=qs.length:=by simpa using hperm.length_eq
  have hg:w.grownBy (sortWorldK encA 2 w g 0 n ms.toArray os) (some g):=grownBy_sortedV _
  have hfm:=flatA (qs:=qs) ms
  have hFs:(Go.Sort.flatK encA 2 ms.toArray).size=qs.length*2:=by simp[hml]
  refine ⟨rfl,ms.map (·.1),⟨?_,?_,?_⟩,?_,(Below.refl base w).grown hg hbase (fun k hk=>by injection hk with hk;omega)⟩
  ·rw[List.length_map,hml]
   refine ⟨by rw[rowA_len,List.length_map,hml],.inr ⟨g,cap,_,rfl,hbg,heap_sortedV _ hbk,h1,h2,by simp[putCells,h3],?_⟩⟩
   rw[←hfm,←hFs]
   exact take_putCellsV cur _ (by rw[hFs,h3];exact Nat.mul_le_mul_right 2 h1)
  ·intro p hp
   have hp':=hperm.mem_iff.1 hp
   refine own_kept (hown.2.1 p hp') hg fun k hk hk'=>?_
   refine own_apart hown.1 (hown.2.1 p hp') (by decide) g (by rw[hu];rfl) ?_
   rw[hk,hk']
  ·exact (hperm.pairwise_iff (fun h=>Apart.symm h)).2 hown.2.2
  ·rw[←hms,List.map_map]
   rw[List.map_mergeSort (s:=fun a b:Idn.Att=>decide (a.name≤b.name)) (fun a _ b _=>by
    rw[ltA]
    rw[Bool.eq_iff_iff]
    simp[←List.not_lt])]
   congr 1
   have:=congrArg (List.map (·.1)) (List.attach_map_subtype_val qs)
   rw[List.map_map]at this
   simpa using this
end Go.Proofs.YtbkkchhimhlhcaaGreatDoor
