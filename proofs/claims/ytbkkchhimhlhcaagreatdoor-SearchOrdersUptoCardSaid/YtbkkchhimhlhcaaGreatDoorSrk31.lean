/- Part 31 of the proof that identitylaw12.SearchChecks returns true for every data that it may be called with: proof: the package variables hold what the program lays; nothing else is asked. -/
import Derived.Test.YtbkkchhimhlhcaaGreatDoorSrk03
import Derived.Sort.KeysCollected
set_option linter.unusedVariables false
set_option linter.unusedSimpArgs false
set_option maxRecDepth 100000
set_option maxHeartbeats 16000000
/- Maps keyed by strings, read as functions: what stands at a key. A world in which nothing has turned but some blocks. -/
namespace Go.Proofs.YtbkkchhimhlhcaaGreatDoor
open Go.RowKit Go.Maps
open Idn (L B Bs)
structure Mv (S:Nat→Prop) (w w':World):Prop where
 os:w'.os=w.os
 tape:w'.tape=w.tape
 output:w'.output=w.output
 size:w.heap.size≤w'.heap.size
 block:∀k,k<w.heap.size→¬S k→w'.heap[k]?=w.heap[k]?
section
variable {S T:Nat→Prop} {w w' w'':World}
theorem Mv.refl (S:Nat→Prop) (w:World):Mv S w w:=⟨rfl,rfl,rfl,Nat.le_refl _,fun _ _ _=>rfl⟩
theorem Mv.trans (h:Mv S w w') (k:Mv T w' w'') (hT:∀j,T j→S j∨w.heap.size≤j):Mv S w w'':=
 ⟨k.os.trans h.os,k.tape.trans h.tape,k.output.trans h.output,Nat.le_trans h.size k.size,fun i hi hS=>(k.block i (Nat.lt_of_lt_of_le hi h.size) (fun hTi=>by
  rcases hT i hTi with h1|h1
  ·exact hS h1
  ·omega)).trans (h.block i hi hS)⟩
theorem Mv.mono (h:Mv S w w') (hS:∀j,S j→T j):Mv T w w':=⟨h.os,h.tape,h.output,h.size,fun i hi hT=>h.block i hi fun hSi=>hT (hS i hSi)⟩
theorem Mv.of_below (h:Below w.heap.size w w') (S:Nat→Prop):Mv S w w':=⟨h.os,h.tape,h.output,h.size,fun k hk _=>h.block k hk⟩
theorem Mv.below (h:Mv S w w') {lo:Nat} (hS:∀j,S j→lo≤j) (hw:lo≤w.heap.size):Below lo w w':=
 ⟨h.os,h.tape,h.output,h.size,fun k hk=>h.block k (by omega) fun hj=>by have:=hS k hj;omega⟩
theorem Mv.then_below (h:Mv S w w') (k:Below w'.heap.size w' w''):Mv S w w'':=h.trans (Mv.of_below k S) fun _ h=>.inl h
theorem Mv.of_grown {row:Option Nat} (h:w.grownBy w' row) (hS:∀j,row=some j→S j):Mv S w w':=
 ⟨h.os,h.tape,h.output,h.size,fun k hk hj=>h.block k hk fun e=>hj (hS k e.symm)⟩
theorem Mv.grown {b:Nat} (h:Mv (·=b) w w'):w.grownBy w' (some b):=⟨h.os,h.tape,h.output,h.size,fun k hk hne=>h.block k hk fun e=>hne (by rw[e])⟩
theorem Mv.drew (h:Mv S w w'):Mv S w w'.drew:=⟨h.os,h.tape,h.output,h.size,h.block⟩
def AllMap (w:World) (S:Nat→Prop):Prop:=∀k,S k→∃es c,w.heap[k]?=some (.map es c)
theorem Mv.cell (h:Mv S w w') (hS:AllMap w S) {a:Addr} {u:Value} (hc:w.cell? a=some u):w'.cell? a=some u:=by
 have hlt:=World.block_lt_of_cell? _ _ hc
 rw[World.cell?_of_block (h.block _ hlt fun hj=>?_)]
 ·exact hc
 ·obtain ⟨es,c,he⟩:=hS _ hj
  unfold World.cell? at hc
  rw[he]at hc
  cases hc
end
def heldR (v:Value):Option (DataW Value×List MemPlace):=some (.held v,[])
def heldD:DataW Value→Option Value
 |.held v=>some v
 |_=>none
def dv (D:DataW Value) (x:Bs):Option Value:=heldD (D.atKey (.string x) .nil)
theorem keyB {k:Bs} (hk:k.length≤maxLen):keyOf Tryz.prog 9 (.string (B k))=some (.string k):=by
 have h:=WideMaps.keyOf_string_mk (P:=Tryz.prog) (k:=9) Tryz.underlying9 (s:=B k) (by rw[Idn.size_B];exact hk)
 rw[h]
 exact congrArg (fun x=>some (Lit.string x)) (Idn.L_B k)
theorem kStr:Keyed Tryz.prog 9:=string_keyed Tryz.underlying9
def MapF (w:World) (b:Nat) (f:Bs→Option Value):Prop:=∃D,w.ownsMap Tryz.prog 9 heldR b (Maps.size D) D∧dv D=f
def RangeF (w:World) (b r:Nat) (f:Bs→Option Value) (left:Bs→Bool):Prop:=
 ∃D cnt lft,w.ranges Tryz.prog 9 heldR b r (Maps.size D) D lft cnt∧dv D=f∧∀x,lft (.string x)=left x
section
variable {w w':World} {b r n:Nat} {D:DataW Value} {f:Bs→Option Value} {left:Bs→Bool}
theorem owns_tight (h:w.ownsMap Tryz.prog 9 heldR b n D):w.ownsMap Tryz.prog 9 heldR b (Maps.size D) D:=by
 obtain ⟨es,clock,hb,F,_,rfl⟩:=h
 exact ⟨es,clock,hb,F,by simp[Maps.size,length_sorted],rfl⟩
theorem owns_held (h:w.ownsMap Tryz.prog 9 heldR b n D):∃es,D=.map es∧es.Pairwise (fun p q=>p.1≠q.1)∧∀p∈es,∃x v,p=(.string x,.held v)∧x.length≤maxLen:=by
 obtain ⟨es0,h1,h2,_⟩:=h.entries kStr
 obtain ⟨es,clock,hb,F,_,h3⟩:=h
 refine ⟨es0,h1,h2,fun p hp=>?_⟩
 rw[h1]at h3
 injection h3 with h3
 rw[h3]at hp
 obtain ⟨x,hx,rfl⟩:=List.mem_map.1 (mem_sorted.1 hp)
 obtain ⟨y,hy⟩:=F.reads x hx
 obtain ⟨z,hz,hzd⟩:=WideElems.rd_val hy
 obtain ⟨k,_,hk,hl⟩:=Maps.keyOf_str Tryz.underlying9 (WideElems.rd_key hy)
 rw[WideElems.rg_of hy]
 refine ⟨k,x.val,?_,hl⟩
 obtain ⟨y1,y2⟩:=y
 simp only[heldR,Option.some.injEq]at hz
 simp only at hk hzd
 rw[hk,hzd,←hz]
theorem atKey_eq (es:List (Lit×DataW Value)) (k:Lit) (z:DataW Value):(DataW.map es).atKey k z=((es.find? fun p=>p.1.sameKey k).map (·.2)).getD z:=by
 unfold DataW.atKey
 simp only[]
 cases es.find? (fun p=>p.1.sameKey k)<;>rfl
theorem isKey (x:Bs):WideAt.IsKeyLit (.string x):=trivial
theorem atKey_held {es : List (Lit × DataW Value)} (hh : ∀ p ∈ es, ∃ x v, p = (Lit.string x, DataW.held v) ∧ x.length ≤ maxLen) (x : Bs) (z : Value) :
    (DataW.map es).atKey (.string x) (.held z)=.held ((dv (.map es) x).getD z)∧Maps.has (.map es) (.string x)=(dv (.map es) x).isSome:=by
 unfold dv
 rw[atKey_eq,atKey_eq,Maps.has_eq,←List.isSome_find?]
 cases hf:es.find? (fun p=>p.1.sameKey (.string x))with
 |none=>exact ⟨rfl,rfl⟩
 |some p=>
  obtain ⟨y,v,rfl,_⟩:=hh p (List.mem_of_find?_eq_some hf)
  exact ⟨rfl,rfl⟩
theorem MapF.lt (h:MapF w b f):b<w.heap.size:=by obtain ⟨D,h,_⟩:=h;exact h.lt
theorem MapF.isMap (h:MapF w b f):∃es c,w.heap[b]?=some (.map es c):=by obtain ⟨D,⟨es,c,hb,_⟩,_⟩:=h;exact ⟨es,c,hb⟩
theorem MapF.block (h:MapF w b f) (hb:w'.heap[b]?=w.heap[b]?):MapF w' b f:=by
 obtain ⟨D,⟨es,c,h0,r⟩,h2⟩:=h
 exact ⟨D,⟨es,c,hb.trans h0,r⟩,h2⟩
theorem MapF.mv {S:Nat→Prop} (h:MapF w b f) (hm:Mv S w w') (hS:¬S b):MapF w' b f:=h.block (hm.block b h.lt hS)
theorem MapF.keep (h:MapF w b f) (hm:Below w.heap.size w w'):MapF w' b f:=h.block (hm.block b h.lt)
theorem MapF.made (w:World):MapF (w.alloc (.map #[] 0)) w.heap.size (fun _=>none):=
 ⟨.map [],World.ownsMap_made w _ _ _,by funext x;rfl⟩
theorem MapF.keys (h:MapF w b f):∃ks:List Bs,ks.Nodup∧(∀x,x∈ks↔f x≠none)∧∃D,w.ownsMap Tryz.prog 9 heldR b (Maps.size D) D∧dv D=f∧Maps.size D=ks.length∧strKeys D=ks:=by
 obtain ⟨D,h,hf⟩:=h
 obtain ⟨es,rfl,hp,hh⟩:=owns_held h
 refine ⟨strKeys (.map es),?_,fun x=>?_,.map es,h,hf,by simp[Maps.size,strKeys],rfl⟩
 ·show (es.map fun p=>strOf p.1).Nodup
  refine List.pairwise_map.2 (hp.imp_of_mem fun {p q} hp' hq' hne e=>hne ?_)
  obtain ⟨x,v,rfl,_⟩:=hh p hp'
  obtain ⟨y,u,rfl,_⟩:=hh q hq'
  exact congrArg Lit.string e
 ·have h1:=(atKey_held hh x (.bool false)).2
  rw[hf]at h1
  have e:(x∈strKeys (.map es))↔Maps.has (.map es) (.string x)=true:=by
   show x∈es.map (fun p=>strOf p.1)↔es.any (fun p=>p.1.sameKey (.string x))=true
   rw[List.mem_map,List.any_eq_true]
   constructor
   ·rintro ⟨p,hp',rfl⟩
    obtain ⟨y,v,rfl,_⟩:=hh p hp'
    exact ⟨_,hp',WideAt.sameKey_self (isKey _)⟩
   ·rintro ⟨p,hp',he⟩
    refine ⟨p,hp',?_⟩
    rw[WideAt.sameKey_eq he];rfl
  rw[e,h1]
  cases f x<;>simp
theorem nodup_lenS {l k:List Bs} (h:l.Nodup) (hs:∀x∈l,x∈k):l.length≤k.length:=by
 induction l generalizing k with
 |nil=>simp
 |cons x l ih=>
  obtain ⟨h1,h2⟩:=List.nodup_cons.1 h
  have hx:=hs x (by simp)
  have:=ih (k:=k.erase x) h2 fun y hy=>by
   have hne:y≠x:=fun e=>h1 (e▸hy)
   exact (List.mem_erase_of_ne hne).2 (hs y (by simp[hy]))
  rw[List.length_erase_of_mem hx]at this
  have hpos:0<k.length:=List.length_pos_of_mem hx
  simp only[List.length_cons];omega
theorem dv_put {es:List (Lit×DataW Value)} (k:Bs) (v:Value):dv ((DataW.map es).put (.string k) (.held v))=fun x=>if x=k then some v else dv (.map es) x:=by
 funext x
 unfold dv
 by_cases hx:x=k
 ·subst hx
  rw[if_pos rfl,Maps.atKey_put_same ⟨_,rfl⟩ (isKey x)];rfl
 ·rw[if_neg hx,Maps.atKey_put_other (fun e=>hx (by injection e))]
theorem dv_del {es:List (Lit×DataW Value)} (k:Bs):dv ((DataW.map es).del (.string k))=fun x=>if x=k then none else dv (.map es) x:=by
 funext x
 unfold dv
 by_cases hx:x=k
 ·subst hx
  rw[if_pos rfl,Maps.atKey_del_same];rfl
 ·rw[if_neg hx,Maps.atKey_del_other (fun e=>hx (by injection e))]
theorem RangeF.kept (h:RangeF w b r f left) (hb:w'.heap[b]?=w.heap[b]?) (hr:w'.heap[r]?=w.heap[r]?):RangeF w' b r f left:=by
 obtain ⟨D,cnt,lft,⟨es,clock,since,seen,c0,h1,h2,h3,h4,h5,rest⟩,h6⟩:=h
 exact ⟨D,cnt,lft,⟨es,clock,since,seen,c0,hb.trans h1,h2,h3,h4,hr.trans h5,rest⟩,h6⟩
theorem RangeF.lt (h:RangeF w b r f left):b<w.heap.size∧r<w.heap.size∧r≠b:=by
 obtain ⟨D,cnt,lft,h,_⟩:=h
 exact ⟨h.owns.lt,h.lt,h.ne⟩
theorem RangeF.iter (h:RangeF w b r f left):∃m s sn c,w.heap[r]?=some (.mapIter m s sn c):=by
 obtain ⟨D,cnt,lft,⟨es,clock,since,seen,c0,h1,h2,h3,h4,h5,rest⟩,h6⟩:=h
 exact ⟨_,_,_,_,h5⟩
theorem RangeF.map (h:RangeF w b r f left):MapF w b f:=by
 obtain ⟨D,cnt,lft,h,h2,_⟩:=h
 exact ⟨D,h.owns,h2⟩
theorem RangeF.mv {S:Nat→Prop} (h:RangeF w b r f left) (hm:Mv S w w') (hb:¬S b) (hr:¬S r):RangeF w' b r f left:=
 h.kept (hm.block b h.lt.1 hb) (hm.block r h.lt.2.1 hr)
theorem rangeLeft_same (hb:w'.heap[b]?=w.heap[b]?) (hr:w'.heap[r]?=w.heap[r]?):w'.rangeLeft b r=w.rangeLeft b r:=by
 simp[World.rangeLeft,hb,hr]
theorem RangeF.left_mv {S:Nat→Prop} (h:RangeF w b r f left) (hm:Mv S w w') (hb:¬S b) (hr:¬S r):w'.rangeLeft b r=w.rangeLeft b r:=
 rangeLeft_same (hm.block b h.lt.1 hb) (hm.block r h.lt.2.1 hr)
end
section
variable {w:World} {b:Nat} {f:Bs→Option Value} {e t:TypeId}
theorem MapF.run_look (hf : MapF w b f) (ht : Tryz.prog.underlying t = some (.map 9 e)) {z : Value} (hz : (zeroValue e).run Tryz.prog w = .ok z w) {k : Bs} (hk : k.length ≤ maxLen) :
  (Instr.lookup t (.map (some b)) (.string (B k)) true).run Tryz.prog w=.ok (.tuple #[(f k).getD z,.bool (f k).isSome]) w:=by
 obtain ⟨D,h,rfl⟩:=hf
 obtain ⟨es,rfl,_,hh⟩:=owns_held h
 obtain ⟨v,ps,hrun,hv⟩:=h.look_ok (zd:=.held z) (zp:=[]) kStr ht hz rfl (keyB hk)
 obtain ⟨h1,h2⟩:=atKey_held hh k z
 rw[h1]at hv
 simp only[heldR,Option.some.injEq,Prod.mk.injEq,DataW.held.injEq]at hv
 rw[hrun,hv.1,h2]
theorem MapF.run_put (hf : MapF w b f) (ht : Tryz.prog.underlying t = some (.map 9 e)) {l : List Bs} (hl : ∀ y, f y ≠ none → y ∈ l) (hll : l.length ≤ 1000000000) {k : Bs} (hk : k.length ≤ maxLen) (val : Value) :
  ∃w',(Instr.mapUpdate t (.map (some b)) (.string (B k)) val).run Tryz.prog w=.ok () w'∧MapF w' b (fun y=>if y=k then some val else f y)∧Mv (·=b) w w'∧w'.heap.size=w.heap.size:=by
 obtain ⟨ks,hnd,hks,D,h,hdv,hsz,_⟩:=hf.keys
 subst hdv
 have hn:ks.length≤l.length:=nodup_lenS hnd fun y hy=>hl y ((hks y).1 hy)
 obtain ⟨es,rfl,_,hh⟩:=owns_held h
 obtain ⟨w',hrun,h',ht'⟩:=h.store (d:=.held val) (ps:=[]) kStr ht (by rw[hsz];unfold maxLen;omega) (keyB hk) rfl
 refine ⟨w',hrun,⟨_,owns_tight h',dv_put k val⟩,Mv.of_grown ht'.grown fun j hj=>(Option.some.inj hj).symm,?_⟩
 obtain ⟨_,_,_,_,_,rfl⟩:=ht'
 simp[ChangeMaps.setBlock]
end
section
variable (w:World) {ops:Array Oper} {rest:List Oper} {o:Oper} {a:Act} {Q:Exit→Act→World→Prop} {e:TypeId}
theorem wpList_lookF (hg : o.guard = none) (m x : Operand) (t : TypeId) (hop : o.op = Op.lookup t m x true) (ht : Tryz.prog.underlying t = some (.map 9 e)) {z : Value} (hz : (zeroValue e).run Tryz.prog w = .ok z w)
  {b:Nat} {f:Bs→Option Value} (hm:a.eval m=.map (some b)) (hf:MapF w b f) (k:Bs) (hx:a.eval x=.string (B k)) (hk:k.length≤maxLen)
  (hK:wpList Tryz.prog ops Q rest (a.put o.dst (.tuple #[(f k).getD z,.bool (f k).isSome])) w):wpList Tryz.prog ops Q (o :: rest) a w:=by
 obtain ⟨D,h,rfl⟩:=hf
 obtain ⟨es,rfl,_,hh⟩:=owns_held h
 refine wpList_lookup_own_ok w hg m x t hop 9 e kStr ht heldR hz (.held z) [] rfl b _ _ hm h _ _ hx (keyB hk) fun v ps hv=>?_
 obtain ⟨h1,h2⟩:=atKey_held hh k z
 rw[h1]at hv
 simp only[heldR,Option.some.injEq,Prod.mk.injEq,DataW.held.injEq]at hv
 rw[h2,hv.1]
 exact hK
theorem wpList_look1F (hg : o.guard = none) (m x : Operand) (t : TypeId) (hop : o.op = Op.lookup t m x false) (ht : Tryz.prog.underlying t = some (.map 9 e)) {z : Value} (hz : (zeroValue e).run Tryz.prog w = .ok z w)
  {b:Nat} {f:Bs→Option Value} (hm:a.eval m=.map (some b)) (hf:MapF w b f) (k:Bs) (hx:a.eval x=.string (B k)) (hk:k.length≤maxLen)
  (hK:wpList Tryz.prog ops Q rest (a.put o.dst ((f k).getD z)) w):wpList Tryz.prog ops Q (o :: rest) a w:=by
 obtain ⟨D,h,rfl⟩:=hf
 obtain ⟨es,rfl,_,hh⟩:=owns_held h
 refine wpList_plain hg fun K' hK'=>?_
 obtain ⟨v,ps,hrun,hv⟩:=h.lookup (zd:=.held z) (zp:=[]) kStr ht hz rfl (keyB hk)
 obtain ⟨h1,h2⟩:=atKey_held hh k z
 rw[h1]at hv
 simp only[heldR,Option.some.injEq,Prod.mk.injEq,DataW.held.injEq]at hv
 rw[hv.1]at hrun
 unfold Oper.wp
 simp[execOp,hop,hm,hx,hrun,Result.andThen]
 exact hK' _ _ hK
theorem wpList_putF (hg : o.guard = none) (m x v : Operand) (t : TypeId) (hop : o.op = Op.mapUpdate t m x v) (ht : Tryz.prog.underlying t = some (.map 9 e))
  {b:Nat} {f:Bs→Option Value} (hm:a.eval m=.map (some b)) (hf:MapF w b f) {l:List Bs} (hl:∀y,f y≠none→y∈l) (hll:l.length≤1000000000) (k:Bs) (hx:a.eval x=.string (B k)) (hk:k.length≤maxLen) (val:Value) (hv:a.eval v=val)
  (hK:∀w',MapF w' b (fun y=>if y=k then some val else f y)→Mv (·=b) w w'→wpList Tryz.prog ops Q rest (a.put o.dst undef) w'):wpList Tryz.prog ops Q (o :: rest) a w:=by
 obtain ⟨ks,hnd,hks,D,h,hdv,hsz,_⟩:=hf.keys
 subst hdv
 have hn:ks.length≤l.length:=nodup_lenS hnd fun y hy=>hl y ((hks y).1 hy)
 obtain ⟨es,rfl,_,hh⟩:=owns_held h
 refine wpList_mapUpdate_own w hg m x v t hop 9 e kStr ht heldR b _ _ hm h (by rw[hsz];unfold maxLen;omega) _ val _ hx hv (keyB hk) (.held val) [] rfl fun w' h' hg'=>?_
 refine hK w' ⟨_,owns_tight h',dv_put k val⟩ (Mv.of_grown hg' fun j hj=>(Option.some.inj hj).symm)
theorem wpList_delF (hg : o.guard = none) (m x : Operand) (t : TypeId) (hop : o.op = Op.call { callee := Callee.builtin Builtin.delete, args := #[m, x], argTypes := #[t, 9] }) (ht : Tryz.prog.underlying t = some (.map 9 e))
  {b:Nat} {f:Bs→Option Value} (hm:a.eval m=.map (some b)) (hf:MapF w b f) (k:Bs) (hx:a.eval x=.string (B k)) (hk:k.length≤maxLen)
  (hK:∀w',MapF w' b (fun y=>if y=k then none else f y)→Mv (·=b) w w'→wpList Tryz.prog ops Q rest (a.put o.dst (.tuple #[])) w'):wpList Tryz.prog ops Q (o :: rest) a w:=by
 obtain ⟨D,h,rfl⟩:=hf
 obtain ⟨es,rfl,_,hh⟩:=owns_held h
 refine wpList_delete_own w hg m x t 9 hop e kStr ht heldR b _ _ hm h _ _ hx (keyB hk) fun w' h' ht'=>?_
 exact hK w' ⟨_,owns_tight h',dv_del k⟩ (Mv.of_grown ht'.grown fun j hj=>(Option.some.inj hj).symm)
theorem wpList_delNilF (hg : o.guard = none) (m x : Operand) (t : TypeId) (hop : o.op = Op.call { callee := Callee.builtin Builtin.delete, args := #[m, x], argTypes := #[t, 9] }) (ht : Tryz.prog.underlying t = some (.map 9 e))
  (hm:a.eval m=.map none) (k:Bs) (hx:a.eval x=.string (B k)) (hk:k.length≤maxLen)
  (hK:wpList Tryz.prog ops Q rest (a.put o.dst (.tuple #[])) w):wpList Tryz.prog ops Q (o :: rest) a w:=by
 refine wpList_plain hg fun K' hK'=>?_
 have hrun:=Maps.drop_nil (w:=w) kStr ht (keyB hk) o.type
 unfold Oper.wp
 simp[execOp,hop,resolve,invoke,builtin,hm,hx,hrun,Result.andThen]
 exact hK' _ _ hK
theorem wpList_lenF (hg : o.guard = none) (m : Operand) (t : TypeId) (hop : o.op = Op.call { callee := Callee.builtin Builtin.len, args := #[m], argTypes := #[t] }) (ht : Tryz.prog.underlying t = some (.map 9 e))
  {b:Nat} {f:Bs→Option Value} (hm:a.eval m=.map (some b)) (hf:MapF w b f)
  (hK:∀ks:List Bs,ks.Nodup→(∀x,x∈ks↔f x≠none)→wpList Tryz.prog ops Q rest (a.put o.dst (.int .i64 ks.length)) w):wpList Tryz.prog ops Q (o :: rest) a w:=by
 obtain ⟨ks,hnd,hks,D,h,hdv,hsz,_⟩:=hf.keys
 refine wpList_len_own w hg m t hop 9 e ht heldR b _ _ hm h ?_
 rw[hsz]
 exact hK ks hnd hks
theorem wpList_lenNilF (hg : o.guard = none) (m : Operand) (t : TypeId) (hop : o.op = Op.call { callee := Callee.builtin Builtin.len, args := #[m], argTypes := #[t] }) (ht : Tryz.prog.underlying t = some (.map 9 e))
  (hm:a.eval m=.map none) (hK:wpList Tryz.prog ops Q rest (a.put o.dst (.int .i64 0)) w):wpList Tryz.prog ops Q (o :: rest) a w:=by
 refine wpList_plain hg fun K' hK'=>?_
 have hrun:=Maps.len_nil (w:=w) ht o.type
 unfold Oper.wp
 simp[execOp,hop,resolve,invoke,builtin,hm,hrun,Result.andThen]
 exact hK' _ _ hK
theorem wpList_rangeF (hg : o.guard = none) (m : Operand) (t : TypeId) (hop : o.op = Op.range t m) (ht : Tryz.prog.underlying t = some (.map 9 e)) {b : Nat} {f : Bs → Option Value} (hm : a.eval m = .map (some b)) (hf : MapF w b f)
  (hK:∀w',RangeF w' b w.heap.size f (fun x=>(f x).isSome)→Below w.heap.size w w'→w'.heap.size=w.heap.size+1→wpList Tryz.prog ops Q rest (a.put o.dst (.pointer (some ⟨w.heap.size,0,none⟩))) w'):wpList Tryz.prog ops Q (o :: rest) a w:=by
 obtain ⟨D,h,rfl⟩:=hf
 obtain ⟨es,rfl,_,hh⟩:=owns_held h
 refine wpList_range_own w hg m t hop 9 e kStr ht heldR b _ _ hm h fun w' hr hg' hs=>?_
 exact hK w' ⟨_,_,_,hr,rfl,fun x=>(atKey_held hh x (.bool false)).2⟩ ⟨hg'.os,hg'.tape,hg'.output,hg'.size,fun k hk=>hg'.block k hk (by simp)⟩ hs
theorem wpList_nextF (hg : o.guard = none) (it : Operand) (hop : o.op = Op.next it false) {b r : Nat} {f : Bs → Option Value} {left : Bs → Bool} (hit : a.eval it = .pointer (some ⟨r, 0, none⟩)) (h : RangeF w b r f left)
  (hDone:(∀x,left x=false)→wpList Tryz.prog ops Q rest (a.put o.dst (.tuple #[.bool false])) w)
  (hMore:∀(x:Bs) (c:Value) (w':World),x.length≤maxLen→left x=true→f x=some c→RangeF w' b r f (fun y=>left y&&decide (y≠x))→w'.rangeLeft b r<w.rangeLeft b r→Mv (·=r) w w'→w'.heap.size=w.heap.size→
   (Instr.entry (.pointer (some ⟨r,0,none⟩))).run Tryz.prog w'=.ok (.tuple #[.string (B x),c]) w'→wpList Tryz.prog ops Q rest (a.put o.dst (.tuple #[.bool true,.string (B x),c])) w') :
  wpList Tryz.prog ops Q (o :: rest) a w:=by
 obtain ⟨D,cnt,lft,hr,rfl,hl⟩:=h
 have hown:=hr.owns
 obtain ⟨es,rfl,_,hh⟩:=owns_held hown
 refine wpList_next_ranges w hg it hop 9 kStr heldR encStr id (fun key kl hk=>by obtain ⟨x,hx,_⟩:=Maps.keyOf_str Tryz.underlying9 hk;exact ⟨x,hx⟩) (fun v _ _=>⟨v,rfl⟩) b r _ _ lft cnt hit hr (fun _ h0=>hDone fun x=>by rw[←hl x];exact h0 _) ?_
 intro x c kl y w' cnt' hkey hlk hv hat hr' hlt hg' hs hen
 obtain ⟨x',ex,rfl,hxl⟩:=Maps.keyOf_str Tryz.underlying9 hkey
 obtain rfl:x=x':=encStr_inj ex
 have hy:y.1=.held c:=by simp only[heldR,id,Option.some.injEq]at hv;rw[←hv]
 have hc:dv (.map es) x=some c:=by
  have h1:=(atKey_held hh x (.bool false)).1
  have h2:=hat .nil
  unfold dv
  rw[h2,hy];rfl
 refine hMore x c w' hxl (by rw[←hl x];exact hlk) hc ⟨_,cnt',_,hr',rfl,fun z=>?_⟩ (by rw[hr'.left_eq,hr.left_eq];exact hlt) (Mv.of_grown hg' fun j hj=>(Option.some.inj hj).symm) hs hen
 rw[hl z]
 by_cases hz:z=x
 ·subst hz;rw[WideAt.sameKey_self (isKey _)];simp
 ·rw[Maps.sameKey_ne (fun e=>hz (by injection e))];simp[hz]
end
end Go.Proofs.YtbkkchhimhlhcaaGreatDoor
