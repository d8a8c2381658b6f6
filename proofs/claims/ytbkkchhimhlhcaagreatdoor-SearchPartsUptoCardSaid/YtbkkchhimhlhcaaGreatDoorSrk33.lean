/- Part 33 of the proof that identitylaw12.SearchChecks returns true for every data that it may be called with: proof: the package variables hold what the program lays; nothing else is asked. -/
import Derived.Test.YtbkkchhimhlhcaaGreatDoorSrk30
import Derived.Lib.LazyBuf
set_option linter.unusedVariables false
set_option linter.unusedSimpArgs false
set_option maxRecDepth 100000
set_option maxHeartbeats 16000000
/- Attributes appended, cloned. -/
namespace Go.Proofs.YtbkkchhimhlhcaaGreatDoor
open Go.RowKit Go.Sort
open Idn (L B Bs drop_L take_L size_L)
theorem exL {α:Type} (Q:Nat→α→Prop):∀(n:Nat),(∀i,i<n→∃x,Q i x)→∃l:List α,l.length=n∧∀i x,l[i]?=some x→Q i x
 |0,_=>⟨[],rfl,fun i x h=>by simp at h⟩
 |n+1,h=>by
  obtain ⟨l,h1,h2⟩:=exL Q n fun i hi=>h i (by omega)
  obtain ⟨x,hx⟩:=h n (by omega)
  refine ⟨l++[x],by simp[h1],fun i y hy=>?_⟩
  by_cases hi:i<n
  ·rw[List.getElem?_append_left (by omega)]at hy
   exact h2 i y hy
  ·have hil:=(List.getElem?_eq_some_iff.1 hy).1
   simp at hil
   have:i=n:=by omega
   subst this
   rw[List.getElem?_append_right (by omega)]at hy
   simp[h1]at hy
   exact hy▸hx
theorem rowA_inv (ps:List (Idn.Att×Value)) (j:Nat) (u:Value) (h:(rowA ps)[j]?=some u):∃i p,ps[i]?=some p∧((j=i*2∧u=sv p.1.name)∨(j=i*2+1∧u=p.2)):=by
 have hj:=(List.getElem?_eq_some_iff.1 h).1
 rw[rowA_len]at hj
 have hi:j / 2<ps.length:=by omega
 refine ⟨j / 2,ps[j / 2],List.getElem?_eq_getElem hi,?_⟩
 obtain ⟨r0,r1⟩:=rowA_at ps (j / 2) _ (List.getElem?_eq_getElem hi)
 rcases Nat.mod_two_eq_zero_or_one j with h0|h0
 ·left
  have e:j / 2*2=j:=by omega
  rw[e,h]at r0
  exact ⟨e.symm,by injection r0⟩
 ·right
  have e:j / 2*2+1=j:=by omega
  rw[e,h]at r1
  exact ⟨e.symm,by injection r1⟩
theorem AttsV.pairs {w : World} {hi : Nat} {A : Option Addr} {n c : Nat} {l : List Idn.Att} (h : AttsV w hi (.slice A n c) l) :
  ∃ps:List (Idn.Att×Value),ps.map (·.1)=l∧(∀p∈ps,StrsV w hi p.2 p.1.vals)∧∀b off,A=some ⟨b,off,none⟩→∀(j:Nat) u,(rowA ps)[j]?=some u→w.cell? ⟨b,off+j,none⟩=some u:=by
 obtain ⟨ps,h1,h2⟩:=exL (fun i (p:Idn.Att×Value)=>l[i]?=some p.1∧StrsV w hi p.2 p.1.vals∧∀b off,A=some ⟨b,off,none⟩→w.cell? ⟨b,off+i*2,none⟩=some (sv p.1.name)∧w.cell? ⟨b,off+i*2+1,none⟩=some p.2) l.length fun i hil=>by
  obtain ⟨b,off,v,hA,hb,c0,c1,hv⟩:=AttsV.cell h hil
  refine ⟨(l[i],v),List.getElem?_eq_getElem hil,hv,fun b' off' e=>?_⟩
  subst hA
  injection e with e
  injection e with e1 e2
  subst e1 e2
  exact ⟨c0,c1⟩
 refine ⟨ps,?_,fun p hp=>?_,fun b off hA j u hj=>?_⟩
 ·apply List.ext_getElem?
  intro i
  rw[List.getElem?_map]
  by_cases hi':i<ps.length
  ·have:=(h2 i _ (List.getElem?_eq_getElem hi')).1
   rw[List.getElem?_eq_getElem hi',this];rfl
  ·rw[List.getElem?_eq_none (by omega),List.getElem?_eq_none (by omega)];rfl
 ·obtain ⟨i,hi',rfl⟩:=List.getElem_of_mem hp
  exact (h2 i _ (List.getElem?_eq_getElem hi')).2.1
 ·obtain ⟨i,p,hp,hx⟩:=rowA_inv ps j u hj
  obtain ⟨x0,x1⟩:=(h2 i p hp).2.2 b off hA
  rcases hx with ⟨rfl,rfl⟩|⟨rfl,rfl⟩
  ·exact x0
  ·rw[←Nat.add_assoc];exact x1
section
variable {w:World} {ops:Array Oper} {rest:List Oper} {o:Oper} {a:Act} {Q:Exit→Act→World→Prop}
end
end Go.Proofs.YtbkkchhimhlhcaaGreatDoor
/- entry: Normal. -/
namespace Go.Proofs.YtbkkchhimhlhcaaGreatDoor
open Go.RowKit Go.Sort
open Idn (L B Bs drop_L take_L size_L)
theorem gen3 {R : World → Prop} {w : World} {C1 C2 C3 : Array Value} {t1 t2 t3 : TypeId}
  (h:∀W,Below w.heap.size w W→W.heap.size=w.heap.size+3→(∀(i:Nat) (v:Value),C1[i]?=some v→W.cell? ⟨w.heap.size,i,none⟩=some v)→(∀(i:Nat) (v:Value),C2[i]?=some v→W.cell? ⟨w.heap.size+1,i,none⟩=some v)→(∀(i:Nat) (v:Value),C3[i]?=some v→W.cell? ⟨w.heap.size+1+1,i,none⟩=some v)→(∀i,W.frozen? ⟨w.heap.size+1+1,i,none⟩=false)→R W):R (((w.alloc (.cells C1 t1)).alloc (.cells C2 t2)).alloc (.cells C3 t3)):=by
 have e1:(w.alloc (.cells C1 t1)).heap.size=w.heap.size+1:=by simp
 have e2:((w.alloc (.cells C1 t1)).alloc (.cells C2 t2)).heap.size=w.heap.size+1+1:=by simp
 have hnew:(((w.alloc (.cells C1 t1)).alloc (.cells C2 t2)).alloc (.cells C3 t3)).heap[w.heap.size+1+1]?=some (.cells C3 t3 (0,0)):=by
  rw[←e2];exact heap_alloc_new _ _
 refine h _ ((((Below.refl _ _).alloc (Nat.le_refl _) _).alloc (by simp) _).alloc (by simp;omega) _) (by simp) (fun i v hv=>?_) (fun i v hv=>?_) (fun i v hv=>?_) (fun i=>?_)
 ·have hold : (((w.alloc (.cells C1 t1)).alloc (.cells C2 t2)).alloc (.cells C3 t3)).heap[w.heap.size]? = some (.cells C1 t1 (0, 0)) := by
   rw[Below.heap_alloc _ _ _ (by rw[e2];omega),Below.heap_alloc _ _ _ (by rw[e1];omega)];exact heap_alloc_new w _
  rw[cell_of_row _ w.heap.size i C1 t1 (0,0) hold];exact hv
 ·have hold : (((w.alloc (.cells C1 t1)).alloc (.cells C2 t2)).alloc (.cells C3 t3)).heap[w.heap.size + 1]? = some (.cells C2 t2 (0, 0)) := by
   rw[Below.heap_alloc _ _ _ (by rw[e2];omega),←e1];exact heap_alloc_new _ _
  rw[cell_of_row _ (w.heap.size+1) i C2 t2 (0,0) hold];exact hv
 ·rw[cell_of_row _ (w.heap.size+1+1) i C3 t3 (0,0) hnew];exact hv
 ·exact Lib.frozen_of_heap hnew i
theorem AttOwn.add {w w' : World} {base : Nat} {v v' u : Value} {ps : List (Idn.Att × Value)} {n : Bs} {vals : List Bs} (h : AttOwn w base v ps) (hown : w'.ownsRow base 96 2 v' (ps.length + 1) (rowA ps ++ [sv n, u])) (hg : w.grownBy w' v.ownBlock) (hu : w.ownsRow base 9 1 u vals.length (vals.map sv))
  (hap:∀p∈ps,∀g,u.ownBlock=some g→p.2.ownBlock≠some g):AttOwn w' base v' (ps++[(⟨n,vals⟩,u)]):=by
 refine ⟨?_,?_,?_⟩
 ·rw[List.length_append,rowA,List.flatMap_append];exact hown
 ·intro p hp
  rcases List.mem_append.1 hp with hp|hp
  ·exact own_kept (h.2.1 p hp) hg fun g h1 h2=>own_apart h.1 (h.2.1 p hp) (by decide) g h2 h1
  ·simp at hp;subst hp
   exact own_kept hu hg fun g h1 h2=>own_apart h.1 hu (by decide) g h2 h1
 ·rw[List.pairwise_append]
  refine ⟨h.2.2,by simp,fun p hp q hq g hg' hx=>?_⟩
  simp at hq;subst hq
  exact hap p hp g hx hg'
theorem AttOwn.base {w:World} {base base':Nat} {v:Value} {ps:List (Idn.Att×Value)} (h:AttOwn w base v ps) (hb:base'≤base):AttOwn w base' v ps:=
 ⟨own_base h.1 hb,fun p hp=>own_base (h.2.1 p hp) hb,h.2.2⟩
theorem RowV.atts {w:World} {base:Nat} {v:Value} {ps:List (Idn.Att×Value)} {l:List Idn.Att} (h:RowV w base v ps) (hl:ps.map (·.1)=l) (hv:∀p∈ps,StrsV w w.heap.size p.2 p.1.vals):AttsV w w.heap.size v l:=by
 subst hl
 have h0:=h.1
 rw[show ps.length=(ps.map (·.1)).length by simp]at h0
 refine SlV.own h0 fun i x hx=>?_
 rw[List.getElem?_map]at hx
 obtain ⟨p,hp,rfl⟩:=Option.map_eq_some_iff.1 hx
 obtain ⟨e1,e2⟩:=rowA_at ps i p hp
 refine ⟨[sv p.1.name,p.2],rfl,⟨p.2,rfl,hv p (List.mem_of_getElem? hp)⟩,fun j u hj=>?_⟩
 match j,hj with
 |0,hj=>simp at hj;subst hj;exact e1
 |1,hj=>simp at hj;subst hj;exact e2
end Go.Proofs.YtbkkchhimhlhcaaGreatDoor
/- What calls hand back: attributes, entries, in rows of the call's own. -/
namespace Go.Proofs.YtbkkchhimhlhcaaGreatDoor
open Go.RowKit Go.Sort
open Idn (L B Bs)
end Go.Proofs.YtbkkchhimhlhcaaGreatDoor
/- entry: Normal, walked. -/
namespace Go.Proofs.YtbkkchhimhlhcaaGreatDoor
open Go.RowKit Go.Sort
open Idn (L B Bs drop_L take_L size_L)
end Go.Proofs.YtbkkchhimhlhcaaGreatDoor
/- law08: Small, short, ann, small. -/
namespace Go.Proofs.YtbkkchhimhlhcaaGreatDoor
open Go.RowKit Go.Sort
open Idn (L B Bs drop_L take_L size_L)
def OkA (a:Idn.Att):Prop:=a.vals.length≤20∧a.name.length≤100∧∀x∈a.vals,x.length≤300
def ASmall (l:List Idn.Att):Prop:=l.length≤40∧∀a∈l,OkA a
def ALen8 (l:List Idn.Att):Prop:=l.length≤9223372036854775807∧∀a∈l,a.vals.length≤9223372036854775807
theorem ASmall.sm {l:List Idn.Att} (h:ASmall l):ASm l∧ASm5 l∧Idn.ASm7 l:=by
 refine ⟨⟨by have:=h.1;omega,fun a ha=>?_⟩,fun a ha=>?_,⟨by have:=h.1;omega,fun a ha=>?_⟩⟩
 all_goals
  obtain ⟨h1,h2,h3⟩:=h.2 a ha
 ·exact ⟨by omega,by omega,fun x hx=>by have:=h3 x hx;omega⟩
 ·exact ⟨by omega,fun x hx=>by have:=h3 x hx;omega⟩
 ·exact ⟨by omega,by omega,fun x hx=>by have:=h3 x hx;omega⟩
theorem all_take {α:Type} {p:α→Prop} {l:List α} {k:Nat} (h:∀x∈l.take k,p x) (hk:k<l.length) (hp:p l[k]):∀x∈l.take (k+1),p x:=by
 intro x hx
 rw[List.take_succ_eq_append_getElem hk]at hx
 rcases List.mem_append.1 hx with hx|hx
 ·exact h x hx
 ·rw[List.mem_singleton]at hx;subst hx;exact hp
end Go.Proofs.YtbkkchhimhlhcaaGreatDoor
/- identityref02.Great; identityref09: great, Great. -/
namespace Go.Proofs.YtbkkchhimhlhcaaGreatDoor
open Go.RowKit Go.Sort
open Idn (L B Bs drop_L take_L size_L)
def RetN (p:Prop) (w:World) (e:Ending) (w':World):Prop:=∃r,e=.returned (.bool r)∧(r=false→p)∧Below w.heap.size w w'
theorem r2_Great_any (v : Value) (l : List Bs) (a b : Nat) (w : World) (hv : StrsV w w.heap.size v l) (hl : l.length ≤ 9223372036854775807) (ha : a ≤ 1000000) (hb : b ≤ 1000000) :
  Calls Tryz.prog 78 #[v,.int .i64 (a:Int),.int .i64 (b:Int)] w (RetN (l.length≤a∧∀x∈l,x.length≤b) w):=by
 obtain ⟨A,c,rfl,hc⟩:=hv.shape
 go_enter Tryz.func78,Tryz.ntmps78
 by_cases h:a<l.length
 ·have hI:(a:Int)<(l.length:Int):=by omega
  go_wp2_with fail
  go_ret
  exact ⟨true,rfl,nofun,Below.refl _ _⟩
 have hI:¬(a:Int)<(l.length:Int):=by omega
 go_wp2_with fail
 go_loop [7] (fun i=>∃k:Nat,k≤l.length∧i=.int .i64 k∧Hid (∀x∈l.take k,x.length≤b)) (fun i=>l.length-(intOf i).toNat)
 case atStart=>exact ⟨0,Nat.zero_le _,rfl,by show ∀x∈_,_;simp⟩
 case round=>
  obtain ⟨k,hk,rfl,hinv⟩:=hrel
  by_cases hlt:k<l.length
  ·obtain ⟨g,off,hA,hbl,c0⟩:=StrsV.cell hv hlt
   subst hA
   have hltI:(k:Int)<(l.length:Int):=by omega
   have hxb:=Idn.size_B l[k]
   by_cases hx:b<l[k].length
   ·have h4:(b:Int)<((B l[k]).size:Int):=by omega
    clear hinv hx hxb
    go_wp2_with fail
    go_ret
    exact ⟨true,rfl,nofun,Below.refl _ _⟩
   ·have h4:¬(b:Int)<((B l[k]).size:Int):=by omega
    have HX:=Lib.hid (all_take hinv.out hlt (by omega))
    clear hinv hx hxb
    go_wp2_with fail
    go_round
    case rel=>exact ⟨k+1,by omega,by go_num,HX⟩
    case measure=>simp[intOf];omega
  ·have hltI:¬(k:Int)<(l.length:Int):=by omega
   have HK:Hid (l.length≤a∧∀x∈l,x.length≤b):=⟨by omega,by
    have h:=hinv.out
    rwa[List.take_of_length_le (by omega)]at h⟩
   clear hinv
   go_wp2_with fail
   go_ret
   exact ⟨false,rfl,fun _=>HK.out,Below.refl _ _⟩
mutual
def fLen:Flt→Prop
 |.mk _ _ _ ps ks=>ps.length≤9223372036854775807∧ks.length≤9223372036854775807∧fLens ks
def fLens:List Flt→Prop
 |[]=>True
 |f :: l=>fLen f∧fLens l
end
theorem fLens_all {l:List Flt}:fLens l↔∀f∈l,fLen f:=by
 induction l with
 |nil=>simp[fLens]
 |cons f l ih=>rw[fLens,List.forall_mem_cons,ih]
theorem fLen_own {f:Flt} (h:fLen f):f.parts.length≤9223372036854775807∧f.kids.length≤9223372036854775807∧∀g∈f.kids,fLen g:=by
 cases f;rw[fLen]at h;exact ⟨h.1,h.2.1,fLens_all.1 h.2.2⟩
theorem FltsV.kid {w : World} {hi d : Nat} {A : Option Addr} {n c : Nat} {l : List Flt} (h : FltsV w hi d (.slice A n c) l) {k : Nat} (hk : k < l.length) :
  ∃b off pv kv,A=some ⟨b,off,none⟩∧b<hi∧w.cell? ⟨b,off+k*5,none⟩=some (.int .i64 l[k].kind)∧w.cell? ⟨b,off+k*5+1,none⟩=some (.string (B l[k].name))∧w.cell? ⟨b,off+k*5+2,none⟩=some (.string (B l[k].value))∧
   w.cell? ⟨b,off+k*5+3,none⟩=some pv∧w.cell? ⟨b,off+k*5+4,none⟩=some kv∧0<d∧FltV w hi (d-1) (.agg #[.int .i64 l[k].kind,.string (B l[k].name),.string (B l[k].value),pv,kv]) l[k]:=by
 obtain ⟨b,off,pv,kv,h1,h2,h3,h4,h5,h6,h7,h8,h9,h10⟩:=h.cell hk
 exact ⟨b,off,pv,kv,h1,h2,h3,h4,h5,h6,h7,h8,pv,kv,rfl,h9,h10⟩
theorem fSizes_take {l:List Flt} {k:Nat} (h:k<l.length):fSizes (l.take (k+1))=fSizes (l.take k)+fSize l[k]:=by
 rw[List.take_succ_eq_append_getElem h,fSizes_append,fSizes,fSizes];rfl
theorem genP {R : World → Prop} {w : World} {p : Nat} {a u : Value} (hf : w.frozen? ⟨p, 0, none⟩ = false) (hx : w.cell? ⟨p, 0, none⟩ = some a)
  (h:∀W,But p w W→W.cell? ⟨p,0,none⟩=some u→W.frozen? ⟨p,0,none⟩=false→W.heap.size=w.heap.size→R W):R (w.setCell ⟨p,0,none⟩ u):=
 h _ ((But.refl p w).put u) (by simp[go_sem,hx]) (by simp[hf]) (by simp[World.setCell])
def RetG (p:Nat) (m:Nat) (f:Flt) (w:World) (e:Ending) (w':World):Prop:=
 ∃(r:Bool) (m':Int),e=.returned (.bool r)∧w'.cell? ⟨p,0,none⟩=some (.int .i64 m')∧w'.frozen? ⟨p,0,none⟩=false∧But p w w'∧(r=false→0≤m'∧m'+fSize f=m∧fOk f)
theorem r9_great_any : ∀ (d : Nat) (v : Value) (f : Flt) (p m : Nat) (w : World), FltV w p d v f → fLen f → p < w.heap.size → w.cell? ⟨p, 0, none⟩ = some (.int .i64 (m : Int)) → w.frozen? ⟨p, 0, none⟩ = false → m ≤ 1000 →
  Calls Tryz.prog 150 #[v,.pointer (some ⟨p,0,none⟩)] w (RetG p m f w):=by
 intro d
 induction d using Nat.strongRecOn with
 |_ d ih=>
 intro v f p m w hv hfl hpl hm hfz hm9
 obtain ⟨l3,l4,l5⟩:=fLen_own hfl
 obtain ⟨pv,kv,rfl,hp,hk⟩:=hv
 obtain ⟨Ap,cp,rfl,_⟩:=SlV.shape hp
 obtain ⟨Ak,ck,rfl,_⟩:=SlV.shape hk
 have hz1:=Idn.size_B f.name
 have hz2:=Idn.size_B f.value
 have hwr:IntKind.i64.wrap ((m:Int)-1)=(m:Int)-1:=IntWalk.i64_in _ (by omega)
 have HZ:Hid (fSize f=fSizes f.kids+1):=by show _=_;cases f;rfl
 have HOK:Hid (f.name.length≤300→f.value.length≤300→(f.parts.length≤20∧∀x∈f.parts,x.length≤300)→(∀g∈f.kids,fOk g)→fOk f):=by
  intro h1 h2 h3 h4
  cases f
  rw[fOk]
  exact ⟨⟨Nat.le_trans h1 (by decide),Nat.le_trans h2 (by decide),Nat.le_trans h3.1 (by decide),fun x hx=>Nat.le_trans (h3.2 x hx) (by decide)⟩,fOks_all.2 h4⟩
 have hlow:Below p w w:=Below.refl _ _
 by_cases h0:m=0
 case pos=>
  have hI:((m:Int)-1)<0:=by omega
  go_enter Tryz.func150,Tryz.ntmps150
  go_upto_region 1 with fail
  with_reducible refine gen1 (R:=fun W=>Code.wp Tryz.prog _ _ _ W) ?_
  intro W hbW hszW hc _
  have b1:W.cell? ⟨w.heap.size,1,none⟩=some (.string (B f.name)):=hc 1 _ rfl
  have b2:W.cell? ⟨w.heap.size,2,none⟩=some (.string (B f.value)):=hc 2 _ rfl
  have b3:W.cell? ⟨w.heap.size,3,none⟩=some (.slice Ap f.parts.length cp):=hc 3 _ rfl
  have hmW:=cell_later hbW hm
  have hfW:W.frozen? ⟨p,0,none⟩=false:=frozen_later hbW hfz hpl
  have hbut:=But.of_below hbW p
  have hpW:p<W.heap.size:=by omega
  clear hc hm hfz hbW
  go_upto_region 2 with fail
  with_reducible refine genP (R:=fun W=>Code.wp Tryz.prog _ _ _ W) hfW hmW ?_
  intro X hbX hmX hfX hszX
  clear hmW hfW
  go_wp2_with fail
  go_ret
  exact ⟨true,_,rfl,hmX,hfX,hbut.trans hbX,nofun⟩
 have hI:¬((m:Int)-1)<0:=by omega
 go_enter Tryz.func150,Tryz.ntmps150
 go_upto_region 1 with fail
 with_reducible refine gen1 (R:=fun W=>Code.wp Tryz.prog _ _ _ W) ?_
 intro W hbW hszW hc _
 have b1:W.cell? ⟨w.heap.size,1,none⟩=some (.string (B f.name)):=hc 1 _ rfl
 have b2:W.cell? ⟨w.heap.size,2,none⟩=some (.string (B f.value)):=hc 2 _ rfl
 have b3:W.cell? ⟨w.heap.size,3,none⟩=some (.slice Ap f.parts.length cp):=hc 3 _ rfl
 have b4:W.cell? ⟨w.heap.size,4,none⟩=some (.slice Ak f.kids.length ck):=hc 4 _ rfl
 have hmW:=cell_later hbW hm
 have hfW:W.frozen? ⟨p,0,none⟩=false:=frozen_later hbW hfz hpl
 have hbut:=But.of_below hbW p
 have hpW:p<W.heap.size:=by omega
 have hne:w.heap.size≠p:=by omega
 have hwW:w.heap.size<W.heap.size:=by omega
 clear hc hm hfz hbW
 go_upto_region 2 with fail
 with_reducible refine genP (R:=fun W=>Code.wp Tryz.prog _ _ _ W) hfW hmW ?_
 intro X hbX hmX hfX hszX
 replace b1:=hbX.cell b1 hwW hne
 replace b2:=hbX.cell b2 hwW hne
 replace b3:=hbX.cell b3 hwW hne
 replace b4:=hbX.cell b4 hwW hne
 have hbw:=hbut.trans hbX
 have hpX:p<X.heap.size:=by omega
 have hwX:w.heap.size<X.heap.size:=by omega
 clear hmW hfW hbX hszX hszW hpW hwW hbut
 by_cases hn:300<f.name.length
 ·have hn3:(300:Int)<((B f.name).size:Int):=by omega
  clear hn
  go_wp2_with fail
  go_ret
  exact ⟨true,_,rfl,hmX,hfX,hbw,nofun⟩
 have hn3:¬(300:Int)<((B f.name).size:Int):=by omega
 by_cases hv:300<f.value.length
 ·have hv3:(300:Int)<((B f.value).size:Int):=by omega
  clear hn hv
  go_wp2_with fail
  go_ret
  exact ⟨true,_,rfl,hmX,hfX,hbw,nofun⟩
 have hv3:¬(300:Int)<((B f.value).size:Int):=by omega
 have hG:=r2_Great_any _ f.parts 20 300 X (SlV.mono (SlV.keep hp (hbw.below (Nat.le_refl _) (by omega))) (by omega)) l3 (by decide) (by decide)
 have HN:=Lib.hid (show f.name.length≤300∧f.value.length≤300 by omega)
 clear hn hv hz1 hz2
 go_wp2_with fail
 refine hG.mono ?_
 rintro e X1 ⟨r,rfl,hr,hb1⟩
 replace hmX:=cell_later hb1 hmX
 replace hfX:=frozen_later hb1 hfX hpX
 replace b4:=cell_later hb1 b4
 replace hbw:=hbw.on hb1
 have hpX1:p<X1.heap.size:=Nat.lt_of_lt_of_le hpX hb1.size
 have hwX1:w.heap.size<X1.heap.size:=Nat.lt_of_lt_of_le hwX hb1.size
 have HR:=Lib.hid hr
 clear hr hG hb1 b1 b2 b3 hpX hwX hn3 hv3
 cases r
 case true=>
  go_wp2_with fail
  go_ret
  exact ⟨true,_,rfl,hmX,hfX,hbw,nofun⟩
 go_wp2_with fail
 go_loopw [5] (fun i wr=>∃(k q:Nat),k≤f.kids.length∧i=.int .i64 k∧But p w wr∧X1.heap.size≤wr.heap.size∧wr.cell? ⟨p,0,none⟩=some (.int .i64 (q:Int))∧wr.frozen? ⟨p,0,none⟩=false∧wr.cell? ⟨w.heap.size,4,none⟩=some (.slice Ak f.kids.length ck)∧Hid (q+fSizes (f.kids.take k)+1=m∧∀g∈f.kids.take k,fOk g)) (fun i _=>f.kids.length-(intOf i).toNat)
 case atStart=>
  refine ⟨0,m-1,Nat.zero_le _,rfl,hbw,Nat.le_refl _,?_,hfX,b4,?_⟩
  ·rw[hmX];congr 2;omega
  ·show _∧_;simp[fSizes];omega
 case round=>
  obtain ⟨k,q,hk9,rfl,hbk,hsz,hcq,hfq,b4',hinv⟩:=hrel
  by_cases hlt:k<f.kids.length
  ·obtain ⟨g,off,pv,kv,hA,hg,c0,c1,c2,c3,c4,hd,hkid⟩:=FltsV.kid (FltsV.keep hk (hbk.below (Nat.le_refl _) (by omega))) hlt
   subst hA
   have hltI:(k:Int)<(f.kids.length:Int):=by omega
   have hcall:=ih (d-1) (by omega) _ f.kids[k] p q wr hkid (l5 _ (List.getElem_mem hlt)) (by omega) hcq hfq (by have:=hinv.out.1;omega)
   have HT:=Lib.hid (fSizes_take hlt)
   clear ih hkid hk hp
   go_wp2_with fail
   refine hcall.mono ?_
   rintro e w2 ⟨r,m',rfl,hc2,hf2,hb2,hr⟩
   have hb4:=hb2.cell b4' (by omega) hne
   cases r
   ·obtain ⟨h1,h2,h3⟩:=hr rfl
    obtain ⟨q',rfl⟩:=Int.eq_ofNat_of_zero_le h1
    have HV:Hid (q'+fSizes (f.kids.take (k+1))+1=m∧∀g∈f.kids.take (k+1),fOk g):=⟨by have:=hinv.out.1;have:=HT.out;omega,all_take hinv.out.2 hlt h3⟩
    have hs2:=hb2.size
    clear hinv HT hr h1 h2 h3 hcall
    go_wp2_with fail
    go_roundw
    case rel=>exact ⟨k+1,q',by omega,by go_num,hbk.trans hb2,by omega,hc2,hf2,hb4,HV⟩
    case measure=>simp[intOf];omega
   ·clear hinv HT hr hcall
    go_wp2_with fail
    go_ret
    exact ⟨true,_,rfl,hc2,hf2,hbk.trans hb2,nofun⟩
  ·have hltI:¬(k:Int)<(f.kids.length:Int):=by omega
   have HV:Hid (q+fSize f=m∧fOk f):=by
    obtain ⟨h1,h2⟩:=hinv.out
    rw[List.take_of_length_le (by omega)]at h1 h2
    exact ⟨by have:=HZ.out;omega,HOK.out HN.out.1 HN.out.2 (HR.out trivial) h2⟩
   clear hinv
   go_wp2_with fail
   go_ret
   exact ⟨false,_,rfl,hcq,hfq,hbk,fun _=>⟨by omega,by have:=HV.out.1;omega,HV.out.2⟩⟩
end Go.Proofs.YtbkkchhimhlhcaaGreatDoor
/- attrs: set, limited. -/
namespace Go.Proofs.YtbkkchhimhlhcaaGreatDoor
open Go.RowKit Go.Sort
open Idn (L B Bs drop_L take_L size_L)
end Go.Proofs.YtbkkchhimhlhcaaGreatDoor
/- attrs: Add. -/
namespace Go.Proofs.YtbkkchhimhlhcaaGreatDoor
open Go.RowKit Go.Sort
open Idn (L B Bs drop_L take_L size_L)
theorem rGet_all {p:Bs→Prop} {l:List Idn.Att} (h:∀a∈l,∀x∈a.vals,p x) (n:Bs):∀x∈rGet l n,p x:=by
 intro x hx
 rw[rGet_law,Idn.insAll_mem]at hx
 unfold Idn.valsOf at hx
 obtain ⟨a,ha,hx⟩:=List.mem_flatMap.1 hx
 exact h a (List.mem_filter.1 ha).1 x hx
section
variable {P:Program} {w:World} {ops:Array Oper} {rest:List Oper} {o:Oper} {a:Act} {Q:Exit→Act→World→Prop}
end
end Go.Proofs.YtbkkchhimhlhcaaGreatDoor
/- attrs: Replace. -/
namespace Go.Proofs.YtbkkchhimhlhcaaGreatDoor
open Go.RowKit Go.Sort
open Idn (L B Bs drop_L take_L size_L)
theorem cloneS_any (v : Value) (l : List Bs) (w : World) (hv : StrsV w w.heap.size v l) (hl : l.length ≤ 1000000000) :
  Calls Tryz.prog 123 #[v] w fun e w'=>∃v',e=.returned v'∧w'.ownsRow w.heap.size 9 1 v' l.length (l.map sv)∧Below w.heap.size w w':=by
 obtain ⟨A,c,rfl,hc⟩:=hv.shape
 by_cases h0:l.length=0
 ·have hl0:l=[]:=List.eq_nil_of_length_eq_zero h0
  subst hl0
  cases A with
  |none=>exact (Tryz.slices_Clone_string_nil 0 c w).mono fun e w' ⟨h1,h2⟩=>⟨_,h1,by rw[h2];exact World.ownsRow_nil _ _ _ _,by rw[h2];exact Below.refl _ _⟩
  |some a=>exact (Tryz.slices_Clone_string_zero a c w).mono fun e w' ⟨v',h1,h2,_,h4⟩=>⟨v',h1,h2,h4⟩
 ·obtain ⟨b,off,rfl,hb,_⟩:=StrsV.cell hv (k:=0) (by omega)
  refine (Tryz.slices_Clone_string b off l.length c (l.map B) w (by simp) (by omega) (fun j hj=>?_)).mono fun e w' ⟨v',h1,h2,_,h4⟩=>⟨v',h1,?_,h4⟩
  ·rw[List.length_map]at hj
   obtain ⟨b',off',hA',_,hcc⟩:=StrsV.cell hv hj
   injection hA' with hA'
   injection hA' with h1 h2
   subst h1 h2
   rw[hcc]
   simp[List.getD_eq_getElem?_getD,hj]
  ·have e : ((l.map B).take l.length).map Value.string = l.map sv := by
    rw[List.take_of_length_le (by simp),List.map_map];rfl
   rw[e]at h2;exact h2
end Go.Proofs.YtbkkchhimhlhcaaGreatDoor
/- entry: same. -/
namespace Go.Proofs.YtbkkchhimhlhcaaGreatDoor
open Go.RowKit Go.Sort
open Idn (L B Bs drop_L take_L size_L)
end Go.Proofs.YtbkkchhimhlhcaaGreatDoor
/- entry: same, the loop. -/
namespace Go.Proofs.YtbkkchhimhlhcaaGreatDoor
open Go.RowKit Go.Sort
open Idn (L B Bs drop_L take_L size_L)
theorem no_true {r:Bool} {p:Prop} (h:r=true↔p) (hn:¬p):r=false:=by cases r with
 |false=>rfl
 |true=>exact absurd (h.1 rfl) hn
end Go.Proofs.YtbkkchhimhlhcaaGreatDoor
/- identityref08: SameStrings, SameMods. -/
namespace Go.Proofs.YtbkkchhimhlhcaaGreatDoor
open Go.RowKit Go.Sort
open Idn (L B Bs drop_L take_L size_L)
theorem B_beq (a b:Bs):((B a).toList==(B b).toList)=decide (a=b):=by rw[str_beq,Idn.L_B,Idn.L_B]
theorem take_ext {α:Type} {a b:List α} {k:Nat} (h:a.take k=b.take k) (h1:k<a.length) (h2:k<b.length) (he:a[k]=b[k]):a.take (k+1)=b.take (k+1):=by
 rw[List.take_succ_eq_append_getElem h1,List.take_succ_eq_append_getElem h2,h,he]
theorem get_ne {α:Type} {a b:List α} {k:Nat} (h1:k<a.length) (h2:k<b.length) (he:a[k]≠b[k]):a≠b:=fun h=>he (by subst h;rfl)
end Go.Proofs.YtbkkchhimhlhcaaGreatDoor
/- filter: printable, parts, formed; slices.IndexFunc, ContainsFunc at filters. -/
namespace Go.Proofs.YtbkkchhimhlhcaaGreatDoor
open Go.RowKit Go.Sort
open Idn (L B Bs drop_L take_L size_L)
theorem empty_beq (a:Bs):(B a).toList.isEmpty=a.isEmpty:=by
 rw[toList_L,Idn.L_B]
theorem fprintable_any (s : ByteArray) (w : World) (hs : s.size ≤ 1000000000000) :
  Calls Tryz.prog 210 #[.string s] w fun e w'=>e=.returned (.bool (prtF (L s)))∧w=w':=by
 have HC:Hid (prtF (L s)=((L s).all Idn.printable&&decide (s.size≤256))):=rfl
 go_enter Tryz.func210,Tryz.ntmps210
 go_wp2
 go_loop [6] (fun i=>∃k:Nat,k≤s.size∧i=.int .i64 k∧Hid ((L s).all Idn.printable=((L s).drop k).all Idn.printable)) (fun i=>s.size-(intOf i).toNat)
 case atStart=>exact ⟨0,Nat.zero_le _,rfl,rfl⟩
 case round=>
  obtain ⟨k,hk,rfl,hinv⟩:=hrel
  by_cases hlt:k<s.size
  ·have hd:=drop_L s k hlt
   by_cases hp:Idn.printable s[k]=true
   ·have h1:(32:Int)≤(s[k].toNat:Int):=by simp[Idn.printable]at hp;omega
    have h2:(s[k].toNat:Int)≤126:=by simp[Idn.printable]at hp;omega
    have HF:Hid ((L s).all Idn.printable=((L s).drop (k+1)).all Idn.printable):=by show _=_;rw[hinv.out,hd];simp[hp]
    clear hd hp
    go_wp2
    go_round
    case rel=>exact ⟨k+1,by omega,by go_num,HF⟩
    case measure=>simp[intOf];omega
   ·have HF:Hid ((L s).all Idn.printable=false):=by show _=_;rw[hinv.out,hd];simp[hp]
    have hc:(s[k].toNat:Int)<32∨126<(s[k].toNat:Int):=by simp[Idn.printable]at hp;omega
    clear hd hp
    rcases hc with hc|hc
    all_goals
     go_wp2
     go_ret
     exact ⟨ret_bool (by rw[HC.out,HF.out];rfl),rfl⟩
  ·have HF:Hid ((L s).all Idn.printable=true):=by show _=_;rw[hinv.out,drop_end s k hlt];rfl
   by_cases h256:s.size≤256
   ·have hI:(s.size:Int)≤256:=by omega
    have HG:Hid (decide (s.size≤256)=true):=decide_eq_true h256
    clear h256
    go_wp2
    go_ret
    exact ⟨ret_bool (by rw[HC.out,HF.out,HG.out];rfl),rfl⟩
   ·have hI:¬(s.size:Int)≤256:=by omega
    have HG:Hid (decide (s.size≤256)=false):=decide_eq_false h256
    clear h256
    go_wp2
    go_ret
    exact ⟨ret_bool (by rw[HC.out,HF.out,HG.out];rfl),rfl⟩
theorem fcheck1_any (x : Bs) (w : World) (hx : x.length ≤ 1000000000) :
  Calls Tryz.prog 209 #[.string (B x)] w fun e w'=>e=.returned (.bool (!prtF x))∧Below w.heap.size w w':=by
 have h:=fprintable_any (B x) w (by rw[Idn.size_B];omega)
 rw[Idn.L_B]at h
 generalize prtF x=r at *
 go_enter Tryz.func209,Tryz.ntmps209
 go_wp2_with fail
 refine h.mono ?_
 rintro e w' ⟨rfl,rfl⟩
 cases r
 all_goals
  go_wp2
  go_ret
  exact ⟨rfl,Below.refl _ _⟩
theorem fparts1_any (x : Bs) (w : World) :
  Calls Tryz.prog 306 #[.string (B x)] w fun e w'=>e=.returned (.bool (!x.isEmpty))∧Below w.heap.size w w':=by
 have h:=empty_beq x
 generalize x.isEmpty=r at *
 cases r
 all_goals
  go_enter Tryz.func306,Tryz.ntmps306
  go_wp2
  go_ret
  exact ⟨rfl,Below.refl _ _⟩
theorem fn_fcheck1:FnB 209:=by intro a w;kernel_rfl
theorem fn_fparts1:FnB 306:=by intro a w;kernel_rfl
theorem mid_strs {w : World} {hi : Nat} {A : Option Addr} {c : Nat} {l : List Bs} {b off : Nat} (h : StrsV w hi (.slice A l.length c) l) (hA : A = some ⟨b, off, none⟩) (h2 : 2 ≤ l.length) :
  StrsV w hi (.slice (some ⟨b,off+1,none⟩) (l.length-1-1) (c-1)) (l.drop 1).dropLast:=by
 subst hA
 obtain ⟨A',c',hv,hc,hx⟩:=h
 injection hv with h1 h3 h4
 subst h1 h4
 have hl:(l.drop 1).dropLast.length=l.length-1-1:=by rw[List.length_dropLast,List.length_drop]
 refine ⟨_,_,by rw[hl],by omega,fun hp=>⟨b,off+1,rfl,?_,?_⟩⟩
 ·obtain ⟨g,o,hA,hb,_⟩:=hx (by omega)
  injection hA with hA;injection hA with e1 e2;subst e1;exact hb
 ·obtain ⟨g,o,hA,hb,hz⟩:=hx (by omega)
  injection hA with hA;injection hA with e1 e2;subst e1 e2
  intro i x hix
  have hil:i<(l.drop 1).dropLast.length:=(List.getElem?_eq_some_iff.1 hix).1
  rw[List.getElem?_dropLast]at hix
  rw[if_pos (by rw[List.length_drop];omega),List.getElem?_drop]at hix
  obtain ⟨cs,k1,k2,k3⟩:=hz (1+i) x hix
  refine ⟨cs,k1,k2,fun j u hu=>?_⟩
  have:=k3 j u hu
  rw[show off+1+(i*1+j)=off+((1+i)*1+j) by omega]
  exact this
theorem fparts_any (v : Value) (l : List Bs) (w : World) (hv : StrsV w w.heap.size v l) (hl : l.length ≤ 1000000000) :
  Calls Tryz.prog 266 #[v] w fun e w'=>e=.returned (.bool (partsF l))∧Below w.heap.size w w':=by
 have hany:=fun W (hW:Below w.heap.size w W)=>hasF_any 306 #[] fn_fparts1 (fun s=>!s.isEmpty) v l W (SlV.mono (SlV.keep hv hW) hW.size) hl fun W' x _ _=>fparts1_any x W'
 obtain ⟨A,c,rfl,hc⟩:=SlV.shape hv
 have HP:Hid (partsF l=(decide (2≤l.length)&&(decide (l.length≤16)&&(!((l.drop 1).dropLast.contains [])&&l.any fun s=>!s.isEmpty)))):=rfl
 by_cases h2:l.length<2
 ·have HF:Hid (partsF l=false):=by show _=_;rw[HP.out,decide_eq_false (by omega)];rfl
  have hI:(l.length:Int)<2:=by omega
  clear hany h2
  go_enter Tryz.func266,Tryz.ntmps266
  go_wp2_with fail
  go_ret
  exact ⟨ret_bool HF.out.symm,Below.refl _ _⟩
 have hI:¬(l.length:Int)<2:=by omega
 by_cases h16:16<l.length
 ·have HF:Hid (partsF l=false):=by show _=_;rw[HP.out,decide_eq_false (p:=l.length≤16) (by omega)];simp
  have hJ:(16:Int)<(l.length:Int):=by omega
  clear hany h2 h16
  go_enter Tryz.func266,Tryz.ntmps266
  go_wp2_with fail
  go_ret
  exact ⟨ret_bool HF.out.symm,Below.refl _ _⟩
 have hJ:¬(16:Int)<(l.length:Int):=by omega
 obtain ⟨b,off,hA,-,-⟩:=StrsV.cell hv (k:=0) (by omega)
 have hm:=mid_strs hv hA (by omega)
 subst hA
 have HG:Hid (partsF l=(!((l.drop 1).dropLast.contains [])&&l.any fun s=>!s.isEmpty)):=by show _=_;rw[HP.out,decide_eq_true (p:=2≤l.length) (by omega),decide_eq_true (p:=l.length≤16) (by omega)];rfl
 have hC:=contains_any _ (l.drop 1).dropLast ⟨#[]⟩ w hm (by rw[List.length_dropLast,List.length_drop];omega)
 rw[show L (⟨#[]⟩:ByteArray)=[] from rfl]at hC
 have hw1:IntKind.i64.wrap ((l.length:Int)-1)=(l.length:Int)-1:=IntWalk.i64_in _ (by omega)
 generalize (l.drop 1).dropLast.contains []=r1 at *
 generalize (l.any fun s=>!s.isEmpty)=r2 at *
 have hany0:=hany w (Below.refl _ _)
 clear hany hm HP h2 h16
 go_enter Tryz.func266,Tryz.ntmps266
 go_wp2_with fail
 refine hC.mono ?_
 rintro e w1 ⟨rfl,rfl⟩
 clear hC
 cases r1
 ·go_wp2_with fail
  refine hany0.mono ?_
  rintro e w2 ⟨rfl,hb2⟩
  go_wp2_with fail
  go_ret
  exact ⟨ret_bool (by rw[HG.out];rfl),hb2⟩
 ·go_wp2_with fail
  go_ret
  exact ⟨ret_bool (by rw[HG.out];rfl),Below.refl _ _⟩
def formB (k:Int) (en ev ep:Bool) (m:Nat) (pp:Bool):Bool:=
 if k=1∨k=2 then en&&(ev&&ep)
 else if k=3 then en&&(ev&&(ep&&decide (m=1)))
 else if k=4∨k=5∨k=6 then ep&&decide (m=0)
 else if k=7 then ev&&(ep&&decide (m=0))
 else if k=8 then ev&&(decide (m=0)&&pp)
 else false
theorem formF_B (k:Int) (n v:Bs) (ps:List Bs) (m:Nat):formF k n v ps m=formB k n.isEmpty v.isEmpty ps.isEmpty m (partsF ps):=rfl
theorem kinds (k:Int):k=1∨k=2∨k=3∨k=4∨k=5∨k=6∨k=7∨k=8∨((k==1)=false∧(k==2)=false∧(k==3)=false∧(k==4)=false∧(k==5)=false∧(k==6)=false∧(k==7)=false∧(k==8)=false):=by
 simp only[beq_eq_false_iff_ne];omega
theorem kids3 (m:Nat):m=0∨m=1∨(((m:Int)==0)=false∧((m:Int)==1)=false∧m≠0∧m≠1):=by
 simp only[beq_eq_false_iff_ne];omega
theorem formB_other {k:Int} (h:(k==1)=false∧(k==2)=false∧(k==3)=false∧(k==4)=false∧(k==5)=false∧(k==6)=false∧(k==7)=false∧(k==8)=false) (en ev ep:Bool) (m:Nat) (pp:Bool):formB k en ev ep m pp=false:=by
 simp only[beq_eq_false_iff_ne]at h
 unfold formB
 rw[if_neg (by omega),if_neg (by omega),if_neg (by omega),if_neg (by omega),if_neg (by omega)]
def idxG {α:Type} (p:α→Bool) (l:List α):Int:=match l.findIdx? p with|none=>-1|some k=>k
theorem idxG_none {α:Type} {p:α→Bool} {l:List α} (h:l.findIdx? p=none):idxG p l = -1:=by rw[idxG,h]
theorem idxG_some {α:Type} {p:α→Bool} {l:List α} {k:Nat} (h:l.findIdx? p=some k):idxG p l=k:=by rw[idxG,h]
theorem idxG_drop {α : Type} (p : α → Bool) (l : List α) (k : Nat) (hk : k < l.length) (h : l.findIdx? p = ((l.drop k).findIdx? p).map (· + k)) :
  (p l[k]=true→l.findIdx? p=some k)∧(p l[k]=false→l.findIdx? p=((l.drop (k+1)).findIdx? p).map (·+(k+1))):=by
 rw[List.drop_eq_getElem_cons hk,List.findIdx?_cons]at h
 constructor
 ·intro hp;rw[hp]at h;simpa using h
 ·intro hp;rw[hp]at h;rw[h];simp[Function.comp_def,Nat.add_assoc,Nat.add_comm 1 k]
theorem FltsV.kid2 {w : World} {hi d : Nat} {A : Option Addr} {n c : Nat} {l : List Flt} (h : FltsV w hi d (.slice A n c) l) {k : Nat} (hk : k < l.length) :
  ∃b off Ap cp Ak ck,A=some ⟨b,off,none⟩∧b<hi∧w.cell? ⟨b,off+k*5,none⟩=some (.int .i64 l[k].kind)∧w.cell? ⟨b,off+k*5+1,none⟩=some (.string (B l[k].name))∧w.cell? ⟨b,off+k*5+2,none⟩=some (.string (B l[k].value))∧
   w.cell? ⟨b,off+k*5+3,none⟩=some (.slice Ap l[k].parts.length cp)∧w.cell? ⟨b,off+k*5+4,none⟩=some (.slice Ak l[k].kids.length ck)∧0<d∧FltV w hi (d-1) (.agg #[.int .i64 l[k].kind,.string (B l[k].name),.string (B l[k].value),.slice Ap l[k].parts.length cp,.slice Ak l[k].kids.length ck]) l[k]:=by
 obtain ⟨b,off,pv,kv,h1,h2,h3,h4,h5,h6,h7,h8,h9,h10⟩:=h.cell hk
 obtain ⟨Ap,cp,rfl,_⟩:=SlV.shape h9
 obtain ⟨Ak,ck,rfl,_⟩:=SlV.shape h10
 exact ⟨b,off,Ap,cp,Ak,ck,h1,h2,h3,h4,h5,h6,h7,h8,_,_,rfl,h9,h10⟩
theorem FltV.shape {w : World} {hi d : Nat} {v : Value} {f : Flt} (h : FltV w hi d v f) : ∃ Ap cp Ak ck, v = .agg #[.int .i64 f.kind, .string (B f.name), .string (B f.value), .slice Ap f.parts.length cp, .slice Ak f.kids.length ck] ∧
  StrsV w hi (.slice Ap f.parts.length cp) f.parts∧FltsV w hi d (.slice Ak f.kids.length ck) f.kids:=by
 obtain ⟨pv,kv,rfl,hp,hk⟩:=h
 obtain ⟨Ap,cp,rfl,_⟩:=SlV.shape hp
 obtain ⟨Ak,ck,rfl,_⟩:=SlV.shape hk
 exact ⟨Ap,cp,Ak,ck,rfl,hp,hk⟩
def FiveAt (W:World) (p:Nat) (a b c d e:Value):Prop:=W.cell? ⟨p,0,none⟩=some a∧W.cell? ⟨p,1,none⟩=some b∧W.cell? ⟨p,2,none⟩=some c∧W.cell? ⟨p,3,none⟩=some d∧W.cell? ⟨p,4,none⟩=some e
theorem FiveAt.later {w W:World} {p:Nat} {a b c d e:Value} (h:FiveAt w p a b c d e) (hb:Below w.heap.size w W):FiveAt W p a b c d e:=
 ⟨cell_later hb h.1,cell_later hb h.2.1,cell_later hb h.2.2.1,cell_later hb h.2.2.2.1,cell_later hb h.2.2.2.2⟩
theorem formed_any (v : Value) (f : Flt) (d : Nat) (w : World) (hv : FltV w w.heap.size d v f) (hl : f.parts.length ≤ 1000000000) :
    Calls Tryz.prog 206 #[v] w fun e w'=>e=.returned (.bool (formF f.kind f.name f.value f.parts f.kids.length))∧Below w.heap.size w w':=by
 obtain ⟨Ap,cp,Ak,ck,rfl,hp,hk⟩:=hv.shape
 have hP:=fun W (hW:Below w.heap.size w W)=>fparts_any _ f.parts W (SlV.mono (SlV.keep hp hW) hW.size) hl
 rw[formF_B]
 have tn:=empty_beq f.name
 have tv:=empty_beq f.value
 have hep:f.parts.isEmpty=decide (f.parts.length=0):=by cases f.parts<;>simp
 generalize partsF f.parts=pp at *
 generalize f.name.isEmpty=en at *
 generalize f.value.isEmpty=ev at *
 generalize B f.name=bn at *
 generalize B f.value=bv at *
 rw[hep]
 generalize f.parts.length=np at *
 generalize f.kids.length=m at *
 generalize f.kind=k at *
 clear hp hk hep
 by_cases h0:np=0
 all_goals
  first
   | (subst h0
      rw[decide_eq_true rfl])
   | (have hpI : (0 : Int) < (np : Int) := by omega
      have hpN:0<np:=by omega
      rw[decide_eq_false h0]
      clear h0)
  go_enter Tryz.func206,Tryz.ntmps206
  go_upto_region 1 with fail
  with_reducible refine gen1 (R:=fun W=>Code.wp Tryz.prog _ _ _ W) ?_
  intro W hbW hszW hc _
  have b0:W.cell? ⟨w.heap.size,0,none⟩=some (.int .i64 k):=hc 0 _ rfl
  have b1:W.cell? ⟨w.heap.size,1,none⟩=some (.string bn):=hc 1 _ rfl
  have b2:W.cell? ⟨w.heap.size,2,none⟩=some (.string bv):=hc 2 _ rfl
  have b3:=hc 3 _ rfl
  have b4:W.cell? ⟨w.heap.size,4,none⟩=some (.slice Ak m ck):=hc 4 _ rfl
  clear hc hszW
  go_wp2_with fail
  go_quiet (fail)
  rcases kinds k with rfl|rfl|rfl|rfl|rfl|rfl|rfl|rfl|hk9
  iterate 2
   ·cases en<;>cases ev<;>(go_wp2_with fail;go_ret;exact ⟨ret_bool (by simp[formB]),below_drewN hbW _⟩)
  ·rcases kids3 m with rfl|rfl|⟨m1,m2,m3,m4⟩<;>cases en<;>cases ev<;>(go_wp2_with fail;go_ret;exact ⟨ret_bool (by simp[formB, *]),below_drewN hbW _⟩)
  iterate 3
   ·rcases kids3 m with rfl|rfl|⟨m1,m2,m3,m4⟩<;>(go_wp2_with fail;go_ret;exact ⟨ret_bool (by simp[formB, *]),below_drewN hbW _⟩)
  ·rcases kids3 m with rfl|rfl|⟨m1,m2,m3,m4⟩<;>cases ev<;>(go_wp2_with fail;go_ret;exact ⟨ret_bool (by simp[formB, *]),below_drewN hbW _⟩)
  ·rcases kids3 m with rfl|rfl|⟨m1,m2,m3,m4⟩<;>cases ev
   all_goals
    first
     | (go_wp2_with fail
        go_ret
        exact ⟨ret_bool (by simp[formB, *]),below_drewN hbW _⟩)
     | (go_wp2_with fail
        refine (hP _ (below_drewN hbW _)).mono ?_
        rintro e w2 ⟨rfl,hb2⟩
        go_wp2_with fail
        go_ret
        exact ⟨ret_bool (by simp[formB]),(below_drewN hbW _).trans (hb2.mono (below_drewN hbW _).size)⟩)
  ·have HF:Hid (∀a b c m p,formB k a b c m p=false):=formB_other hk9
   obtain ⟨e1,e2,e3,e4,e5,e6,e7,e8⟩:=hk9
   go_wp2_with fail
   go_ret
   exact ⟨ret_bool (by rw[HF.out]),below_drewN hbW _⟩
def PredK (g:Nat) (lb:Array Value) (p:Flt→Bool) (l:List Flt) (w:World) (d:Nat):Prop:=
 ∀(W:World) (v:Value) (f:Flt),f∈l→Below w.heap.size w W→0<d→FltV W W.heap.size (d-1) v f→Calls Tryz.prog g (#[v]++lb) W fun e w'=>e=.returned (.bool (p f))∧Below W.heap.size W w'
theorem idxK_any (g : Nat) (lb : Array Value) (eg : FnB g) (p : Flt → Bool) (v : Value) (l : List Flt) (d : Nat) (w : World) (hv : FltsV w w.heap.size d v l) (hl : l.length ≤ 1000000000) (hp : PredK g lb p l w d) :
  Calls Tryz.prog 265 #[v,.func (.func g) #[] lb] w fun e w'=>e=.returned (.int .i64 (idxG p l))∧Below w.heap.size w w':=by
 obtain ⟨A,ca,rfl,hca⟩:=SlV.shape hv
 unfold FnB at eg
 generalize hr:idxG p l=r
 have hR:=Lib.hid hr
 clear hr
 go_enter Tryz.func265,Tryz.ntmps265
 go_wp2
 go_loopw [5,8] (fun _ i wr=>∃k:Nat,k≤l.length∧i=.int .i64 k∧Below w.heap.size w wr∧Hid (l.findIdx? p=((l.drop k).findIdx? p).map (·+k))) (fun _ i _=>l.length-(intOf i).toNat)
 case atStart=>exact ⟨0,Nat.zero_le _,rfl,Below.refl _ _,by show _=_;simp⟩
 case round=>
  obtain ⟨k,hk,rfl,hb,hinv⟩:=hrel
  by_cases hlt:k<l.length
  ·obtain ⟨b,off,Ap,cp,Ak,ck,hA,hbl,c0,c1,c2,c3,c4,hd,hkid⟩:=FltsV.kid2 (FltsV.keep hv hb) hlt
   subst hA
   have hcall:=hp wr _ l[k] (List.getElem_mem hlt) hb hd (FltV.mono hkid hb.size)
   have hltI:(k:Int)<(l.length:Int):=by omega
   have hfd:=idxG_drop p l k hlt hinv.out
   clear hp hinv hkid
   cases hq:p l[k]
   ·have HF:Hid (l.findIdx? p=((l.drop (k+1)).findIdx? p).map (·+(k+1))):=hfd.2 hq
    rw[hq]at hcall
    clear hfd hq
    go_wp2_with (refine hcall.mono ?_;rintro e w' ⟨rfl,hb'⟩)
    go_roundw
    case rel=>exact ⟨k+1,by omega,by go_num,hb.trans (hb'.mono hb.size),HF⟩
    case measure=>simp[intOf];omega
   ·have HF:Hid (r=k):=by show _=_;rw[←hR.out,idxG_some (hfd.1 hq)]
    rw[hq]at hcall
    clear hfd hq
    go_wp2_with (refine hcall.mono ?_;rintro e w' ⟨rfl,hb'⟩)
    go_ret
    exact ⟨ret_int (by rw[HF.out]),hb.trans (hb'.mono hb.size)⟩
  ·have HF:Hid (r = -1):=by show _=_;rw[←hR.out,idxG_none];rw[hinv.out,List.drop_eq_nil_of_le (by omega)];rfl
   have hltI:¬(k:Int)<(l.length:Int):=by omega
   go_wp2
   go_ret
   exact ⟨ret_int (by rw[HF.out]),hb⟩
theorem hasK_any (g : Nat) (lb : Array Value) (eg : FnB g) (p : Flt → Bool) (v : Value) (l : List Flt) (d : Nat) (w : World) (hv : FltsV w w.heap.size d v l) (hl : l.length ≤ 1000000000) (hp : PredK g lb p l w d) :
    Calls Tryz.prog 204 #[v,.func (.func g) #[] lb] w fun e w'=>e=.returned (.bool (l.any p))∧Below w.heap.size w w':=by
 have hI:=idxK_any g lb eg p v l d w hv hl hp
 have hany:l.any p=(l.findIdx? p).isSome:=by
  rw[List.findIdx?_isSome]
 cases hx:l.findIdx? p with
 |none=>
  rw[idxG_none hx]at hI
  have HF:Hid (l.any p=false):=by show _=_;rw[hany,hx];rfl
  clear hany hx
  go_enter Tryz.func204,Tryz.ntmps204
  go_wp2_with (go_at_call 265;refine hI.mono ?_;rintro e w' ⟨rfl,hb'⟩)
  go_ret
  exact ⟨ret_bool (by rw[HF.out]),hb'⟩
 |some k=>
  rw[idxG_some hx]at hI
  have HF:Hid (l.any p=true):=by show _=_;rw[hany,hx];rfl
  clear hany hx
  go_enter Tryz.func204,Tryz.ntmps204
  go_wp2_with (go_at_call 265;refine hI.mono ?_;rintro e w' ⟨rfl,hb'⟩)
  go_ret
  exact ⟨ret_bool (by rw[HF.out]),hb'⟩
end Go.Proofs.YtbkkchhimhlhcaaGreatDoor
/- filter: Nodes, deep, check, Check. -/
namespace Go.Proofs.YtbkkchhimhlhcaaGreatDoor
open Go.RowKit Go.Sort
open Idn (L B Bs drop_L take_L size_L)
theorem min_int (m:Nat):min (m:Int) 65=((min m 65:Nat):Int):=by omega
theorem fSizes_part (l:List Flt) (k:Nat):fSizes (l.take k)≤fSizes l:=by
 have:=fSizes_append (l.take k) (l.drop k)
 rw[List.take_append_drop]at this;omega
theorem nodes_any : ∀ (d : Nat) (v : Value) (f : Flt) (w : World), FltV w w.heap.size d v f → FSm 1000 f →
  Calls Tryz.prog 151 #[v] w fun e w'=>e=.returned (.int .i64 ((min (fSize f) 65:Nat):Int))∧Below w.heap.size w w':=by
 intro d
 induction d using Nat.strongRecOn with
 |_ d ih=>
 intro v f w hv hs
 obtain ⟨Ap,cp,Ak,ck,rfl,hp,hk⟩:=hv.shape
 have hks:=hs.kids
 have hkl:=hks.len
 have HZ:Hid (fSize f=fSizes f.kids+1):=by show _=_;cases f;rfl
 clear hp hv
 go_enter Tryz.func151,Tryz.ntmps151
 go_upto_region 1 with fail
 with_reducible refine gen1 (R:=fun W=>Code.wp Tryz.prog _ _ _ W) ?_
 intro W hbW hszW hc _
 have b4:W.cell? ⟨w.heap.size,4,none⟩=some (.slice Ak f.kids.length ck):=hc 4 _ rfl
 clear hc hszW
 go_wp2_with fail
 go_loopw [3,9] (fun n i wr=>∃(k m:Nat),k≤f.kids.length∧m≤129∧n=.int .i64 m∧i=.int .i64 k∧Below w.heap.size w wr∧Hid (min m 65=min (1+fSizes (f.kids.take k)) 65)) (fun _ i _=>f.kids.length-(intOf i).toNat)
 case atStart=>exact ⟨0,1,Nat.zero_le _,by omega,rfl,rfl,hbW,by show _=_;simp[fSizes]⟩
 case round=>
  obtain ⟨k,m,hk9,hm9,rfl,rfl,hb,hinv⟩:=hrel
  have hmn:=min_int m
  by_cases hlt:k<f.kids.length
  ·obtain ⟨g,off,Ap',cp',Ak',ck',hA,hg,c0,c1,c2,c3,c4,hd,hkid⟩:=FltsV.kid2 (FltsV.keep hk hb) hlt
   subst hA
   have hltI:(k:Int)<(f.kids.length:Int):=by omega
   have hmem:=List.getElem_mem hlt
   have HT:=Lib.hid (fSizes_take hlt)
   go_upto_region 5 with fail
   with_reducible refine gen1 (R:=fun W=>Code.wp Tryz.prog _ _ _ W) ?_
   intro W5 hbW5 hsz5 hc5 _
   have k0:W5.cell? ⟨wr.heap.size,0,none⟩=some (.int .i64 f.kids[k].kind):=hc5 0 _ rfl
   have k1:W5.cell? ⟨wr.heap.size,1,none⟩=some (.string (B f.kids[k].name)):=hc5 1 _ rfl
   have k2:W5.cell? ⟨wr.heap.size,2,none⟩=some (.string (B f.kids[k].value)):=hc5 2 _ rfl
   have k3:W5.cell? ⟨wr.heap.size,3,none⟩=some (.slice Ap' f.kids[k].parts.length cp'):=hc5 3 _ rfl
   have k4:W5.cell? ⟨wr.heap.size,4,none⟩=some (.slice Ak' f.kids[k].kids.length ck'):=hc5 4 _ rfl
   have hcall:=ih (d-1) (by omega) _ f.kids[k] W5 (FltV.on (FltV.mono hkid hb.size) hbW5) (hks.mem hmem)
   have hb5:=hb.trans (hbW5.mono hb.size)
   clear hc5 hsz5 hkid c0 c1 c2 c3 c4 hbW5 ih hk
   by_cases hn:64<m
   ·have hI:(64:Int)<(m:Int):=by omega
    have HF:Hid (min m 65=min (fSize f) 65):=by
     have h1:=hinv.out
     have h2:=HZ.out
     have h3:=fSizes_part f.kids k
     show _=_;omega
    clear hinv hcall hn HT
    go_wp2_with fail
    go_ret
    exact ⟨ret_int (by rw[HF.out]),hb5⟩
   ·have hI:¬(64:Int)<(m:Int):=by omega
    obtain ⟨q,hq⟩:∃q:Nat,q=min (fSize f.kids[k]) 65:=⟨_,rfl⟩
    rw[←hq]at hcall
    have hq9:q≤65:=by omega
    have HQ:=Lib.hid hq
    have hw1:IntKind.i64.wrap ((m:Int)+(q:Int))=(m:Int)+(q:Int):=IntWalk.i64_in _ (by omega)
    have HV:Hid (min (m+q) 65=min (1+fSizes (f.kids.take (k+1))) 65):=by
     have h1:=hinv.out
     have h2:=HT.out
     have h3:=HQ.out
     show _=_;omega
    clear hinv hq HT HQ hn
    go_wp2_with fail
    refine hcall.mono ?_
    rintro e w6 ⟨rfl,hb6⟩
    clear hcall k0 k1 k2 k3 k4
    go_wp2_with fail
    go_roundw
    case rel=>exact ⟨k+1,m+q,by omega,by omega,by congr 1,by go_num,hb5.trans (hb6.mono hb5.size),HV⟩
    case measure=>simp[intOf];omega
  ·have hltI:¬(k:Int)<(f.kids.length:Int):=by omega
   have HF:Hid (min m 65=min (fSize f) 65):=by
    have h1:=hinv.out
    have h2:=HZ.out
    rw[List.take_of_length_le (by omega)]at h1
    show _=_;omega
   clear hinv
   go_wp2_with fail
   go_ret
   exact ⟨ret_int (by rw[HF.out]),hb⟩
theorem deep1_any (bk lv d : Nat) (v : Value) (f : Flt) (w : World) (hv : FltV w w.heap.size d v f) (hs : FSm 1000 f) (hc : w.cell? ⟨bk, 0, none⟩ = some (.int .i64 (lv : Int))) (h1 : 1 ≤ lv) (h9 : lv ≤ 1000)
  (ih:∀(v:Value) (f:Flt) (W:World),FltV W W.heap.size d v f→FSm 1000 f→Calls Tryz.prog 152 #[v,.int .i64 ((lv-1:Nat):Int)] W fun e w'=>e=.returned (.bool (decide (lv-1<fDep f)))∧Below W.heap.size W w') :
  Calls Tryz.prog 205 #[v,.pointer (some ⟨bk,0,none⟩)] w fun e w'=>e=.returned (.bool (decide (lv-1<fDep f)))∧Below w.heap.size w w':=by
 obtain ⟨Ap,cp,Ak,ck,rfl,hp,hk⟩:=hv.shape
 have hcall:=fun W (hW:Below w.heap.size w W)=>ih _ f W (hv.on hW) hs
 generalize decide (lv-1<fDep f)=r at *
 have hw1:IntKind.i64.wrap ((lv:Int)-1)=((lv-1:Nat):Int):=by rw[IntWalk.i64_in _ (by omega)];omega
 go_enter Tryz.func205,Tryz.ntmps205
 go_upto_region 1 with fail
 with_reducible refine gen1 (R:=fun W=>Code.wp Tryz.prog _ _ _ W) ?_
 intro W hbW hszW hc1 _
 have k0:W.cell? ⟨w.heap.size,0,none⟩=some (.int .i64 f.kind):=hc1 0 _ rfl
 have k1:W.cell? ⟨w.heap.size,1,none⟩=some (.string (B f.name)):=hc1 1 _ rfl
 have k2:W.cell? ⟨w.heap.size,2,none⟩=some (.string (B f.value)):=hc1 2 _ rfl
 have k3:W.cell? ⟨w.heap.size,3,none⟩=some (.slice Ap f.parts.length cp):=hc1 3 _ rfl
 have k4:W.cell? ⟨w.heap.size,4,none⟩=some (.slice Ak f.kids.length ck):=hc1 4 _ rfl
 replace hc:=cell_later hbW hc
 clear hc1 hszW hp hk hv ih
 go_wp2_with fail
 refine (hcall W hbW).mono ?_
 rintro e w2 ⟨rfl,hb2⟩
 go_wp2_with fail
 go_ret
 exact ⟨rfl,hbW.trans (hb2.mono hbW.size)⟩
theorem fn_deep1:FnB 205:=by intro a w;kernel_rfl
theorem dep_any (f:Flt) (lv:Nat) (h:1≤lv):(f.kids.any fun g=>decide (lv-1<fDep g))=decide (lv<fDep f):=by
 have e:fDep f=fDeps f.kids+1:=by cases f;rfl
 rw[Bool.eq_iff_iff,List.any_eq_true,decide_eq_true_eq,e]
 constructor
 ·rintro ⟨g,hg,h2⟩
  have h3:=(fDeps_le (l:=f.kids) (n:=fDeps f.kids)).1 (Nat.le_refl _) g hg
  have:=of_decide_eq_true h2
  omega
 ·intro h2
  apply Classical.byContradiction
  intro h3
  have:fDeps f.kids≤lv-1:=fDeps_le.2 fun g hg=>Nat.le_of_not_lt fun h4=>h3 ⟨g,hg,decide_eq_true h4⟩
  omega
theorem deep_any : ∀ (d : Nat) (v : Value) (f : Flt) (lv : Nat) (w : World), FltV w w.heap.size d v f → FSm 1000 f → lv ≤ 1000 →
  Calls Tryz.prog 152 #[v,.int .i64 (lv:Int)] w fun e w'=>e=.returned (.bool (decide (lv<fDep f)))∧Below w.heap.size w w':=by
 intro d
 induction d using Nat.strongRecOn with
 |_ d ih=>
 intro v f lv w hv hs h9
 obtain ⟨Ap,cp,Ak,ck,rfl,hp,hk⟩:=hv.shape
 have hks:=hs.kids
 have hkl:=hks.len
 by_cases h0:lv=0
 ·subst h0
  have HF:Hid (decide (0<fDep f)=true):=decide_eq_true (fDep_pos f)
  clear ih hk hp hv
  go_enter Tryz.func152,Tryz.ntmps152
  go_wp2_with fail
  go_ret
  exact ⟨ret_bool HF.out.symm,((Below.refl _ _).alloc (Nat.le_refl _) _).alloc (by simp) _⟩
 have hI:¬(lv:Int)<1:=by omega
 have HF:=Lib.hid (dep_any f lv (by omega))
 have hH : ∀ W, Below w.heap.size w W → W.cell? ⟨w.heap.size + 1, 0, none⟩ = some (.int .i64 (lv : Int)) → w.heap.size + 1 < W.heap.size →
   Calls Tryz.prog 204 #[.slice Ak f.kids.length ck,.func (.func 205) #[] #[.pointer (some ⟨w.heap.size+1,0,none⟩)]] W fun e w'=>e=.returned (.bool (f.kids.any fun g=>decide (lv-1<fDep g)))∧Below W.heap.size W w':=fun W hW hc hlt=>
  hasK_any 205 #[.pointer (some ⟨w.heap.size+1,0,none⟩)] fn_deep1 _ _ _ d W (FltsV.on hk hW) (by omega) fun W' v' g hg hb hd hv'=>
   deep1_any (w.heap.size+1) lv (d-1) v' g W' hv' (hks.mem hg) (cell_later hb hc) (by omega) h9 fun v2 f2 W2 h2 h3=>ih (d-1) (by omega) v2 f2 (lv-1) W2 h2 h3 (by omega)
 generalize (f.kids.any fun g=>decide (lv-1<fDep g))=r at *
 clear ih hp hv hk
 go_enter Tryz.func152,Tryz.ntmps152
 go_upto_region 1 with fail
 with_reducible refine gen2 (R:=fun W=>Code.wp Tryz.prog _ _ _ W) ?_
 intro W hbW hszW hc1 hc2
 have b4:W.cell? ⟨w.heap.size,4,none⟩=some (.slice Ak f.kids.length ck):=hc1 4 _ rfl
 have l0:W.cell? ⟨w.heap.size+1,0,none⟩=some (.int .i64 (lv:Int)):=hc2 0 _ rfl
 have hcall:=hH W hbW l0 (by omega)
 clear hc1 hc2 hszW hH
 go_wp2_with fail
 refine hcall.mono ?_
 rintro e w2 ⟨rfl,hb2⟩
 go_wp2_with fail
 go_ret
 exact ⟨ret_bool HF.out,hbW.trans (hb2.mono hbW.size)⟩
end Go.Proofs.YtbkkchhimhlhcaaGreatDoor
/- A row of modifications of the call's own, whose values lie in rows of the call's own. -/
namespace Go.Proofs.YtbkkchhimhlhcaaGreatDoor
open Go.RowKit Go.Sort
open Idn (L B Bs)
theorem own_apart2 {w:World} {base base':Nat} {e e':TypeId} {size size':Nat} {v v':Value} {n n':Nat} {xs xs':List Value} (h:w.ownsRow base e size v n xs) (h':w.ownsRow base' e' size' v' n' xs') (hne:e≠e'):∀g,v.ownBlock=some g→v'.ownBlock≠some g:=by
 rcases h.2 with ⟨rfl,_⟩|⟨g1,cap,cur,rfl,_,hg,_⟩
 ·intro g hg;simp[Value.ownBlock]at hg
 ·rcases h'.2 with ⟨rfl,_⟩|⟨g2,cap2,cur2,rfl,_,hg2,_⟩
  ·intro g _;simp[Value.ownBlock]
  ·intro g h1 h2
   simp[Value.ownBlock]at h1 h2
   subst h1 h2
   rw[hg]at hg2
   injection hg2 with hg2
   injection hg2 with _ ht
   exact hne ht
theorem own_open {w:World} {base:Nat} {e:TypeId} {size n n' c:Nat} {A:Option Addr} {xs:List Value} (h:w.ownsRow base e size (.slice A n c) n' xs) (hpos:0<n'):∃g,A=some ⟨g,0,none⟩∧∀(j:Nat) u,xs[j]?=some u→w.cell? ⟨g,j,none⟩=some u:=by
 rcases id h.2 with ⟨_,hn⟩|⟨g,cap,cur,hv,_⟩
 ·omega
 ·injection hv with h1 h2 h3
  subst h1 h2 h3
  exact ⟨g,rfl,(own_cell h).1⟩
def CutS (w:World) (base:Nat) (v:Value) (l:List Bs):Prop:=∃A c c',v=.slice A l.length c'∧l.length≤c'∧w.ownsRow base 9 1 (.slice A l.length c) l.length (l.map sv)
theorem CutS.nil (w:World) (base:Nat):CutS w base (.slice none 0 0) []:=⟨none,0,0,rfl,Nat.le_refl _,World.ownsRow_nil _ _ _ _⟩
theorem CutS.shape {w:World} {base:Nat} {v:Value} {l:List Bs} (h:CutS w base v l):∃A c,v=.slice A l.length c:=by
 obtain ⟨A,_,c',e,_⟩:=h
 exact ⟨A,c',e⟩
theorem CutS.read {w:World} {base:Nat} {v:Value} {l:List Bs} (h:CutS w base v l):StrsV w w.heap.size v l:=by
 obtain ⟨A,c,c',rfl,hc,ho⟩:=h
 obtain ⟨A',c2,e,_,hx⟩:=StrsV.of_own ho
 injection e with e1 e2 e3
 subst e1
 exact ⟨_,c',rfl,hc,hx⟩
theorem CutS.own {w:World} {base:Nat} {v:Value} {l:List Bs} (h:w.ownsRow base 9 1 v l.length (l.map sv)):CutS w base v l:=by
 obtain ⟨A,c,rfl⟩:=own_shape h
 obtain ⟨A',c',e,hc,_⟩:=StrsV.of_own h
 injection e with e1 e2 e3
 subst e3
 exact ⟨A,c,c,rfl,hc,h⟩
theorem CutS.keep {w w':World} {base:Nat} {v:Value} {l:List Bs} (h:CutS w base v l) (hb:Below w.heap.size w w'):CutS w' base v l:=by
 obtain ⟨A,c,c',e,hc,ho⟩:=h
 exact ⟨A,c,c',e,hc,own_below ho hb⟩
theorem CutS.base {w:World} {base base':Nat} {v:Value} {l:List Bs} (h:CutS w base v l) (hb:base'≤base):CutS w base' v l:=by
 obtain ⟨A,c,c',e,hc,ho⟩:=h
 exact ⟨A,c,c',e,hc,own_base ho hb⟩
end Go.Proofs.YtbkkchhimhlhcaaGreatDoor
/- filter.exact, fold.Match. -/
namespace Go.Proofs.YtbkkchhimhlhcaaGreatDoor
open Go.RowKit Go.Sort
open Idn (L B Bs drop_L take_L size_L)
theorem fnd_index (p:Bs):∀r:Bs,fnd p r=if 0≤Lib.index r p then some (r.drop ((Lib.index r p).toNat+p.length))else none
 |[]=>by
  unfold fnd Lib.index
  cases p with
  |nil=>rfl
  |cons a p=>rfl
 |c :: l=>by
  have ih:=fnd_index p l
  have hge:=Lib.index_ge l p
  rw[fnd,Lib.index]
  cases h:p.isPrefixOf (c :: l)
  ·simp only[Bool.false_eq_true,↓reduceIte,ih]
   by_cases h1:Lib.index l p = -1
   ·rw[h1];rfl
   ·have h2:(Lib.index l p == -1)=false:=beq_eq_false_iff_ne.2 h1
    simp only[h2,Bool.false_eq_true,↓reduceIte]
    rw[if_pos (by omega),if_pos (by omega)]
    rw[show (Lib.index l p+1).toNat+p.length=((Lib.index l p).toNat+p.length)+1 by omega,List.drop_succ_cons]
  ·simp only[↓reduceIte]
   rw[if_pos (by decide),show (0:Int).toNat+p.length=p.length by simp]
theorem fnd_cut (p r:Bs):fnd p r=if (Lib.cut r p).2.2 then some (Lib.cut r p).2.1 else none:=by
 rw[fnd_index]
 unfold Lib.cut
 split<;>simp
theorem cutG_any (y z : ByteArray) (w : World) (hE : Env w) (hy : y.size ≤ 1000000000) :
  Calls Tryz.prog 333 #[.string y,.string z] w fun e w'=>e=.returned (.tuple #[.string (B (Lib.cut (L y) (L z)).1),.string (B (Lib.cut (L y) (L z)).2.1),.bool (Lib.cut (L y) (L z)).2.2])∧Below w.heap.size w w':=by
 obtain ⟨⟨m,h1⟩,_⟩:=hE
 refine (Tryz.strings_Cut y z m w (by omega) h1).mono ?_
 rintro e w' ⟨rfl,n,rfl⟩
 exact ⟨rfl,below_drewN (Below.refl _ _) n⟩
theorem cut_len (r p:Bs):(Lib.cut r p).2.1.length≤r.length:=by
 unfold Lib.cut
 split
 ·rw[List.length_drop];omega
 ·simp
theorem headD_get {l:List Bs} (h:0<l.length):l.headD []=l[0]:=by cases l with
 |nil=>simp at h
 |cons a l=>rfl
theorem lastD_get {l:List Bs} (h:0<l.length):l.getLastD []=l[l.length-1]:=by
 cases l with
 |nil=>simp at h
 |cons a l=>simp[List.getLastD,List.getLast_eq_getElem]
theorem exact_any (x : Bs) (v : Value) (l : List Bs) (w : World) (hE : Env w) (hv : StrsV w w.heap.size v l) (h2 : 2 ≤ l.length) (hl : l.length ≤ 100000) (hx : x.length ≤ 1000000000) :
  Calls Tryz.prog 309 #[.string (B x),v] w fun e w'=>e=.returned (.bool (exactF x l))∧Below w.heap.size w w':=by
 obtain ⟨A,c,rfl,hc⟩:=SlV.shape hv
 obtain ⟨b,off,hA,hbl,c0⟩:=StrsV.cell hv (k:=0) (by omega)
 have hm:=mid_strs hv hA h2
 have hml:(l.drop 1).dropLast.length=l.length-1-1:=by rw[List.length_dropLast,List.length_drop]
 obtain ⟨b',off',hA',_,c1⟩:=StrsV.cell hv (k:=l.length-1) (by omega)
 rw[hA]at hA'
 injection hA' with hA'
 injection hA' with q1 q2
 subst q1 q2
 subst hA
 obtain ⟨q,hq0⟩:∃q,q=l[l.length-1]'(by omega):=⟨_,rfl⟩
 rw[←hq0]at c1
 have HR:Hid (exactF x l=((cutP l[0] x).bind fun r=>(cutS q r).bind fun r=>fnds (l.drop 1).dropLast r).isSome):=by
  show _=_
  unfold exactF
  rw[headD_get (by omega),lastD_get (by omega),hq0]
 have hP:Calls Tryz.prog 315 #[.string (B x),.string (B l[0])] w fun e w'=>e=.returned (.tuple #[.string (B (if l[0].isPrefixOf x then x.drop l[0].length else x)),.bool (l[0].isPrefixOf x)])∧w'=w:=Tryz.strings_CutPrefix (B x) (B l[0]) w
 have hS:=fun (r:Bs) (hr:r.length≤1000000000)=>show Calls Tryz.prog 335 #[.string (B r),.string (B q)] w fun e w'=>e=.returned (.tuple #[.string (B (if q.isSuffixOf r then r.take (r.length-q.length)else r)),.bool (q.isSuffixOf r)])∧w'=w from Tryz.strings_CutSuffix (B r) (B q) w (by rw[Idn.size_B];omega)
 generalize exactF x l=R at *
 generalize hp0:l[0]=p at *
 generalize hms:(l.drop 1).dropLast=ms at *
 have HML:=Lib.hid hml
 rw[Nat.add_zero]at c0
 have hw1:IntKind.i64.wrap ((l.length:Int)-1)=((l.length-1:Nat):Int):=by rw[IntWalk.i64_in _ (by omega)];omega
 have hixI:((l.length-1:Nat):Int)<(l.length:Int):=by omega
 have h0I:(0:Int)<(l.length:Int):=by omega
 clear hp0 hq0 hms hml hv
 cases hpp:p.isPrefixOf x
 ·have HF:Hid (R=false):=by show _=_;rw[HR.out,cutP,hpp];rfl
  rw[hpp]at hP
  clear HR hS hpp hm
  go_enter Tryz.func309,Tryz.ntmps309
  go_wp2_with fail
  refine hP.mono ?_
  rintro e wd ⟨rfl,rfl⟩
  go_wp2_with fail
  go_ret
  exact ⟨ret_bool HF.out.symm,Below.refl _ _⟩
 rw[hpp,if_pos rfl]at hP
 have HR2:Hid (R=((cutS q (x.drop p.length)).bind fun r=>fnds ms r).isSome):=by show _=_;rw[HR.out,cutP,hpp];rfl
 have hr1:(x.drop p.length).length≤1000000000:=by rw[List.length_drop];omega
 have hS1:=hS (x.drop p.length) hr1
 generalize x.drop p.length=r1 at *
 clear HR hS hpp
 cases hss:q.isSuffixOf r1
 ·have HF:Hid (R=false):=by show _=_;rw[HR2.out,cutS,hss];rfl
  rw[hss]at hS1
  clear HR2 hss hm
  go_enter Tryz.func309,Tryz.ntmps309
  go_wp2_with fail
  refine hP.mono ?_
  rintro e wd ⟨rfl,rfl⟩
  go_wp2_with fail
  refine hS1.mono ?_
  rintro e wd2 ⟨rfl,rfl⟩
  go_wp2_with fail
  go_ret
  exact ⟨ret_bool HF.out.symm,Below.refl _ _⟩
 rw[hss,if_pos rfl]at hS1
 have HR3:Hid (R=(fnds ms (r1.take (r1.length-q.length))).isSome):=by show _=_;rw[HR2.out,cutS,hss];rfl
 have hr2:(r1.take (r1.length-q.length)).length≤1000000000:=by rw[List.length_take];omega
 generalize r1.take (r1.length-q.length)=r2 at *
 clear HR2 hss hr1
 go_enter Tryz.func309,Tryz.ntmps309
 go_wp2_with fail
 refine hP.mono ?_
 rintro e wd ⟨rfl,rfl⟩
 go_wp2_with fail
 refine hS1.mono ?_
 rintro e wd2 ⟨rfl,rfl⟩
 clear hP hS1 c0 c1
 go_wp2_with fail
 go_loopw [5,6,40] (fun u _ i wr=>∃(k:Nat) (r:Bs),k≤ms.length∧u=.string (B r)∧i=.int .i64 k∧Below wd2.heap.size wd2 wr∧r.length≤1000000000∧Hid (R=(fnds (ms.drop k) r).isSome)) (fun _ _ i _=>ms.length-(intOf i).toNat)
 case atStart=>exact ⟨0,r2,Nat.zero_le _,rfl,rfl,Below.refl _ _,hr2,HR3.out⟩
 case round=>
  obtain ⟨k,r,hk,rfl,rfl,hb,hrl,hinv⟩:=hrel
  by_cases hlt:k<ms.length
  ·obtain ⟨g,o,hA,_,d0⟩:=StrsV.cell (SlV.keep hm hb) hlt
   injection hA with hA
   injection hA with q1 q2
   subst q1 q2
   have hltI:(k:Int)<((l.length-1-1:Nat):Int):=by have:=HML.out;omega
   have hC:=cutG_any (B r) (B ms[k]) wr (hE.keep hb) (by rw[Idn.size_B];exact hrl)
   rw[Idn.L_B,Idn.L_B]at hC
   have hcl:=cut_len r ms[k]
   have hst:fnds (ms.drop k) r=(if (Lib.cut r ms[k]).2.2 then some (Lib.cut r ms[k]).2.1 else none).bind (fnds (ms.drop (k+1))):=by
    rw[List.drop_eq_getElem_cons hlt,fnds,fnd_cut]
   generalize Lib.cut r ms[k]=ct at *
   obtain ⟨ca,cb,cc⟩:=ct
   dsimp only at hC hcl hst
   cases cc
   ·have HF:Hid (R=false):=by show _=_;rw[hinv.out,hst];rfl
    clear hinv hst
    go_wp2_with fail
    refine hC.mono ?_
    rintro e w6 ⟨rfl,hb6⟩
    go_wp2_with fail
    go_ret
    exact ⟨ret_bool HF.out.symm,hb.trans (hb6.mono hb.size)⟩
   ·have HV:Hid (R=(fnds (ms.drop (k+1)) cb).isSome):=by show _=_;rw[hinv.out,hst];rfl
    clear hinv hst
    go_wp2_with fail
    refine hC.mono ?_
    rintro e w6 ⟨rfl,hb6⟩
    go_wp2_with fail
    go_roundw
    case rel=>exact ⟨k+1,cb,by omega,rfl,by go_num,hb.trans (hb6.mono hb.size),by omega,HV⟩
    case measure=>simp[intOf];omega
  ·have hltI:¬(k:Int)<((l.length-1-1:Nat):Int):=by have:=HML.out;omega
   have HF:Hid (R=true):=by show _=_;rw[hinv.out,List.drop_eq_nil_of_le (by omega)];rfl
   clear hinv
   go_wp2_with fail
   go_ret
   exact ⟨ret_bool HF.out.symm,hb⟩
theorem foldMatch_any (x : Bs) (v : Value) (l : List Bs) (w : World) (hE : Env w) (hv : StrsV w w.heap.size v l) (h2 : 2 ≤ l.length) (hl : l.length ≤ 100000) (hx : x.length ≤ 1000000000) (hll : ∀ y ∈ l, y.length ≤ 1000000000) :
  Calls Tryz.prog 308 #[.string (B x),v] w fun e w'=>e=.returned (.bool (foldF x l))∧Below w.heap.size w w':=by
 obtain ⟨A,c,rfl,hc⟩:=SlV.shape hv
 obtain ⟨b,off,hA,hbl,c0⟩:=StrsV.cell hv (k:=0) (by omega)
 have hm:=mid_strs hv hA h2
 have hml:(l.drop 1).dropLast.length=l.length-1-1:=by rw[List.length_dropLast,List.length_drop]
 have hmx:∀y∈(l.drop 1).dropLast,y.length≤1000000000:=fun y hy=>hll y (List.drop_subset _ _ (List.dropLast_subset _ hy))
 obtain ⟨b',off',hA',_,c1⟩:=StrsV.cell hv (k:=l.length-1) (by omega)
 rw[hA]at hA'
 injection hA' with hA'
 injection hA' with q1 q2
 subst q1 q2
 subst hA
 obtain ⟨q0,hq0⟩:∃q,q=l[l.length-1]'(by omega):=⟨_,rfl⟩
 rw[←hq0]at c1
 have hq9:q0.length≤1000000000:=by rw[hq0];exact hll _ (List.getElem_mem _)
 have HR : Hid (foldF x l = match (cutP (Idn.lower l[0]) (Idn.fold x)).bind fun r => fnds ((l.drop 1).dropLast.map Idn.lower) r with
   |none=>false
   |some r=>(Idn.lower q0).isSuffixOf r):=by
  show _=_
  unfold foldF
  rw[headD_get (by omega),lastD_get (by omega),if_neg (by omega),←hq0]
  rfl
 have hF:=fun W=>fold_any (B x) W (by rw[Idn.size_B];omega)
 have hL0:=fun W=>lower_any (B l[0]) W (by rw[Idn.size_B];have:=hll l[0] (List.getElem_mem _);omega)
 have hL1:=fun W=>lower_any (B q0) W (by rw[Idn.size_B];omega)
 simp only[Idn.L_B]at hF hL0 hL1
 have hfl:=Idn.length_fold x
 generalize foldF x l=R at *
 generalize Idn.lower l[0]=p at *
 generalize l[0]=p0 at *
 generalize Idn.lower q0=q at *
 generalize Idn.fold x=fx at *
 generalize hms:(l.drop 1).dropLast=ms at *
 have hP:=fun W=>show Calls Tryz.prog 315 #[.string (B fx),.string (B p)] W fun e w'=>e=.returned (.tuple #[.string (B (if p.isPrefixOf fx then fx.drop p.length else fx)),.bool (p.isPrefixOf fx)])∧Below W.heap.size W w' from (Tryz.strings_CutPrefix (B fx) (B p) W).mono fun e w' ⟨h1,h2⟩=>⟨h1,h2▸Below.refl _ _⟩
 have hS:=fun (r:Bs) (hr:r.length≤1000000000) (W:World)=>show Calls Tryz.prog 334 #[.string (B r),.string (B q)] W fun e w'=>e=.returned (.bool (q.isSuffixOf r))∧w'=W from Tryz.strings_HasSuffix (B r) (B q) W (by rw[Idn.size_B];omega)
 have HW:Hid ((cutP p fx).bind (fun r=>fnds (ms.map Idn.lower) r)=if p.isPrefixOf fx then fnds (ms.map Idn.lower) (if p.isPrefixOf fx then fx.drop p.length else fx)else none):=by
  show _=_
  unfold cutP
  cases p.isPrefixOf fx<;>rfl
 have hrl:(if p.isPrefixOf fx then fx.drop p.length else fx).length≤1000000000:=by
  split
  ·rw[List.length_drop];omega
  ·omega
 generalize (if p.isPrefixOf fx then fx.drop p.length else fx)=r0 at *
 generalize p.isPrefixOf fx=ok0 at *
 generalize (cutP p fx).bind (fun r=>fnds (ms.map Idn.lower) r)=whole at *
 have HML:=Lib.hid hml
 rw[Nat.add_zero]at c0
 have hw1:IntKind.i64.wrap ((l.length:Int)-1)=((l.length-1:Nat):Int):=by rw[IntWalk.i64_in _ (by omega)];omega
 have hixI:((l.length-1:Nat):Int)<(l.length:Int):=by omega
 have h0I:(0:Int)<(l.length:Int):=by omega
 have h1I:¬((l.length-1:Nat):Int)<1:=by omega
 have k0:=cell_regrown c0
 have q1:=cq (W:=w) fun W' _=>hF W'
 have q2:=cq (W:=w) fun W' _=>hL0 W'
 have q3:=cq (W:=w) fun W' _=>hP W'
 obtain ⟨wo,hwo⟩:∃wo:World,wo=w:=⟨_,rfl⟩
 clear hms hml hv hF hL0 hP hfl hq0 hq9
 go_enter Tryz.func308,Tryz.ntmps308
 go_wp2_with fail
 refine wp_region_quiet_below (by kernel_rfl) (by kernel_rfl) ?_
 repeat (first|go_big_quiet_step ((first|(go_at_call 218;exact q1 _ _)|(go_at_call 125;exact q2 _ _)|(go_at_call 315;exact q3 _ _)))|quiet_step ((first|(go_at_call 218;exact q1 _ _)|(go_at_call 125;exact q2 _ _)|(go_at_call 315;exact q3 _ _))))
 refine wpQuiet_nil ?_
 intro _ hw'
 obtain ⟨⟨dq,osq⟩,hw''⟩:=hw'
 subst hw''
 have hb4:=below_regrown w dq osq
 generalize grow (redrawn w dq) osq=W4 at hb4⊢
 subst hwo
 clear q1 q2 q3 k0
 go_wp2_with fail
 go_loopw [6,7,29] (fun u o i wr=>∃(k:Nat) (r:Bs) (ok:Bool),k≤ms.length∧u=.string (B r)∧o=.bool ok∧i=.int .i64 k∧Below wo.heap.size wo wr∧r.length≤1000000000∧Hid (whole=if ok then fnds ((ms.drop k).map Idn.lower) r else none)) (fun _ _ i _=>ms.length-(intOf i).toNat)
 case atStart=>exact ⟨0,r0,ok0,Nat.zero_le _,rfl,rfl,rfl,hb4,hrl,HW.out⟩
 case round=>
  obtain ⟨k,r,ok,hk,rfl,rfl,rfl,hb,hrl,hinv⟩:=hrel
  by_cases hlt:k<ms.length
  ·obtain ⟨g,o,hA,_,d0⟩:=StrsV.cell (SlV.keep hm hb) hlt
   injection hA with hA
   injection hA with q1 q2
   subst q1 q2
   have hltI:(k:Int)<((l.length-1-1:Nat):Int):=by have:=HML.out;omega
   cases ok
   ·have HF:Hid (R=false):=by show _=_;rw[HR.out,hinv.out];rfl
    clear hinv hS hL1
    go_wp2_with fail
    go_ret
    exact ⟨ret_bool HF.out.symm,hb⟩
   have hLk:=lower_any (B ms[k]) wr (by rw[Idn.size_B];have:=hmx ms[k] (List.getElem_mem _);omega)
   rw[Idn.L_B]at hLk
   have hC:=fun W (hW:Below wr.heap.size wr W)=>cutG_any (B r) (B (Idn.lower ms[k])) W (hE.keep (hb.trans (hW.mono hb.size))) (by rw[Idn.size_B];exact hrl)
   simp only[Idn.L_B]at hC
   have hcl:=cut_len r (Idn.lower ms[k])
   have hst:fnds ((ms.drop k).map Idn.lower) r=(if (Lib.cut r (Idn.lower ms[k])).2.2 then some (Lib.cut r (Idn.lower ms[k])).2.1 else none).bind (fnds ((ms.drop (k+1)).map Idn.lower)):=by
    rw[List.drop_eq_getElem_cons hlt,List.map_cons,fnds,fnd_cut]
   generalize Lib.cut r (Idn.lower ms[k])=ct at *
   generalize Idn.lower ms[k]=lk at *
   obtain ⟨ca,cb,cc⟩:=ct
   dsimp only at hC hcl hst
   have HV:Hid (whole=if cc then fnds ((ms.drop (k+1)).map Idn.lower) cb else none):=by
    show _=_
    rw[hinv.out,if_pos rfl,hst]
    cases cc<;>rfl
   clear hinv hst hS hL1
   go_wp2_with fail
   refine hLk.mono ?_
   rintro e w5 ⟨rfl,hb5⟩
   clear hLk
   go_wp2_with fail
   refine (hC w5 hb5).mono ?_
   rintro e w6 ⟨rfl,hb6⟩
   clear hC
   have hb56:=hb5.trans (hb6.mono hb5.size)
   go_wp2_with fail
   go_roundw
   case rel=>exact ⟨k+1,cb,cc,by omega,rfl,rfl,by go_num,hb.trans (hb56.mono hb.size),by omega,HV⟩
   case measure=>simp[intOf];omega
  ·have hltI:¬(k:Int)<((l.length-1-1:Nat):Int):=by have:=HML.out;omega
   have hwh:Hid (whole=if ok then some r else none):=by show _=_;rw[hinv.out,List.drop_eq_nil_of_le (by omega)];rfl
   replace c1:=cell_later hb c1
   clear hinv
   cases ok
   ·have HF:Hid (R=false):=by show _=_;rw[HR.out,hwh.out];rfl
    clear hwh hS hL1 HR
    go_wp2_with fail
    go_ret
    exact ⟨ret_bool HF.out.symm,hb⟩
   ·have HF:Hid (R=q.isSuffixOf r):=by show _=_;rw[HR.out,hwh.out];rfl
    have hS1:=hS r hrl
    have hLl:=hL1 wr
    generalize q.isSuffixOf r=fin at *
    clear hwh hS hL1 HR
    go_wp2_with fail
    refine hLl.mono ?_
    rintro e w5 ⟨rfl,hb5⟩
    go_wp2_with fail
    refine (hS1 w5).mono ?_
    rintro e wd ⟨rfl,rfl⟩
    go_wp2_with fail
    go_ret
    exact ⟨ret_bool HF.out.symm,hb.trans (hb5.mono hb.size)⟩
end Go.Proofs.YtbkkchhimhlhcaaGreatDoor
/- identityref08: has, minus, normals. -/
namespace Go.Proofs.YtbkkchhimhlhcaaGreatDoor
open Go.RowKit Go.Sort
open Idn (L B Bs drop_L take_L size_L)
end Go.Proofs.YtbkkchhimhlhcaaGreatDoor
/- identityref08: Normal. -/
namespace Go.Proofs.YtbkkchhimhlhcaaGreatDoor
open Go.RowKit Go.Sort
open Idn (L B Bs drop_L take_L size_L)
def named (l:List Idn.Att) (ns:List Bs):List Idn.Att:=ns.map fun n=>⟨n,Idn.lastV l n⟩
theorem rSorted_sm {l:List Idn.Att} (hl:l.length≤32) (h:∀a∈l,a.vals.length≤16∧a.name.length≤1000000000∧∀x∈a.vals,x.length≤256):ASm (Idn.rSorted l)∧ASm5 (Idn.rSorted l)∧Idn.ASm7 (Idn.rSorted l):=by
 have hlen:=rSorted_len l
 have key:∀a∈Idn.rSorted l,a.name.length≤1000000000∧a.vals.length≤1000∧∀x∈a.vals,x.length≤256:=fun a ha=>by
  unfold Idn.rSorted at ha
  obtain ⟨n,hn,rfl⟩:=List.mem_map.1 ha
  refine ⟨?_,?_,fun x hx=>?_⟩
  ·rw[Idn.insAll_mem]at hn
   unfold Idn.lows at hn
   obtain ⟨b,hb,rfl⟩:=List.mem_map.1 hn
   show (Idn.lower b.name).length≤_
   rw[Idn.length_lower]
   exact (h b (List.mem_filter.1 hb).1).2.1
  ·show (Idn.insAll (Idn.valsOf l n)).length≤_
   have h1:=insAll_len (Idn.valsOf l n)
   have h2:=vals_len (l:=l) (c:=16) (fun a ha=>(h a ha).1) n
   have h3:l.length*16≤32*16:=Nat.mul_le_mul_right _ hl
   omega
  ·have hx':x∈Idn.insAll (Idn.valsOf l n):=hx
   rw[Idn.insAll_mem]at hx'
   unfold Idn.valsOf at hx'
   obtain ⟨b,hb,hx'⟩:=List.mem_flatMap.1 hx'
   exact (h b (List.mem_filter.1 hb).1).2.2 x hx'
 refine ⟨⟨by omega,fun a ha=>⟨(key a ha).1,by have:=(key a ha).2.1;omega,fun x hx=>by have:=(key a ha).2.2 x hx;omega⟩⟩,fun a ha=>⟨(key a ha).1,fun x hx=>by have:=(key a ha).2.2 x hx;omega⟩,⟨by omega,fun a ha=>⟨(key a ha).1,by have:=(key a ha).2.1;omega,fun x hx=>by have:=(key a ha).2.2 x hx;omega⟩⟩⟩
end Go.Proofs.YtbkkchhimhlhcaaGreatDoor
/- identityref06: without, with, Add, Replace. -/
namespace Go.Proofs.YtbkkchhimhlhcaaGreatDoor
open Go.RowKit Go.Sort
open Idn (L B Bs drop_L take_L size_L)
theorem filter_take8 {α:Type} (p:α→Bool) (l:List α) (k:Nat) (hk:k<l.length):(l.take (k+1)).filter p=(l.take k).filter p++if p l[k]then [l[k]]else []:=by
 rw[List.take_succ_eq_append_getElem hk,List.filter_append]
 congr 1
 cases h:p l[k]
 ·rw[List.filter_cons_of_neg (by rw[h];decide)];rfl
 ·rw[List.filter_cons_of_pos h];rfl
end Go.Proofs.YtbkkchhimhlhcaaGreatDoor
