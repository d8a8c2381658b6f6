/- Part 13 of the proof that identitylaw12.SearchChecks returns true for every data that it may be called with: proof: the package variables hold what the program lays; nothing else is asked. -/
import Derived.Test.YtbkkchhimhlhcaaGreatDoorSrk01
import Derived.Lib.SlicesCompact
set_option linter.unusedVariables false
set_option linter.unusedSimpArgs false
set_option maxRecDepth 100000
set_option maxHeartbeats 16000000
/- Plain functions: the normal form of attributes. -/
namespace Idn
def addA (ps:List Att) (n:Bs) (vs:List Bs):List Att:=
 match ps.findIdx? (fun a=>decide (a.name=n))with
 |none=>ps++[⟨n,vs⟩]
 |some j=>match ps[j]? with
  |none=>ps
  |some a=>ps.set j ⟨a.name,a.vals++vs⟩
def grp:List Att→List Att→List Att
 |acc,[]=>acc
 |acc,a :: l=>grp (addA acc (lower a.name) a.vals) l
theorem grp_step (l:List Att) (k:Nat) (hk:k<l.length) (acc:List Att):grp acc (l.drop k)=grp (addA acc (lower l[k].name) l[k].vals) (l.drop (k+1)):=by
 rw[List.drop_eq_getElem_cons hk,grp]
theorem addA_none {ps:List Att} {n:Bs} (vs:List Bs) (h:ps.findIdx? (fun a=>decide (a.name=n))=none):addA ps n vs=ps++[⟨n,vs⟩]:=by unfold addA;rw[h]
theorem addA_some {ps:List Att} {n:Bs} (vs:List Bs) {j:Nat} (h:ps.findIdx? (fun a=>decide (a.name=n))=some j) (hj:j<ps.length):addA ps n vs=ps.set j ⟨ps[j].name,ps[j].vals++vs⟩:=by
 unfold addA;rw[h]
 simp[hj]
def ASm7 (l:List Att):Prop:=l.length≤900∧∀a∈l,a.name.length≤1000000000∧a.vals.length≤1100000∧∀x∈a.vals,x.length≤1000000000
def srt (l:List Bs):List Bs:=l.mergeSort fun x y=>decide (x≤y)
def normA (a:Att):Att:=⟨a.name,Go.Lib.compact (srt a.vals)⟩
theorem addA_nd {ps:List Att} {n:Bs} (vs:List Bs) (h:(ps.map (·.name)).Nodup):((addA ps n vs).map (·.name)).Nodup:=by
 unfold addA
 split
 ·rename_i hn
  rw[List.map_append,List.nodup_append]
  refine ⟨h,by simp,fun a ha b hb e=>?_⟩
  simp at hb;subst hb
  obtain ⟨x,hx,rfl⟩:=List.mem_map.1 ha
  have:=List.findIdx?_eq_none_iff.1 hn x hx
  simp at this
  exact this e
 ·split
  ·exact h
  ·rename_i j _ _ b hb
   rw[List.map_set]
   obtain ⟨hl,he⟩:=List.getElem?_eq_some_iff.1 hb
   have e:(ps.map (·.name)).set j b.name=ps.map (·.name):=by
    have hl':j<(ps.map (·.name)).length:=by simpa using hl
    have:(ps.map (·.name)).set j (ps.map (·.name))[j]=ps.map (·.name):=List.set_getElem_self hl'
    simpa[he]using this
   dsimp only
   rw[e];exact h
theorem grp_nd:∀(l acc:List Att),(acc.map (·.name)).Nodup→((grp acc l).map (·.name)).Nodup
 |[],_,h=>h
 |b :: l,acc,h=>grp_nd l (addA acc (lower b.name) b.vals) (addA_nd _ h)
theorem norm_names (l:List Att):(l.map normA).map (·.name)=l.map (·.name):=by rw[List.map_map];rfl
theorem addA_le {ps:List Att} {n:Bs} {vs:List Bs} {m k:Nat} (h:∀a∈ps,a.vals.length≤m) (hv:vs.length≤k):∀a∈addA ps n vs,a.vals.length≤m+k:=by
 unfold addA
 split
 ·intro a ha
  rcases List.mem_append.1 ha with ha|ha
  ·have:=h a ha;omega
  ·simp at ha;subst ha;dsimp only;omega
 ·split
  ·intro a ha;have:=h a ha;omega
  ·rename_i j b hb
   intro a ha
   rcases List.mem_or_eq_of_mem_set ha with ha|rfl
   ·have:=h a ha;omega
   ·have:=h b (List.mem_of_getElem? hb)
    simp only[List.length_append];omega
theorem grp_le (k:Nat):∀(l acc:List Att) (m:Nat),(∀a∈acc,a.vals.length≤m)→(∀a∈l,a.vals.length≤k)→∀a∈grp acc l,a.vals.length≤m+l.length*k
 |[],acc,m,h,_=>by simpa[grp]using h
 |b :: l,acc,m,h,hl=>by
  have:=grp_le k l (addA acc (lower b.name) b.vals) (m+k) (addA_le h (hl b List.mem_cons_self)) fun a ha=>hl a (List.mem_cons_of_mem _ ha)
  intro a ha
  have:=this a ha
  rw[List.length_cons,Nat.succ_mul];omega
end Idn
/- Plain law: compact after sort is insertion one by one. -/
namespace Idn
open Go
def insS (n:Bs):List Bs→List Bs
 |[]=>[n]
 |x :: l=>if x<n then x :: insS n l else if x=n then x :: l else n :: x :: l
theorem ins_mem (n x:Bs):∀l,x∈insS n l↔x=n∨x∈l
 |[]=>by simp[insS]
 |y :: l=>by
  have ih:=ins_mem n x l
  unfold insS
  split
  ·simp only[List.mem_cons,ih]
   constructor
   ·rintro (h|h|h)
    ·exact .inr (.inl h)
    ·exact .inl h
    ·exact .inr (.inr h)
   ·rintro (h|h|h)
    ·exact .inr (.inl h)
    ·exact .inl h
    ·exact .inr (.inr h)
  ·split
   ·rename_i h1 h2
    subst h2
    simp only[List.mem_cons]
    constructor
    ·exact .inr
    ·rintro (h|h)
     ·exact .inl h
     ·exact h
   ·simp[List.mem_cons]
theorem lt_of (a b:Bs) (h:¬a<b) (h2:a≠b):b<a:=by
 rw[List.not_lt]at h
 refine Decidable.byContradiction fun hn=>?_
 rw[List.not_lt]at hn
 exact h2 (List.le_antisymm hn h)
theorem ins_lt (n:Bs):∀l:List Bs,l.Pairwise (· < ·)→(insS n l).Pairwise (· < ·)
 |[],_=>by simp[insS]
 |y :: l,h=>by
  obtain ⟨h1,h2⟩:=List.pairwise_cons.1 h
  unfold insS
  split
  ·rename_i hy
   refine List.pairwise_cons.2 ⟨fun x hx=>?_,ins_lt n l h2⟩
   rcases (ins_mem n x l).1 hx with rfl|hx
   ·exact hy
   ·exact h1 x hx
  ·split
   ·exact h
   ·rename_i hy hne
    have hny:=lt_of _ _ hy hne
    refine List.pairwise_cons.2 ⟨fun x hx=>?_,h⟩
    rcases List.mem_cons.1 hx with rfl|hx
    ·exact hny
    ·exact List.lt_trans hny (h1 x hx)
theorem uniq:∀(l m:List Bs),l.Pairwise (· < ·)→m.Pairwise (· < ·)→(∀x,x∈l↔x∈m)→l=m
 |[],[],_,_,_=>rfl
 |[],y :: m,_,_,h=>by have:=(h y).2 List.mem_cons_self;simp at this
 |y :: l,[],_,_,h=>by have:=(h y).1 List.mem_cons_self;simp at this
 |x :: l,y :: m,hl,hm,h=>by
  obtain ⟨l1,l2⟩:=List.pairwise_cons.1 hl
  obtain ⟨m1,m2⟩:=List.pairwise_cons.1 hm
  have e:x=y:=by
   rcases List.mem_cons.1 ((h x).1 List.mem_cons_self)with e|hx
   ·exact e
   ·rcases List.mem_cons.1 ((h y).2 List.mem_cons_self)with e|hy
    ·exact e.symm
    ·exact absurd (List.lt_trans (m1 x hx) (l1 y hy)) (List.lt_irrefl _)
  subst e
  congr 1
  refine uniq l m l2 m2 fun z=>?_
  constructor
  ·intro hz
   rcases List.mem_cons.1 ((h z).1 (List.mem_cons_of_mem _ hz))with rfl|hz'
   ·exact absurd (l1 z hz) (List.lt_irrefl _)
   ·exact hz'
  ·intro hz
   rcases List.mem_cons.1 ((h z).2 (List.mem_cons_of_mem _ hz))with rfl|hz'
   ·exact absurd (m1 z hz) (List.lt_irrefl _)
   ·exact hz'
def insAll (l:List Bs):List Bs:=l.foldl (fun acc n=>insS n acc) []
theorem insAll_aux:∀(l acc:List Bs),acc.Pairwise (· < ·)→(l.foldl (fun acc n=>insS n acc) acc).Pairwise (· < ·)∧∀x,x∈l.foldl (fun acc n=>insS n acc) acc↔x∈l∨x∈acc
 |[],acc,h=>⟨h,fun x=>by simp⟩
 |n :: l,acc,h=>by
  obtain ⟨h1,h2⟩:=insAll_aux l (insS n acc) (ins_lt n acc h)
  refine ⟨h1,fun x=>?_⟩
  rw[List.foldl_cons,h2,ins_mem,List.mem_cons]
  constructor
  ·rintro (h|h|h)
   ·exact .inl (.inr h)
   ·exact .inl (.inl h)
   ·exact .inr h
  ·rintro ((h|h)|h)
   ·exact .inr (.inl h)
   ·exact .inl h
   ·exact .inr (.inr h)
theorem compact_mem' {x:Bs} {l:List Bs} (h:x∈Lib.compact l):x∈l:=by
 unfold Lib.compact Lib.compactUpTo at h
 obtain ⟨i,hi,rfl⟩:=List.mem_map.1 h
 have hil:=(List.mem_filter.1 hi).1
 rw[List.mem_range]at hil
 simp[hil]
theorem mem_compact' {x:Bs} {l:List Bs} (h:x∈l):x∈Lib.compact l:=by
 obtain ⟨i,hi,rfl⟩:=List.getElem_of_mem h
 induction i with
 |zero=>
  unfold Lib.compact Lib.compactUpTo
  refine List.mem_map.2 ⟨0,List.mem_filter.2 ⟨List.mem_range.2 (by simpa using hi),Lib.keeps_lt_one _ 0 (by omega)⟩,by simp[hi]⟩
 |succ i ih=>
  by_cases e:l[i+1]=l[i]
  ·rw[e];exact ih (by omega) (List.getElem_mem _)
  ·unfold Lib.compact Lib.compactUpTo
   refine List.mem_map.2 ⟨i+1,List.mem_filter.2 ⟨List.mem_range.2 (by simpa using hi),Lib.keeps_pos ?_⟩,by simp[hi]⟩
   have h1:i<l.length:=by omega
   simp[hi,h1,e]
theorem compact_lt {l:List Bs} (h:l.Pairwise (·≤·)):(Lib.compact l).Pairwise (· < ·):=by
 unfold Lib.compact Lib.compactUpTo
 rw[List.pairwise_map]
 refine List.Pairwise.imp_of_mem ?_ (List.Pairwise.filter _ List.pairwise_lt_range)
 intro a b ha hb hab
 obtain ⟨ha1,_⟩:=List.mem_filter.1 ha
 obtain ⟨hb1,hb2⟩:=List.mem_filter.1 hb
 rw[List.mem_range]at ha1 hb1
 replace ha1:a<l.length:=by simpa using ha1
 replace hb1:b<l.length:=by simpa using hb1
 have hp:=List.pairwise_iff_getElem.1 h
 have hne:l[b]≠l[b-1]:=fun e=>by
  have:=Lib.keeps_neg (d:=l.toArray) (m:=b) (by omega) (by
   have h1:b-1<l.length:=by omega
   simp[hb1,h1,e])
  rw[this]at hb2;cases hb2
 have h1:l[a]≤l[b-1]:=by
  by_cases e:a=b-1
  ·subst e;exact List.le_refl _
  ·exact hp a (b-1) ha1 (by omega) (by omega)
 have h2:l[b-1]<l[b]:=by
  have:=hp (b-1) b (by omega) hb1 (by omega)
  exact lt_of _ _ (by rw[List.not_lt];exact this) hne
 have h3:l[a]<l[b]:=by
  refine Decidable.byContradiction fun hn=>?_
  rw[List.not_lt]at hn
  have:=List.le_trans hn h1
  exact absurd h2 (by rw[List.not_lt];exact this)
 simpa[ha1,hb1]using h3
theorem law (l:List Bs):Lib.compact (l.mergeSort fun x y=>decide (x≤y))=insAll l:=by
 have hs:(l.mergeSort fun x y=>decide (x≤y)).Pairwise (·≤·):=by
  have:=List.pairwise_mergeSort (le:=fun x y:Bs=>decide (x≤y)) (fun a b c h1 h2=>by simp at *;exact List.le_trans h1 h2) (fun a b=>by simp;exact List.le_total a b) l
  exact this.imp fun h=>by simpa using h
 obtain ⟨h1,h2⟩:=insAll_aux l [] List.Pairwise.nil
 refine uniq _ _ (compact_lt hs) h1 fun x=>?_
 unfold insAll
 rw[h2]
 constructor
 ·intro h
  exact .inl ((List.mergeSort_perm _ _).mem_iff.1 (compact_mem' h))
 ·rintro (h|h)
  ·exact mem_compact' ((List.mergeSort_perm _ _).mem_iff.2 h)
  ·simp at h
end Idn
/- Plain law: attributes: the normal form by the reference is the layer's. -/
namespace Idn
open Go
def tot (acc:List Att) (n:Bs):List Bs:=(acc.filter fun a=>decide (a.name=n)).flatMap (·.vals)
def valsOf (l:List Att) (n:Bs):List Bs:=(l.filter fun a=>decide (lower a.name=n)).flatMap (·.vals)
def lows (l:List Att):List Bs:=(l.filter fun a=>decide (0<a.vals.length)).map fun a=>lower a.name
def rOne (l:List Att) (n:Bs):Att:=⟨n,insAll (valsOf l n)⟩
def rSorted (l:List Att):List Att:=(insAll (lows l)).map (rOne l)
def addR (n:Bs) (vs:List Bs):List Att→List Att
 |[]=>[⟨n,vs⟩]
 |a :: l=>if a.name=n then ⟨a.name,a.vals++vs⟩ :: l else a :: addR n vs l
theorem addA_eq (n:Bs) (vs:List Bs):∀ps,addA ps n vs=addR n vs ps
 |[]=>rfl
 |a :: l=>by
  have ih:=addA_eq n vs l
  unfold addA at ih⊢
  rw[List.findIdx?_cons]
  by_cases h:a.name=n
  ·simp[h,addR]
  ·simp only[h,decide_false,Bool.false_eq_true,if_false,addR]
   cases hx:l.findIdx? (fun a=>decide (a.name=n))with
   |none=>
    rw[hx]at ih
    replace ih:l++[⟨n,vs⟩]=addR n vs l:=ih
    simp only[Option.map_none,List.cons_append]
    rw[ih]
   |some j=>
    rw[hx]at ih
    have hj:j<l.length:=(List.findIdx?_eq_some_iff_getElem.1 hx).1
    simp only[List.getElem?_eq_getElem hj]at ih
    simp only[Option.map_some,List.getElem?_cons_succ,List.getElem?_eq_getElem hj,List.set_cons_succ]
    rw[ih]
theorem addR_names (n:Bs) (vs:List Bs) (m:Bs):∀ps:List Att,m∈(addR n vs ps).map (·.name)↔m∈ps.map (·.name)∨m=n
 |[]=>by simp[addR]
 |a :: l=>by
  have ih:=addR_names n vs m l
  unfold addR
  by_cases h:a.name=n
  ·rw[if_pos h]
   simp only[List.map_cons,List.mem_cons]
   constructor
   ·exact .inl
   ·rintro (h1|h1)
    ·exact h1
    ·exact .inl (h1.trans h.symm)
  ·rw[if_neg h]
   simp only[List.map_cons,List.mem_cons,ih]
   constructor
   ·rintro (h1|h1|h1)
    ·exact .inl (.inl h1)
    ·exact .inl (.inr h1)
    ·exact .inr h1
   ·rintro ((h1|h1)|h1)
    ·exact .inl h1
    ·exact .inr (.inl h1)
    ·exact .inr (.inr h1)
theorem tot_none (m:Bs):∀ps:List Att,m∉ps.map (·.name)→tot ps m=[]
 |[],_=>rfl
 |a :: l,h=>by
  simp only[List.map_cons,List.mem_cons,not_or]at h
  have ih:=tot_none m l h.2
  unfold tot at ih⊢
  rw[List.filter_cons_of_neg (by simpa using fun e=>h.1 e.symm)]
  exact ih
theorem tot_cons (m:Bs) (a:Att) (l:List Att):tot (a :: l) m=(if a.name=m then a.vals else [])++tot l m:=by
 unfold tot
 by_cases h:a.name=m
 ·rw[List.filter_cons_of_pos (by simpa using h),if_pos h];rfl
 ·rw[List.filter_cons_of_neg (by simpa using h),if_neg h];rfl
theorem addR_tot (n:Bs) (vs:List Bs) (m:Bs):∀ps:List Att,(ps.map (·.name)).Nodup→tot (addR n vs ps) m=tot ps m++(if n=m then vs else [])
 |[],_=>by
  show tot [⟨n,vs⟩] m=tot [] m++_
  rw[tot_cons]
  simp[tot]
 |a :: l,h=>by
  rw[List.map_cons,List.nodup_cons]at h
  unfold addR
  by_cases e:a.name=n
  ·rw[if_pos e,tot_cons,tot_cons]
   by_cases e2:n=m
   ·have h0:tot l m=[]:=tot_none m l (by rw[←e2,←e];exact h.1)
    rw[h0];simp[e,e2]
   ·simp[e,e2]
  ·rw[if_neg e,tot_cons,tot_cons,addR_tot n vs m l h.2,List.append_assoc]
theorem tot_self:∀ps:List Att,(ps.map (·.name)).Nodup→∀a∈ps,tot ps a.name=a.vals
 |b :: l,h,a,ha=>by
  rw[List.map_cons,List.nodup_cons]at h
  rw[tot_cons]
  rcases List.mem_cons.1 ha with rfl|ha
  ·rw[if_pos rfl,tot_none _ _ h.1,List.append_nil]
  ·have hne:b.name≠a.name:=fun e=>h.1 (e▸List.mem_map_of_mem ha)
   rw[if_neg hne,tot_self l h.2 a ha];rfl
theorem grp_tot (m:Bs):∀(l acc:List Att),(acc.map (·.name)).Nodup→tot (grp acc l) m=tot acc m++valsOf l m
 |[],acc,_=>by simp[grp,valsOf]
 |a :: l,acc,h=>by
  rw[grp,grp_tot m l _ (addA_nd _ h),addA_eq,addR_tot _ _ _ _ h,List.append_assoc]
  congr 1
  unfold valsOf
  by_cases e:lower a.name=m
  ·rw[if_pos e,List.filter_cons_of_pos (by simpa using e)];rfl
  ·rw[if_neg e,List.filter_cons_of_neg (by simpa using e)];rfl
theorem grp_names (m:Bs):∀(l acc:List Att),m∈(grp acc l).map (·.name)↔m∈acc.map (·.name)∨m∈l.map fun a=>lower a.name
 |[],acc=>by simp[grp]
 |a :: l,acc=>by
  rw[grp,grp_names m l,addA_eq,addR_names,List.map_cons,List.mem_cons,or_assoc]
theorem lows_all {l:List Att} (h:∀a∈l,a.vals.length≠0):lows l=l.map fun a=>lower a.name:=by
 unfold lows
 rw[List.filter_eq_self.2]
 intro a ha
 have:=h a ha
 simp;omega
theorem insAll_lt (l:List Bs):(insAll l).Pairwise (· < ·):=(insAll_aux l [] List.Pairwise.nil).1
theorem insAll_mem (l:List Bs) (x:Bs):x∈insAll l↔x∈l:=by
 have:=(insAll_aux l [] List.Pairwise.nil).2 x
 unfold insAll
 simpa using this
end Idn
