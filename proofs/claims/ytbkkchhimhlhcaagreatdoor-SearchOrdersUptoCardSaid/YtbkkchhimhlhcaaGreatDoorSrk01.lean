/- Part 1 of the proof that identitylaw12.SearchChecks returns true for every data that it may be called with: proof: the package variables hold what the program lays; nothing else is asked. -/
set_option linter.unusedVariables false
set_option linter.unusedSimpArgs false
set_option maxRecDepth 100000
set_option maxHeartbeats 16000000
/- Plain functions on bytes: what the layer fold computes. No program in sight. -/
namespace Idn
abbrev Bs:=List UInt8
def up (c:UInt8):Bool:=decide (65≤c.toNat)&&decide (c.toNat≤90)
def letter (c:UInt8):Bool:=up c||(decide (97≤c.toNat)&&decide (c.toNat≤122))
def digit (c:UInt8):Bool:=decide (48≤c.toNat)&&decide (c.toNat≤57)
def low (c:UInt8):UInt8:=if up c then c+32 else c
def lower (l:Bs):Bs:=l.map low
def trimL (l:Bs):Bs:=l.dropWhile (·==32)
def trim (l:Bs):Bs:=(trimL (trimL l).reverse).reverse
def sq:UInt8→Bs→Bs
 |_,[]=>[]
 |p,c :: l=>if c==32&&p==32 then sq c l else c :: sq c l
def fold (l:Bs):Bs:=sq 0 (lower (trim l))
def printable (c:UInt8):Bool:=decide (32≤c.toNat)&&decide (c.toNat≤126)
def clean (l:Bs):Bool:=l.all printable&&(!l.isEmpty&&(decide (l.length≤256)&&trim l==l))
def nameC (c:UInt8):Bool:=letter c||(digit c||c==45)
def made (l:Bs):Bool:=l.all nameC&&(!l.isEmpty&&decide (l.length≤64))
def name (l:Bs):Bool:=made l&&letter (l.headD 0)
def L (s:ByteArray):Bs:=s.data.toList
def B (l:Bs):ByteArray:=⟨l.toArray⟩
theorem L_B (l:Bs):L (B l)=l:=rfl
theorem B_L (s:ByteArray):B (L s)=s:=rfl
theorem size_L (s:ByteArray):s.size=(L s).length:=rfl
theorem size_B (l:Bs):(B l).size=l.length:=rfl
theorem L_inj {s t:ByteArray} (h:L s=L t):s=t:=by rw[←B_L s,h,B_L]
theorem get_L (s:ByteArray) (i:Nat) (h:i<s.size):(L s)[i]'h=s[i]:=rfl
theorem drop_L (s:ByteArray) (i:Nat) (h:i<s.size):(L s).drop i=s[i] :: (L s).drop (i+1):=by
 exact List.drop_eq_getElem_cons (l:=L s) h
theorem take_L (s:ByteArray) (i:Nat) (h:i<s.size):(L s).take (i+1)=(L s).take i++[s[i]]:=by
 exact List.take_succ_eq_append_getElem (l:=L s) h
theorem length_lower (l:Bs):(lower l).length=l.length:=by simp[lower]
theorem length_trimL (l:Bs):(trimL l).length≤l.length:=by
 unfold trimL;exact (List.dropWhile_sublist _).length_le
theorem length_trim (l:Bs):(trim l).length≤l.length:=by
 have h1:=length_trimL (trimL l).reverse
 have h2:=length_trimL l
 simp only[trim,List.length_reverse]at *
 omega
theorem length_sq (p:UInt8) (l:Bs):(sq p l).length≤l.length:=by
 induction l generalizing p with
 |nil=>simp[sq]
 |cons c l ih=>
  unfold sq
  have:=ih c
  split
  ·simp;omega
  ·simp;omega
theorem length_fold (l:Bs):(fold l).length≤l.length:=by
 have h1:=length_sq 0 (lower (trim l))
 have h2:=length_lower (trim l)
 have h3:=length_trim l
 unfold fold;omega
theorem trimL_head (l:Bs) (x:UInt8) (r:Bs) (h:trimL l=x :: r):x≠32:=by
 unfold trimL at h
 have:=List.head?_dropWhile_not (·==(32:UInt8)) l
 rw[h]at this
 simpa using this
theorem trimL_idem (l:Bs):trimL (trimL l)=trimL l:=by
 unfold trimL
 cases h:l.dropWhile (·==32)with
 |nil=>rfl
 |cons x r=>
  have:=trimL_head l x r h
  simp[this]
theorem trimL_of_head (x:UInt8) (r:Bs) (h:x≠32):trimL (x :: r)=x :: r:=by simp[trimL,h]
theorem trimL_snoc (l:Bs) (x:UInt8) (h:x≠32):trimL (l++[x])=trimL l++[x]:=by
 induction l with
 |nil=>simp[trimL,h]
 |cons y l ih=>
  by_cases hy:y=32
  ·subst hy;simpa[trimL]using ih
  ·rw[trimL_of_head y l hy];show trimL (y :: (l++[x]))=_;rw[trimL_of_head _ _ hy];rfl
theorem trim_trimL (l:Bs):trim l=trimL (trim l):=by
 unfold trim
 have h0:trimL (trimL l)=trimL l:=trimL_idem l
 generalize trimL l=m at *
 -- m starts with no blank
 cases m with
 |nil=>simp[trimL]
 |cons x r=>
  have hx:x≠32:=by intro e;subst e;rw[trimL]at h0;simp at h0;have:=congrArg List.length h0;have h2:=length_trimL r;simp[trimL]at this h2;omega
  rw[List.reverse_cons,trimL_snoc _ _ hx,List.reverse_append]
  simp[trimL,hx]
theorem low_ne32 (x:UInt8) (h:x≠32):(low x==32)=false:=by
 unfold low
 split
 ·rename_i hu
  simp only[up,Bool.and_eq_true,decide_eq_true_eq]at hu
  rw[beq_eq_false_iff_ne]
  intro e
  have:=congrArg UInt8.toNat e
  rw[UInt8.toNat_add]at this
  simp at this
  omega
 ·simpa using h
theorem sq_keep (p c:UInt8) (l:Bs) (h:¬(c=32∧p=32)):sq p (c :: l)=c :: sq c l:=by
 rw[sq,if_neg (by simpa using h)]
end Idn
/- Plain functions: what the layer name computes. -/
namespace Idn
def special (c:UInt8):Bool:=c==44||(c==61||(c==43||c==92))
def idx (c:UInt8):Bs→Option Nat
 |[]=>none
 |[x]=>if x==c then some 0 else none
 |x :: y :: l=>if x==c then some 0 else if x==92 then (idx c l).map (·+2)else (idx c (y :: l)).map (·+1)
def idxI (c:UInt8) (l:Bs):Int:=match idx c l with|none=>-1|some k=>k
def onHead (p:Bs):List Bs→List Bs
 |[]=>[p]
 |q :: l=>(p++q) :: l
def pcs:Bs→List Bs
 |[]=>[[]]
 |[x]=>if x==44 then [[],[]]else [[x]]
 |x :: y :: l=>if x==44 then [] :: pcs (y :: l)else if x==92 then onHead [x,y] (pcs l)else onHead [x] (pcs (y :: l))
def val:Bs→Option Bs
 |[]=>some []
 |[x]=>if special x then none else some [x]
 |x :: y :: l=>if x==92 then (if special y then (val l).map (y :: ·)else none)else if special x then none else (val (y :: l)).map (x :: ·)
abbrev Pr:=Bs×Bs
def component (s:Bs):Pr×Int:=
 match idx 61 s with
 |none=>(([],[]),4)
 |some i=>
  match val (trim (s.drop (i+1)))with
  |none=>(([],[]),4)
  |some v=>if !name (trim (s.take i))then (([],[]),5)else if !clean v then (([],[]),8)else ((trim (s.take i),v),0)
def comps:List Bs→List Pr×Int
 |[]=>([],0)
 |x :: l=>if (component x).2 !=0 then ([],(component x).2)else if (comps l).2 !=0 then ([],(comps l).2)else ((component x).1 :: (comps l).1,0)
def parse (s:Bs):List Pr×Int:=
 if s.isEmpty then ([],0)else if (comps (pcs s)).2 !=0 then ([],(comps (pcs s)).2)else if (comps (pcs s)).1.length>8 then ([],3)else ((comps (pcs s)).1,0)
def check1:List Pr→Int
 |[]=>0
 |p :: l=>if !name p.1 then 5 else if !clean p.2 then 8 else check1 l
def check (l:List Pr):Int:=if check1 l !=0 then check1 l else if l.length>8 then 3 else 0
def escV (l:Bs):Bs:=l.flatMap fun c=>if special c then [92,c]else [c]
def fmt1 (p:Pr):Bs:=lower p.1++61 :: escV (fold p.2)
def fmtR:List Pr→Bs
 |[]=>[]
 |p :: l=>44 :: (fmt1 p++fmtR l)
def fmtJ:List Pr→Bs
 |[]=>[]
 |p :: l=>fmt1 p++fmtR l
def format (l:List Pr):Bs×Int:=if check l !=0 then ([],check l)else (fmtJ l,0)
def cleanN (s:Bs):Bs×Int:=if (parse s).2 !=0 then ([],(parse s).2)else format (parse s).1
def normal (s:Bs):List Pr×Bool:=
 if (parse s).2 !=0 then ([],false)else ((parse s).1,(format (parse s).1).2==0&&(format (parse s).1).1==s)
theorem idx_lt (c:UInt8) (l:Bs) (k:Nat) (h:idx c l=some k):k<l.length:=by
 induction l using idx.induct (c:=c) generalizing k with
 |case1=>simp[idx]at h
 |case2 x hx=>simp[idx,hx]at h;subst h;simp
 |case3 x hx=>simp[idx,hx]at h
 |case4 x y l hx=>simp[idx,hx]at h;subst h;simp
 |case5 x y l hx h92 ih=>
  rw[idx,if_neg hx,if_pos h92]at h
  obtain ⟨j,hj,rfl⟩:=Option.map_eq_some_iff.1 h
  have:=ih j hj;simp;omega
 |case6 x y l hx h92 ih=>
  rw[idx,if_neg hx,if_neg h92]at h
  obtain ⟨j,hj,rfl⟩:=Option.map_eq_some_iff.1 h
  have:=ih j hj;simp at this⊢;omega
theorem pcs_idx (l:Bs):pcs l=match idx 44 l with|none=>[l]|some i=>l.take i :: pcs (l.drop (i+1)):=by
 induction l using pcs.induct with
 |case1=>rfl
 |case2 x hx=>simp[pcs,idx,hx]
 |case3 x hx=>simp[pcs,idx,hx]
 |case4 x y l hx=>simp[pcs,idx,hx]
 |case5 x y l hx h92 ih=>
  rw[pcs,if_neg hx,if_pos h92,ih,idx,if_neg hx,if_pos h92]
  cases idx 44 l<;>simp[onHead]
 |case6 x y l hx h92 ih=>
  rw[pcs,if_neg hx,if_neg h92,ih,idx,if_neg hx,if_neg h92]
  cases idx 44 (y :: l)<;>simp[onHead]
end Idn
/- Plain functions: schemas, and their first error. -/
namespace Idn
structure AT where
 name:Bs
 syn:Int
 single:Bool
structure Cl where
 name:Bs
 super:Bs
 must:List Bs
 may:List Bs
structure Sch where
 types:List AT
 classes:List Cl
def ixT (l:List AT) (n:Bs):Option Nat:=l.findIdx? fun t=>decide (lower t.name=lower n)
def ixC (l:List Cl) (n:Bs):Option Nat:=l.findIdx? fun t=>decide (lower t.name=lower n)
def tyErr (prev:List AT) (t:AT):Int:=
 if !name t.name then 5 else if (ixT prev t.name).isSome then 7 else if decide (t.syn<1)||decide (5<t.syn)then 8 else 0
def tysErr:List AT→List AT→Int
 |_,[]=>0
 |prev,t :: l=>if tyErr prev t !=0 then tyErr prev t else tysErr (prev++[t]) l
def lacks (types:List AT) (l:List Bs):Bool:=l.any fun n=>(ixT types n).isNone
def clErr (types:List AT) (prev:List Cl) (c:Cl):Int:=
 if !name c.name then 5 else if (ixC prev c.name).isSome then 7 else if !c.super.isEmpty&&(ixC prev c.super).isNone then 6
 else if decide (64<c.must.length)||decide (64<c.may.length)then 3 else if lacks types c.must||lacks types c.may then 6 else 0
def clsErr (types:List AT):List Cl→List Cl→Int
 |_,[]=>0
 |prev,c :: l=>if clErr types prev c !=0 then clErr types prev c else clsErr types (prev++[c]) l
def mainN:Bs:=[99,108,97,115,115]
def mainErr (types:List AT):Int:=
 match ixT types mainN with
 |none=>6
 |some k=>match types[k]? with
  |none=>0
  |some t=>if t.syn !=1 then 8 else 0
def sCheck (s:Sch):Int:=
 if decide (64<s.types.length)||decide (32<s.classes.length)then 3
 else if tysErr [] s.types !=0 then tysErr [] s.types
 else if clsErr s.types [] s.classes !=0 then clsErr s.types [] s.classes
 else mainErr s.types
theorem tys_step (l : List AT) (k : Nat) (hk : k < l.length) (e : Int) (h : e = tysErr (l.take k) (l.drop k)) :
  (tyErr (l.take k) l[k]≠0→e=tyErr (l.take k) l[k])∧(tyErr (l.take k) l[k]=0→e=tysErr (l.take (k+1)) (l.drop (k+1))):=by
 rw[List.drop_eq_getElem_cons hk,tysErr]at h
 refine ⟨fun hn=>?_,fun hn=>?_⟩
 ·rw[h,if_pos (by simpa using hn)]
 ·rw[h,if_neg (by simpa using hn),List.take_succ_eq_append_getElem hk]
theorem cls_step (ts : List AT) (l : List Cl) (k : Nat) (hk : k < l.length) (e : Int) (h : e = clsErr ts (l.take k) (l.drop k)) :
  (clErr ts (l.take k) l[k]≠0→e=clErr ts (l.take k) l[k])∧(clErr ts (l.take k) l[k]=0→e=clsErr ts (l.take (k+1)) (l.drop (k+1))):=by
 rw[List.drop_eq_getElem_cons hk,clsErr]at h
 refine ⟨fun hn=>?_,fun hn=>?_⟩
 ·rw[h,if_pos (by simpa using hn)]
 ·rw[h,if_neg (by simpa using hn),List.take_succ_eq_append_getElem hk]
theorem ixT_lt (l:List AT) (n:Bs) (k:Nat) (h:ixT l n=some k):k<l.length:=by
 unfold ixT at h
 exact (List.findIdx?_eq_some_iff_getElem.1 h).1
end Idn
/- Plain functions: the text form of a schema. -/
namespace Idn
def joinR (sep:Bs):List Bs→Bs
 |[]=>[]
 |x :: l=>sep++(x++joinR sep l)
def joinL (sep:Bs):List Bs→Bs
 |[]=>[]
 |x :: l=>x++joinR sep l
end Idn
/- Plain functions: lineages. -/
namespace Idn
end Idn
/- Plain functions: attributes. -/
namespace Idn
structure Att where
 name:Bs
 vals:List Bs
def valsErr:List Bs→List Bs→Int
 |_,[]=>0
 |p,v :: l=>if !clean v then 4 else if p.contains v then 7 else valsErr (p++[v]) l
def ixA (l:List Att) (n:Bs):Option Nat:=l.findIdx? fun t=>decide (lower t.name=lower n)
def attErr (prev:List Att) (a:Att):Int:=
 if !name a.name then 5 else if (ixA prev a.name).isSome then 7 else if a.vals.length=0 then 6 else if 16<a.vals.length then 3 else valsErr [] a.vals
def attsErr:List Att→List Att→Int
 |_,[]=>0
 |prev,t :: l=>if attErr prev t !=0 then attErr prev t else attsErr (prev++[t]) l
def aCheck (l:List Att):Int:=if 32<l.length then 3 else attsErr [] l
theorem vals_step (l : List Bs) (k : Nat) (hk : k < l.length) (e : Int) (h : e = valsErr (l.take k) (l.drop k)) :
  (clean l[k]=false→e=4)∧(clean l[k]=true→(l.take k).contains l[k]=true→e=7)∧(clean l[k]=true→(l.take k).contains l[k]=false→e=valsErr (l.take (k+1)) (l.drop (k+1))):=by
 rw[List.drop_eq_getElem_cons hk,valsErr]at h
 refine ⟨fun hn=>?_,fun hn hc=>?_,fun hn hc=>?_⟩
 ·rw[h,hn];rfl
 ·rw[h,hn,hc];rfl
 ·rw[h,hn,hc,List.take_succ_eq_append_getElem hk];rfl
theorem atts_step (l : List Att) (k : Nat) (hk : k < l.length) (e : Int) (h : e = attsErr (l.take k) (l.drop k)) :
  (attErr (l.take k) l[k]≠0→e=attErr (l.take k) l[k])∧(attErr (l.take k) l[k]=0→e=attsErr (l.take (k+1)) (l.drop (k+1))):=by
 rw[List.drop_eq_getElem_cons hk,attsErr]at h
 refine ⟨fun hn=>?_,fun hn=>?_⟩
 ·rw[h,if_pos (by simpa using hn)]
 ·rw[h,if_neg (by simpa using hn),List.take_succ_eq_append_getElem hk]
end Idn
/- Plain law: what the reference of names computes is what the layer computes. -/
namespace Idn
def val5:Bs→Option Bs
 |[]=>some []
 |[x]=>if x==92 then none else if x==61||x==43 then none else some [x]
 |x :: y :: l=>if x==92 then (if special y then (val5 l).map (y :: ·)else none)else if x==61||x==43 then none else (val5 (y :: l)).map (x :: ·)
theorem idx_two {c x y:UInt8} {l:Bs}:idx c (x :: y :: l)=if x==c then some 0 else if x==92 then (idx c l).map (·+2)else (idx c (y :: l)).map (·+1):=rfl
theorem special_of {x:UInt8} (h1:¬x=44) (h2:¬x=92):special x=(x==61||x==43):=by
 have e1:(x==44)=false:=by simpa using h1
 have e2:(x==92)=false:=by simpa using h2
 simp[special,e1,e2]
theorem val5_eq (l:Bs):idx 44 l=none→val5 l=val l:=by
 induction l using val5.induct with
 |case1=>intro _;rfl
 |case2 x hx=>
  intro _
  have hx':x=92:=by simpa using hx
  subst hx';rfl
 |case3 x hx hs=>
  intro h
  have h1:¬x=44:=by intro e;subst e;simp[idx]at h
  have h2:¬x=92:=by simpa using hx
  rw[val5,if_neg hx,if_pos hs,val,special_of h1 h2,if_pos hs]
 |case4 x hx hs=>
  intro h
  have h1:¬x=44:=by intro e;subst e;simp[idx]at h
  have h2:¬x=92:=by simpa using hx
  rw[val5,if_neg hx,if_neg hs,val,special_of h1 h2,if_neg hs]
 |case5 x y l hx hy ih=>
  intro h
  have hx':x=92:=by simpa using hx
  rw[idx_two]at h
  subst hx'
  simp at h
  rw[val5,if_pos hx,if_pos hy,val,if_pos hx,if_pos hy,ih h]
 |case6 x y l hx hy=>
  intro h
  rw[val5,if_pos hx,if_neg hy,val,if_pos hx,if_neg hy]
 |case7 x y l hx hs=>
  intro h
  have h1:¬x=44:=by intro e;subst e;simp[idx_two]at h
  have h2:¬x=92:=by simpa using hx
  rw[val5,if_neg hx,if_pos hs,val,if_neg hx,special_of h1 h2,if_pos hs]
 |case8 x y l hx hs ih=>
  intro h
  have h1:¬x=44:=by intro e;subst e;simp[idx_two]at h
  have h2:¬x=92:=by simpa using hx
  rw[idx_two,if_neg (by simpa using h1),if_neg hx]at h
  have h3:idx 44 (y :: l)=none:=by simpa using h
  rw[val5,if_neg hx,if_neg hs,val,if_neg hx,special_of h1 h2,if_neg hs,ih h3]
theorem idx_drop (l:Bs):∀i,idx 61 l=some i→idx 44 l=none→idx 44 (l.drop (i+1))=none:=by
 induction l using idx.induct (c:=61)with
 |case1=>intro i h;simp[idx]at h
 |case2 x hx=>intro i h _;simp[idx,hx]at h;subst h;rfl
 |case3 x hx=>intro i h;simp[idx,hx]at h
 |case4 x y l hx=>
  intro i h h2
  rw[idx_two,if_pos hx]at h
  injection h with h;subst h
  have e:x=61:=by simpa using hx
  subst e
  rw[idx_two]at h2
  simpa using h2
 |case5 x y l hx h92 ih=>
  intro i h h2
  rw[idx_two,if_neg hx,if_pos h92]at h
  obtain ⟨j,hj,rfl⟩:=Option.map_eq_some_iff.1 h
  have e:x=92:=by simpa using h92
  subst e
  rw[idx_two]at h2
  exact ih j hj (by simpa using h2)
 |case6 x y l hx h92 ih=>
  intro i h h2
  rw[idx_two,if_neg hx,if_neg h92]at h
  obtain ⟨j,hj,rfl⟩:=Option.map_eq_some_iff.1 h
  have h1:¬x=44:=by intro e;subst e;simp[idx_two]at h2
  rw[idx_two,if_neg (by simpa using h1),if_neg h92]at h2
  exact ih j hj (by simpa using h2)
theorem idx_pre (c:UInt8) (hc:¬c=92) (l:Bs):∀k,idx c l=none→idx c (l.take k)=none:=by
 induction l using idx.induct (c:=c)with
 |case1=>intro k _;simp[idx]
 |case2 x hx=>intro k h;simp[idx,hx]at h
 |case3 x hx=>intro k _;cases k<;>simp[idx,hx]
 |case4 x y l hx=>intro k h;simp[idx,hx]at h
 |case5 x y l hx h92 ih=>
  intro k h
  rw[idx_two,if_neg hx,if_pos h92]at h
  have h3:idx c l=none:=by simpa using h
  match k with
  |0=>rfl
  |1=>simp[idx,hx]
  |k+2=>rw[List.take_succ_cons,List.take_succ_cons,idx_two,if_neg hx,if_pos h92,ih k h3];rfl
 |case6 x y l hx h92 ih=>
  intro k h
  rw[idx_two,if_neg hx,if_neg h92]at h
  have h3:idx c (y :: l)=none:=by simpa using h
  match k with
  |0=>rfl
  |1=>simp[idx,hx]
  |k+2=>
   have:=ih (k+1) h3
   rw[List.take_succ_cons]at this
   rw[List.take_succ_cons,List.take_succ_cons,idx_two,if_neg hx,if_neg h92,this];rfl
theorem idx_before (c:UInt8) (l:Bs):∀k,idx c l=some k→idx c (l.take k)=none:=by
 induction l using idx.induct (c:=c)with
 |case1=>intro k h;simp[idx]at h
 |case2 x hx=>intro k h;simp[idx,hx]at h;subst h;rfl
 |case3 x hx=>intro k h;simp[idx,hx]at h
 |case4 x y l hx=>intro k h;simp[idx,hx]at h;subst h;rfl
 |case5 x y l hx h92 ih=>
  intro k h
  rw[idx_two,if_neg hx,if_pos h92]at h
  obtain ⟨j,hj,rfl⟩:=Option.map_eq_some_iff.1 h
  have:=ih j hj
  rw[List.take_succ_cons,List.take_succ_cons,idx_two,if_neg hx,if_pos h92,this];rfl
 |case6 x y l hx h92 ih=>
  intro k h
  rw[idx_two,if_neg hx,if_neg h92]at h
  obtain ⟨j,hj,rfl⟩:=Option.map_eq_some_iff.1 h
  have h3:=ih j hj
  match j with
  |0=>simp[idx,hx]
  |j+1=>
   rw[List.take_succ_cons]at h3
   rw[List.take_succ_cons,List.take_succ_cons,idx_two,if_neg hx,if_neg h92,h3];rfl
theorem idx_trimL (l:Bs):idx 44 l=none→idx 44 (trimL l)=none:=by
 induction l with
 |nil=>intro h;exact h
 |cons x l ih=>
  intro h
  by_cases hx:x=32
  ·subst hx
   have e:trimL (32 :: l)=trimL l:=by simp[trimL]
   rw[e]
   refine ih ?_
   cases l with
   |nil=>rfl
   |cons y l=>rw[idx_two]at h;simpa using h
  ·rw[trimL_of_head x l hx];exact h
theorem trim_take (l:Bs):∃k,trim l=(trimL l).take k:=by
 have h:trim l <+: trimL l:=by
  unfold trim
  have:=List.dropWhile_suffix (·==(32:UInt8)) (l:=(trimL l).reverse)
  have h2:=List.reverse_prefix.2 this
  rw[List.reverse_reverse]at h2
  exact h2
 exact ⟨_,(List.prefix_iff_eq_take.1 h)⟩
theorem idx_trim (l:Bs) (h:idx 44 l=none):idx 44 (trim l)=none:=by
 obtain ⟨k,hk⟩:=trim_take l
 rw[hk]
 exact idx_pre 44 (by decide) _ k (idx_trimL l h)
def component5 (s:Bs):Pr×Int:=
 match idx 61 s with
 |none=>(([],[]),4)
 |some i=>
  match val5 (trim (s.drop (i+1)))with
  |none=>(([],[]),4)
  |some v=>if !name (trim (s.take i))then (([],[]),5)else if !clean v then (([],[]),8)else ((trim (s.take i),v),0)
theorem component5_eq (s:Bs) (h:idx 44 s=none):component5 s=component s:=by
 unfold component5 component
 cases hx:idx 61 s with
 |none=>rfl
 |some i=>
  dsimp only
  rw[val5_eq _ (idx_trim _ (idx_drop s i hx h))]
  all_goals (cases val (trim (List.drop (i+1) s))<;>rfl)
end Idn
