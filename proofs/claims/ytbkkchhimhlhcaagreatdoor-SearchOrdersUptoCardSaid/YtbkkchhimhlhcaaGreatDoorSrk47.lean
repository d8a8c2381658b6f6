/- Part 47 of the proof that identitylaw12.SearchChecks returns true for every data that it may be called with: proof: the package variables hold what the program lays; nothing else is asked. -/
import Derived.Test.YtbkkchhimhlhcaaGreatDoorSrk39
import Derived.Test.YtbkkchhimhlhcaaGreatDoorSrk45
import Derived.Test.YtbkkchhimhlhcaaGreatDoorSrk46
set_option linter.unusedVariables false
set_option linter.unusedSimpArgs false
set_option maxRecDepth 100000
set_option maxHeartbeats 16000000
/- Plain laws of identitylaw11: what was put against what is stored; the index's knowledge along the puts; the filters that Check takes. -/
namespace Go.Proofs.YtbkkchhimhlhcaaGreatDoor
open Go.RowKit Go.Sort
open Idn (L B Bs)
theorem GdI.put {s:Idn.Sch} {ns:List Bs} {es:List IxE} (h:GdI s ns es) {n:Bs} {A:List Idn.Att} (hl:n.length≤1000000) (hlen:es.length<256):GdI s ns (ixPut es n A).2:=by
 unfold ixPut
 by_cases h1:(n.isEmpty||!validN n)=true
 ·rw[if_pos h1];exact h
 ·rw[if_neg h1]
  have hv:validN n=true:=by
   have:(n.isEmpty||!validN n)=false:=by simpa using h1
   rw[Bool.or_eq_false_iff]at this
   simpa using this.2
  by_cases h2:(Idn.aCheck A !=0)=true
  ·rw[if_pos h2];exact h
  ·rw[if_neg h2]
   split
   ·exact h
   ·exact h.ins hv hl (by simpa using h2) (.inr hlen)
theorem CdE.len {es:List IxE} (h:OkE es) {l:List Bs} (hc:CdE es l):l.length≤es.length:=by
 have hnd:l.Nodup:=hc.1.imp_of_mem fun {a b} ha _ hlt e=>by
  subst e
  obtain ⟨x,hx,hx'⟩:=List.mem_map.1 (hc.2 a ha)
  have:=nm_irr (h.val x hx)
  rw[hx']at this
  omega
 have:=nodup_lenS hnd hc.2
 unfold namesE at this
 rwa[List.length_map]at this
theorem fG_len {n:Nat} (hn:n≤9223372036854775807) (f:Flt):fG n f→fLen f:=by
 induction f using Flt.ind with
 |h k a v ps ks ih=>
  intro g
  rw[fG]at g
  rw[fLen]
  obtain ⟨_,_,g3,g4,g5⟩:=g
  exact ⟨Nat.le_trans g3.1 hn,Nat.le_trans g4 hn,fLens_all.2 fun q hq=>ih q hq (fGs_all.1 g5 q hq)⟩
end Go.Proofs.YtbkkchhimhlhcaaGreatDoor
/- Plain functions: what the layers tree and search compute (entries in order, as in SpI). -/
namespace Go.Proofs.YtbkkchhimhlhcaaGreatDoor
open Go.RowKit Go.Sort
open Idn (L B Bs)
def nmPar (s:Bs):Bs×Bool:=if (Idn.normal s).2&&!(Idn.normal s).1.isEmpty then ((Idn.format (Idn.normal s).1.tail).1,true)else ([],false)
def nmDep (s:Bs):Nat:=if (Idn.normal s).2 then (Idn.normal s).1.length else 0
def lastP (l m:List Idn.Pr):Bool:=decide (m.length≤l.length∧l.drop (l.length-m.length)=m)
def nmUnd (s b:Bs):Bool:=(Idn.normal s).2&&((Idn.normal b).2&&lastP (Idn.normal s).1 (Idn.normal b).1)
def trRoots:List Bs→List IxE→Int×List IxE
 |[],es=>(0,es)
 |s :: l,es=>if !validN s||decide (nmDep s≠1)then (5,[])else if hasE es s then (7,[])else trRoots l (insE s [] es)
def trNew (roots:List Bs):Int×List IxE:=if roots.length=0 then (6,[])else if 256<roots.length then (3,[])else trRoots roots []
def trPar (es:List IxE) (s:Bs):Bool:=(nmPar s).2&&hasE es (nmPar s).1
def trAdd (es:List IxE) (n:Bs) (A:List Idn.Att):Int×List IxE:=
 if n.isEmpty||!validN n then (5,es)else if hasE es n then (7,es)else if !trPar es n then (6,es)else if 256≤es.length then (3,es)else (0,insE n (Idn.rSorted A) es)
def trSub (es:List IxE) (base:Bs):List IxE:=if !base.isEmpty&&!hasE es base then []else es.filter fun e=>nmUnd e.1 base
structure Qry where
 base:Bs
 scope:Int
 flt:Flt
 names:List Bs
 limit:Int
def qChk (q:Qry):Int:=
 if !validN q.base then 5 else if q.scope<1∨3<q.scope then 2 else if fCheck q.flt≠0 then fCheck q.flt else if 32<q.names.length then 3 else if !q.names.all Idn.name then 5 else if q.limit<1∨256<q.limit then 27 else 0
def qIn (q:Qry) (s:Bs):Bool:=
 validN q.base&&(validN s&&(if q.scope=1 then s==q.base else if q.scope=2 then (nmPar s).2&&(nmPar s).1==q.base else if q.scope=3 then nmUnd s q.base else false))
def pickA (A:List Idn.Att) (names:List Bs):List Idn.Att:=(Idn.rSorted A).filter fun a=>names.isEmpty||(names.map Idn.lower).contains a.name
def qFirst (es:List IxE) (q:Qry):Int:=if qChk q≠0 then qChk q else if hasE es q.base then 0 else 6
def qScope (es:List IxE) (q:Qry):List IxE:=es.filter fun e=>qIn q e.1
def qRes (s:Idn.Sch) (l:List IxE) (q:Qry):List IxE×Int:=
 if q.limit<((l.filter fun e=>fMatch s e.2 q.flt).length:Int)then ([],3)else ((l.filter fun e=>fMatch s e.2 q.flt).map fun e=>(e.1,pickA e.2 q.names),0)
def qScan (s:Idn.Sch) (es:List IxE) (q:Qry):List IxE×Int:=if qFirst es q≠0 then ([],qFirst es q)else qRes s (qScope es q) q
def qExam (es:List IxE) (q:Qry) (c:List Bs×Bool):List IxE:=if c.2 then (qScope es q).filter fun e=>c.1.contains e.1 else qScope es q
def qRun (s:Idn.Sch) (es:List IxE) (q:Qry) (c:List Bs×Bool):List IxE×Int:=if qFirst es q≠0 then ([],qFirst es q)else qRes s (qExam es q c) q
theorem lastP_refl (l:List Idn.Pr):lastP l l=true:=by unfold lastP;simp
theorem lastP_nil (l:List Idn.Pr):lastP l []=true:=by unfold lastP;simp
theorem lastP_tail (l:List Idn.Pr) (h:l≠[]):lastP l l.tail=true:=by
 cases l with
 |nil=>exact absurd rfl h
 |cons x l=>unfold lastP;simp
theorem und_self {s:Bs} (h:validN s=true):nmUnd s s=true:=by
 unfold nmUnd
 rw[normal_valid,h,lastP_refl];rfl
theorem normal_nil:Idn.normal []=([],true):=by decide
theorem und_nil {s:Bs} (h:validN s=true):nmUnd s []=true:=by
 unfold nmUnd
 rw[normal_valid,h,normal_nil,lastP_nil];rfl
theorem sub_all {es:List IxE} (h:OkE es):trSub es []=es:=by
 unfold trSub
 rw[if_neg (by simp)]
 exact List.filter_eq_self.2 fun e he=>und_nil (h.val e he)
theorem in_und {q:Qry} {s:Bs} (hpar:∀s,validN s=true→(nmPar s).2=true→validN (nmPar s).1=true∧(Idn.normal (nmPar s).1).1=(Idn.normal s).1.tail∧(Idn.normal s).1≠[]) (h:qIn q s=true):nmUnd s q.base=true:=by
 unfold qIn at h
 rw[Bool.and_eq_true,Bool.and_eq_true]at h
 obtain ⟨h1,h2,h3⟩:=h
 by_cases c1:q.scope=1
 ·rw[if_pos c1,beq_iff_eq]at h3
  rw[←h3];exact und_self h2
 ·rw[if_neg c1]at h3
  by_cases c2:q.scope=2
  ·rw[if_pos c2,Bool.and_eq_true,beq_iff_eq]at h3
   obtain ⟨p1,p2,p3⟩:=hpar s h2 h3.1
   rw[h3.2]at p2
   unfold nmUnd
   rw[normal_valid,normal_valid,h1,h2,p2,lastP_tail _ p3];rfl
  ·rw[if_neg c2]at h3
   by_cases c3:q.scope=3
   ·rw[if_pos c3]at h3;exact h3
   ·rw[if_neg c3]at h3;cases h3
theorem scope_sub {es:List IxE} {q:Qry} (hpar:∀s,validN s=true→(nmPar s).2=true→validN (nmPar s).1=true∧(Idn.normal (nmPar s).1).1=(Idn.normal s).1.tail∧(Idn.normal s).1≠[]) (hb:hasE es q.base=true):(trSub es q.base).filter (fun e=>qIn q e.1)=qScope es q:=by
 unfold trSub qScope
 rw[if_neg (by rw[hb];simp),List.filter_filter]
 congr 1
 funext e
 cases hq:qIn q e.1 with
 |false=>rfl
 |true=>rw[in_und hpar hq];rfl
end Go.Proofs.YtbkkchhimhlhcaaGreatDoor
/- Queries in memory; the data of identitylaw12. -/
namespace Go.Proofs.YtbkkchhimhlhcaaGreatDoor
open Go.RowKit Go.Sort
open Idn (L B Bs drop_L take_L size_L)
def QryV (w:World) (hi d:Nat) (v:Value) (q:Qry):Prop:=
 ∃pv kv nv,v=.agg #[.string (B q.base),.int .i64 q.scope,.int .i64 q.flt.kind,.string (B q.flt.name),.string (B q.flt.value),pv,kv,nv,.int .i64 q.limit]∧FltV w hi d (.agg #[.int .i64 q.flt.kind,.string (B q.flt.name),.string (B q.flt.value),pv,kv]) q.flt∧StrsV w hi nv q.names
structure QSm (q:Qry):Prop where
 base:q.base.length≤1000000
 flt:FSm 1000 q.flt
 len:q.names.length≤1000000
 nam:∀n∈q.names,n.length≤1000000
section
variable {w w':World} {hi d:Nat} {v:Value} {q:Qry}
theorem QryV.on (h:QryV w w.heap.size d v q) (hb:Below w.heap.size w w'):QryV w' w'.heap.size d v q:=by
 obtain ⟨pv,kv,nv,h1,h2,h3⟩:=h
 exact ⟨pv,kv,nv,h1,h2.on hb,SlV.mono (SlV.keep h3 hb) hb.size⟩
theorem QryV.shape (h : QryV w hi d v q) : ∃ Ap cp Ak ck An cn, v = .agg #[.string (B q.base), .int .i64 q.scope, .int .i64 q.flt.kind, .string (B q.flt.name), .string (B q.flt.value), .slice Ap q.flt.parts.length cp, .slice Ak q.flt.kids.length ck, .slice An q.names.length cn, .int .i64 q.limit] ∧
  FltV w hi d (.agg #[.int .i64 q.flt.kind,.string (B q.flt.name),.string (B q.flt.value),.slice Ap q.flt.parts.length cp,.slice Ak q.flt.kids.length ck]) q.flt∧StrsV w hi (.slice An q.names.length cn) q.names:=by
 obtain ⟨pv,kv,nv,rfl,h2,h3⟩:=h
 obtain ⟨Ap,cp,Ak,ck,e,_,_⟩:=h2.shape
 obtain ⟨An,cn,rfl,_⟩:=SlV.shape h3
 obtain ⟨rfl,rfl⟩:pv=.slice Ap q.flt.parts.length cp∧kv=.slice Ak q.flt.kids.length ck:=by injection e with h;simp at h;exact h
 exact ⟨Ap,cp,Ak,ck,An,cn,rfl,h2,h3⟩
end
def NineAt (W:World) (p:Nat) (q:Qry) (Ap:Option Addr) (cp:Nat) (Ak:Option Addr) (ck:Nat) (An:Option Addr) (cn:Nat):Prop:=
 W.cell? ⟨p,0,none⟩=some (.string (B q.base))∧W.cell? ⟨p,1,none⟩=some (.int .i64 q.scope)∧W.cell? ⟨p,2,none⟩=some (.int .i64 q.flt.kind)∧W.cell? ⟨p,3,none⟩=some (.string (B q.flt.name))∧W.cell? ⟨p,4,none⟩=some (.string (B q.flt.value))∧
 W.cell? ⟨p,5,none⟩=some (.slice Ap q.flt.parts.length cp)∧W.cell? ⟨p,6,none⟩=some (.slice Ak q.flt.kids.length ck)∧W.cell? ⟨p,7,none⟩=some (.slice An q.names.length cn)∧W.cell? ⟨p,8,none⟩=some (.int .i64 q.limit)
theorem NineAt.later {w W:World} {p:Nat} {q:Qry} {Ap:Option Addr} {cp:Nat} {Ak:Option Addr} {ck:Nat} {An:Option Addr} {cn:Nat} (h:NineAt w p q Ap cp Ak ck An cn) (hb:Below w.heap.size w W):NineAt W p q Ap cp Ak ck An cn:=
 ⟨cell_later hb h.1,cell_later hb h.2.1,cell_later hb h.2.2.1,cell_later hb h.2.2.2.1,cell_later hb h.2.2.2.2.1,cell_later hb h.2.2.2.2.2.1,cell_later hb h.2.2.2.2.2.2.1,cell_later hb h.2.2.2.2.2.2.2.1,cell_later hb h.2.2.2.2.2.2.2.2⟩
end Go.Proofs.YtbkkchhimhlhcaaGreatDoor
/- Plain laws of the layer tree: parents; the reference's insert; what Add keeps. -/
namespace Go.Proofs.YtbkkchhimhlhcaaGreatDoor
open Go.RowKit Go.Sort
open Idn (L B Bs)
theorem valid_form {s:Bs} (h:validN s=true):∃l,Idn.check l=0∧s=Idn.fmtJ l∧Idn.normal s=(l.map Idn.nrm,true):=by
 unfold validN at h
 rw[Bool.and_eq_true,beq_iff_eq,beq_iff_eq]at h
 obtain ⟨l,h1,h2,_,_,h5⟩:=Idn.clean_form (v:=s) (u:=s) (Prod.ext h.2 h.1)
 exact ⟨l,h1,h2,h5⟩
theorem form_valid {l:List Idn.Pr} (h:Idn.check l=0):validN (Idn.fmtJ l)=true∧Idn.normal (Idn.fmtJ l)=(l.map Idn.nrm,true):=by
 have hp:=Idn.parse_fmt h
 have hf:=Idn.format_nrm h
 have hn:Idn.normal (Idn.fmtJ l)=(l.map Idn.nrm,true):=by
  unfold Idn.normal
  rw[hp]
  show (if ((0:Int) !=0)=true then _ else _)=_
  rw[if_neg (by decide)]
  show (l.map Idn.nrm,(Idn.format (l.map Idn.nrm)).2==0&&(Idn.format (l.map Idn.nrm)).1==Idn.fmtJ l)=_
  rw[hf]
  simp
 exact ⟨by rw[←normal_valid,hn],hn⟩
theorem check_tail {l:List Idn.Pr} (h:Idn.check l=0):Idn.check l.tail=0:=by
 rw[Idn.check_iff]at h⊢
 exact ⟨fun q hq=>h.1 q (List.mem_of_mem_tail hq),by have:=h.2;rw[List.length_tail];omega⟩
theorem par_law (s:Bs) (hv:validN s=true) (hp:(nmPar s).2=true):validN (nmPar s).1=true∧(Idn.normal (nmPar s).1).1=(Idn.normal s).1.tail∧(Idn.normal s).1≠[]:=by
 obtain ⟨l,h1,h2,h3⟩:=valid_form hv
 unfold nmPar at hp⊢
 rw[h3]at hp⊢
 dsimp only at hp⊢
 by_cases hl:l.map Idn.nrm=[]
 ·rw[hl]at hp;cases hp
 ·have hc : (true && !(l.map Idn.nrm).isEmpty) = true := by
   cases hm:l.map Idn.nrm with
   |nil=>exact absurd hm hl
   |cons x y=>rfl
  rw[if_pos hc]
  have ht:(l.map Idn.nrm).tail=l.tail.map Idn.nrm:=by cases l<;>rfl
  rw[ht,Idn.format_nrm (check_tail h1)]
  obtain ⟨q1,q2⟩:=form_valid (check_tail h1)
  exact ⟨q1,by rw[q2],hl⟩
theorem add_ok {es:List IxE} (h:OkE es) (n:Bs) (A:List Idn.Att):OkE (trAdd es n A).2:=by
 unfold trAdd
 by_cases h1:(n.isEmpty||!validN n)=true
 ·rw[if_pos h1];exact h
 ·rw[if_neg h1]
  have hv:validN n=true:=by
   have:(n.isEmpty||!validN n)=false:=by simpa using h1
   rw[Bool.or_eq_false_iff]at this
   simpa using this.2
  split
  ·exact h
  ·split
   ·exact h
   ·split
    ·exact h
    ·exact insE_ok hv h
theorem roots_ok:∀(l:List Bs) (es:List IxE),OkE es→(trRoots l es).1=0→OkE (trRoots l es).2
 |[],es,h,_=>h
 |s :: l,es,h,h0=>by
  rw[trRoots]at h0⊢
  by_cases c1:(!validN s||decide (nmDep s≠1))=true
  ·rw[if_pos c1]at h0;cases h0
  ·rw[if_neg c1]at h0⊢
   have hv:validN s=true:=by
    have:(!validN s||decide (nmDep s≠1))=false:=by simpa using c1
    rw[Bool.or_eq_false_iff]at this
    simpa using this.1
   by_cases c2:hasE es s=true
   ·rw[if_pos c2]at h0;cases h0
   ·rw[if_neg c2]at h0⊢
    exact roots_ok l _ (insE_ok hv h) h0
theorem new_ok {roots:List Bs} (h0:(trNew roots).1=0):OkE (trNew roots).2:=by
 unfold trNew at h0⊢
 by_cases c1:roots.length=0
 ·rw[if_pos c1]at h0;cases h0
 ·rw[if_neg c1]at h0⊢
  by_cases c2:256<roots.length
  ·rw[if_pos c2]at h0;cases h0
  ·rw[if_neg c2]at h0⊢
   exact roots_ok roots [] OkE.nil h0
end Go.Proofs.YtbkkchhimhlhcaaGreatDoor
/- Plain laws of the layer search: what lies below a base is the base and what lies below its children, in this order. -/
namespace Go.Proofs.YtbkkchhimhlhcaaGreatDoor
open Go.RowKit Go.Sort
open Idn (L B Bs)
def keyN (s:Bs):List Idn.Pr:=(Idn.normal s).1.reverse
def Closed (es:List IxE):Prop:=∀e∈es,1<(keyN e.1).length→hasE es (nmPar e.1).1=true
def subE (es:List IxE) (b:Bs):List IxE:=es.filter fun e=>nmUnd e.1 b
end Go.Proofs.YtbkkchhimhlhcaaGreatDoor
/- Plain laws of the layer search: all that SearchParts asks. -/
namespace Go.Proofs.YtbkkchhimhlhcaaGreatDoor
open Go.RowKit Go.Sort
open Idn (L B Bs)
theorem add_closed {es:List IxE} (h:OkE es) (hc:Closed es) (n:Bs) (A:List Idn.Att):Closed (trAdd es n A).2:=by
 unfold trAdd
 by_cases h1:(n.isEmpty||!validN n)=true
 ·rw[if_pos h1];exact hc
 ·rw[if_neg h1]
  have hv:validN n=true:=by
   have:(n.isEmpty||!validN n)=false:=by simpa using h1
   rw[Bool.or_eq_false_iff]at this
   simpa using this.2
  by_cases h2:hasE es n=true
  ·rw[if_pos h2];exact hc
  ·rw[if_neg h2]
   by_cases h3:(!trPar es n)=true
   ·rw[if_pos h3];exact hc
   ·rw[if_neg h3]
    split
    ·exact hc
    ·intro e he hl
     rw[hasE_ins h hv]
     have h3':trPar es n=true:=by simpa using h3
     unfold trPar at h3'
     rw[Bool.and_eq_true]at h3'
     rcases (insE_mem hv h e).1 he with rfl|⟨he,_⟩
     ·rw[h3'.2];simp
     ·rw[hc e he hl];simp
theorem roots_closed:∀(l:List Bs) (es:List IxE),OkE es→(∀e∈es,(keyN e.1).length=1)→(trRoots l es).1=0→∀e∈(trRoots l es).2,(keyN e.1).length=1
 |[],es,_,h,_=>h
 |s :: l,es,ho,h,h0=>by
  rw[trRoots]at h0⊢
  by_cases c1:(!validN s||decide (nmDep s≠1))=true
  ·rw[if_pos c1]at h0;cases h0
  ·rw[if_neg c1]at h0⊢
   have hb:(!validN s||decide (nmDep s≠1))=false:=by simpa using c1
   rw[Bool.or_eq_false_iff]at hb
   have hv:validN s=true:=by simpa using hb.1
   have hd:nmDep s=1:=by simpa using hb.2
   by_cases c2:hasE es s=true
   ·rw[if_pos c2]at h0;cases h0
   ·rw[if_neg c2]at h0⊢
    refine roots_closed l _ (insE_ok hv ho) (fun e he=>?_) h0
    rcases (insE_mem hv ho e).1 he with rfl|⟨he,_⟩
    ·unfold nmDep at hd
     rw[normal_valid,hv,if_pos rfl]at hd
     unfold keyN
     rw[List.length_reverse];exact hd
    ·exact h e he
theorem new_closed {roots:List Bs} (h0:(trNew roots).1=0):Closed (trNew roots).2:=by
 unfold trNew at h0⊢
 by_cases c1:roots.length=0
 ·rw[if_pos c1]at h0;cases h0
 ·rw[if_neg c1]at h0⊢
  by_cases c2:256<roots.length
  ·rw[if_pos c2]at h0;cases h0
  ·rw[if_neg c2]at h0⊢
   intro e he hl
   have:=roots_closed roots [] OkE.nil (by simp) h0 e he
   omega
end Go.Proofs.YtbkkchhimhlhcaaGreatDoor
/- Plain laws: what is known of a tree beside its memory; entries added one after the other; a tree's entries put into an index. -/
namespace Go.Proofs.YtbkkchhimhlhcaaGreatDoor
open Go.RowKit Go.Sort
open Idn (L B Bs)
def RchA (A:List Idn.Att):Prop:=A.length≤6∧∀a∈A,a.name.length≤100∧a.vals.length≤6∧∀x∈a.vals,x.length≤100
theorem RchA.nil:RchA []:=⟨by decide,by simp⟩
theorem RchA.sm {A:List Idn.Att} (h:RchA A):Idn.ASm7 A:=by
 refine ⟨by have:=h.1;omega,fun a ha=>?_⟩
 obtain ⟨h1,h2,h3⟩:=h.2 a ha
 exact ⟨by omega,by omega,fun x hx=>by have:=h3 x hx;omega⟩
theorem RchA.sms {A:List Idn.Att} (h:RchA A):Idn.ASm7 (Idn.rSorted A):=
 (rSorted_sm (by have:=h.1;omega) fun a ha=>by
  obtain ⟨h1,h2,h3⟩:=h.2 a ha
  exact ⟨by omega,by omega,fun x hx=>by have:=h3 x hx;omega⟩).2.2
theorem RchA.get {A:List Idn.Att} (h:RchA A):AGet (Idn.rSorted A):=
 ⟨h.sms,fun n=>by
  rw[get_sorted]
  exact ⟨rGet_len h.sm n,rGet_all (p:=fun x=>x.length≤100000000) (fun a ha x hx=>by have:=(h.2 a ha).2.2 x hx;omega) n⟩⟩
structure GdT (es:List IxE):Prop where
 ok:OkE es
 len:es.length≤256
 nam:∀e∈es,e.1.length≤1000000
 rch:∀e∈es,∃A,RchA A∧e.2=Idn.rSorted A
 cl:Closed es
theorem GdT.srt {es:List IxE} (h:GdT es) {e:IxE} (he:e∈es):Idn.rSorted e.2=e.2:=by
 obtain ⟨A,_,h2⟩:=h.rch e he
 rw[h2];exact rSorted_idem A
theorem GdT.sm {es:List IxE} (h:GdT es) {e:IxE} (he:e∈es):Idn.ASm7 e.2:=by
 obtain ⟨A,h1,h2⟩:=h.rch e he
 rw[h2];exact h1.sms
theorem GdT.get {es:List IxE} (h:GdT es) {e:IxE} (he:e∈es):AGet e.2:=by
 obtain ⟨A,h1,h2⟩:=h.rch e he
 rw[h2];exact h1.get
theorem add_val {es:List IxE} {n:Bs} {A:List Idn.Att}:(trAdd es n A).2=es∨(validN n=true∧hasE es n=false∧es.length<256∧(trAdd es n A).2=insE n (Idn.rSorted A) es):=by
 unfold trAdd
 by_cases h1:(n.isEmpty||!validN n)=true
 ·rw[if_pos h1];exact .inl rfl
 ·rw[if_neg h1]
  have hv:validN n=true:=by
   have:(n.isEmpty||!validN n)=false:=by simpa using h1
   rw[Bool.or_eq_false_iff]at this
   simpa using this.2
  by_cases h2:hasE es n=true
  ·rw[if_pos h2];exact .inl rfl
  ·rw[if_neg h2]
   by_cases h3:(!trPar es n)=true
   ·rw[if_pos h3];exact .inl rfl
   ·rw[if_neg h3]
    by_cases h4:256≤es.length
    ·rw[if_pos h4];exact .inl rfl
    ·rw[if_neg h4];exact .inr ⟨hv,by simpa using h2,by omega,rfl⟩
theorem GdT.add {es:List IxE} (h:GdT es) {n:Bs} {A:List Idn.Att} (hn:n.length≤1000000) (hA:RchA A):GdT (trAdd es n A).2:=by
 have hok:=add_ok h.ok n A
 have hcl:=add_closed h.ok h.cl n A
 rcases add_val (es:=es) (n:=n) (A:=A)with e|⟨hv,hno,hl,e⟩
 ·rw[e];exact h
 ·rw[e]at hok hcl⊢
  refine ⟨hok,?_,fun x hx=>?_,fun x hx=>?_,hcl⟩
  ·rw[insE_len hv h.ok]
   split<;>omega
  ·rcases (insE_mem hv h.ok x).1 hx with rfl|⟨hx,_⟩
   ·exact hn
   ·exact h.nam x hx
  ·rcases (insE_mem hv h.ok x).1 hx with rfl|⟨hx,_⟩
   ·exact ⟨A,hA,rfl⟩
   ·exact h.rch x hx
def addsE:List IxE→List IxE→List IxE
 |[],es=>es
 |x :: l,es=>addsE l (trAdd es x.1 x.2).2
theorem adds_snoc:∀(l:List IxE) (x:IxE) (es:List IxE),addsE (l++[x]) es=(trAdd (addsE l es) x.1 x.2).2
 |[],_,_=>rfl
 |y :: l,x,es=>by rw[List.cons_append,addsE,addsE,adds_snoc l x]
theorem insE_last {n:Bs} {A:List Idn.Att}:∀{l:List IxE},(∀x∈l,cmpNm x.1 n<0)→insE n A l=l++[(n,A)]
 |[],_=>rfl
 |x :: l,h=>by
  rw[insE,if_pos (h x List.mem_cons_self),insE_last fun y hy=>h y (List.mem_cons_of_mem _ hy)];rfl
theorem put_next {es:List IxE} (h:GdT es) {k:Nat} (hk:k<es.length) (h0:(ixPut (es.take k) es[k].1 es[k].2).1=0):(ixPut (es.take k) es[k].1 es[k].2).2=es.take (k+1):=by
 have hlt:∀x∈es.take k,cmpNm x.1 es[k].1<0:=fun x hx=>by
  have h1:=h.ok.srt
  rw[←List.take_append_drop k es]at h1
  unfold srtE at h1
  rw[List.pairwise_append]at h1
  exact h1.2.2 x hx es[k] (by rw[List.drop_eq_getElem_cons hk];exact List.mem_cons_self)
 have hs:=h.srt (List.getElem_mem hk)
 unfold ixPut at h0⊢
 by_cases h1:(es[k].1.isEmpty||!validN es[k].1)=true
 ·rw[if_pos h1]at h0;cases h0
 ·rw[if_neg h1]at h0⊢
  by_cases h2:(Idn.aCheck es[k].2 !=0)=true
  ·rw[if_pos h2]at h0
   rw[bne_iff_ne]at h2
   exact absurd h0 h2
  ·rw[if_neg h2]at h0⊢
   split
   ·rename_i h3
    rw[if_pos h3]at h0;cases h0
   ·show insE _ _ _=_
    rw[hs,insE_last hlt,List.take_succ_eq_append_getElem hk]
theorem trNew_len {roots:List Bs}:∀(l:List Bs) (es:List IxE),OkE es→(trRoots l es).2.length≤es.length+l.length
 |[],_,_=>Nat.le_refl _
 |s :: l,es,h=>by
  rw[trRoots]
  by_cases c1:(!validN s||decide (nmDep s≠1))=true
  ·rw[if_pos c1];exact Nat.zero_le _
  ·rw[if_neg c1]
   have hv:validN s=true:=by
    have:(!validN s||decide (nmDep s≠1))=false:=by simpa using c1
    rw[Bool.or_eq_false_iff]at this
    simpa using this.1
   split
   ·exact Nat.zero_le _
   ·have h1:=trNew_len (roots:=roots) l (insE s [] es) (insE_ok hv h)
    rw[insE_len hv h]at h1
    rw[List.length_cons]
    split at h1<;>omega
theorem roots_mem:∀(l:List Bs) (es:List IxE),OkE es→(trRoots l es).1=0→∀e∈(trRoots l es).2,e∈es∨(e.1∈l∧e.2=[])
 |[],_,_,_=>fun e he=>.inl he
 |s :: l,es,h,h0=>by
  rw[trRoots]at h0⊢
  by_cases c1:(!validN s||decide (nmDep s≠1))=true
  ·rw[if_pos c1]at h0;cases h0
  ·rw[if_neg c1]at h0⊢
   have hv:validN s=true:=by
    have:(!validN s||decide (nmDep s≠1))=false:=by simpa using c1
    rw[Bool.or_eq_false_iff]at this
    simpa using this.1
   by_cases c2:hasE es s=true
   ·rw[if_pos c2]at h0;cases h0
   ·rw[if_neg c2]at h0⊢
    intro e he
    rcases roots_mem l _ (insE_ok hv h) h0 e he with h1|⟨h1,h2⟩
    ·rcases (insE_mem hv h e).1 h1 with rfl|⟨h1,_⟩
     ·exact .inr ⟨List.mem_cons_self,rfl⟩
     ·exact .inl h1
    ·exact .inr ⟨List.mem_cons_of_mem _ h1,h2⟩
theorem new_gd {roots:List Bs} (h0:(trNew roots).1=0) (hl:∀s∈roots,s.length≤1000000):GdT (trNew roots).2:=by
 have hcl:=new_closed h0
 have hok:=new_ok h0
 unfold trNew at h0 hcl hok⊢
 by_cases c1:roots.length=0
 ·rw[if_pos c1]at h0;cases h0
 ·rw[if_neg c1]at h0 hcl hok⊢
  by_cases c2:256<roots.length
  ·rw[if_pos c2]at h0;cases h0
  ·rw[if_neg c2]at h0 hcl hok⊢
   have hm:=roots_mem roots [] OkE.nil h0
   refine ⟨hok,?_,fun e he=>?_,fun e he=>?_,hcl⟩
   ·have:=trNew_len (roots:=roots) roots [] OkE.nil
    simp only[List.length_nil,Nat.zero_add]at this
    omega
   ·rcases hm e he with h|⟨h,_⟩
    ·cases h
    ·exact hl _ h
   ·rcases hm e he with h|⟨_,h⟩
    ·cases h
    ·exact ⟨[],RchA.nil,by rw[h];rfl⟩
end Go.Proofs.YtbkkchhimhlhcaaGreatDoor
/- law12: rich, long, large; the data in memory. -/
namespace Go.Proofs.YtbkkchhimhlhcaaGreatDoor
open Go.RowKit Go.Sort
open Idn (L B Bs drop_L take_L size_L)
structure Dat where
 sch:Idn.Sch
 roots:List Bs
 ents:List EntP
 idx:List Bs
def DatV (w:World) (hi:Nat) (v:Value) (d:Dat):Prop:=
 ∃ta cb rv ev iv,v=.agg #[ta,cb,rv,ev,iv]∧SchV w hi (.agg #[ta,cb]) d.sch∧StrsV w hi rv d.roots∧EntsV w hi ev d.ents∧StrsV w hi iv d.idx
theorem DatV.on {w w':World} {v:Value} {d:Dat} (h:DatV w w.heap.size v d) (hb:Below w.heap.size w w'):DatV w' w'.heap.size v d:=by
 obtain ⟨ta,cb,rv,ev,iv,h1,h2,h3,h4,h5⟩:=h
 exact ⟨ta,cb,rv,ev,iv,h1,SchV.mono (SchV.keep h2 hb) hb.size,SlV.mono (SlV.keep h3 hb) hb.size,EntsV.mono (EntsV.keep h4 hb) hb.size,SlV.mono (SlV.keep h5 hb) hb.size⟩
theorem DatV.shape {w : World} {hi : Nat} {v : Value} {d : Dat} (h : DatV w hi v d) : ∃ A1 c1 A2 c2 A3 c3 A4 c4 A5 c5, v = .agg #[.slice A1 d.sch.types.length c1, .slice A2 d.sch.classes.length c2, .slice A3 d.roots.length c3, .slice A4 d.ents.length c4, .slice A5 d.idx.length c5] ∧
  SchV w hi (.agg #[.slice A1 d.sch.types.length c1,.slice A2 d.sch.classes.length c2]) d.sch∧StrsV w hi (.slice A3 d.roots.length c3) d.roots∧EntsV w hi (.slice A4 d.ents.length c4) d.ents∧StrsV w hi (.slice A5 d.idx.length c5) d.idx:=by
 obtain ⟨ta,cb,rv,ev,iv,rfl,hS,h3,h4,h5⟩:=h
 obtain ⟨sa,sb,e,hT,hC⟩:=hS
 obtain ⟨A1,c1,rfl,_⟩:=SlV.shape hT
 obtain ⟨A2,c2,rfl,_⟩:=SlV.shape hC
 obtain ⟨A3,c3,rfl,_⟩:=SlV.shape h3
 obtain ⟨A4,c4,rfl,_⟩:=SlV.shape h4
 obtain ⟨A5,c5,rfl,_⟩:=SlV.shape h5
 obtain ⟨rfl,rfl⟩:ta=.slice A1 d.sch.types.length c1∧cb=.slice A2 d.sch.classes.length c2:=by injection e with h;simp at h;exact h
 exact ⟨_,_,_,_,_,_,_,_,_,_,rfl,⟨_,_,rfl,hT,hC⟩,h3,h4,h5⟩
structure DLen (d:Dat):Prop where
 ty:d.sch.types.length≤9223372036854775807
 cl:d.sch.classes.length≤9223372036854775807
 ml:∀c∈d.sch.classes,c.must.length≤9223372036854775807∧c.may.length≤9223372036854775807
 rt:d.roots.length≤9223372036854775807
 en:d.ents.length≤9223372036854775807
 el:∀e∈d.ents,e.1.length≤9223372036854775807∧ALen8 e.2
 ix:d.idx.length≤9223372036854775807
structure DSm (d:Dat):Prop where
 ty:d.sch.types.length≤12
 cl:d.sch.classes.length≤6
 rt:d.roots.length≤4∧∀x∈d.roots,x.length≤100
 en:d.ents.length≤10
 ix:d.idx.length≤6∧∀x∈d.idx,x.length≤100
 ml:∀c∈d.sch.classes,c.must.length≤12∧c.may.length≤12
 el:∀e∈d.ents,e.1.length≤300∧RchA e.2
structure QLg (q:Qry):Prop where
 base:q.base.length≤300
 flt:FSm 30 q.flt
 nam:q.names.length≤40∧∀x∈q.names,x.length≤100
theorem QLg.sm {q:Qry} (h:QLg q):QSm q:=⟨by have:=h.base;omega,h.flt.up (by decide),by have:=h.nam.1;omega,fun n hn=>by have:=h.nam.2 n hn;omega⟩
theorem RetN.no {p:Prop} {w w':World} (h:Below w.heap.size w w'):RetN p w (.returned (.bool true)) w':=⟨true,rfl,nofun,h⟩
theorem RetN.yes {p:Prop} {w w':World} (hp:p) (h:Below w.heap.size w w'):RetN p w (.returned (.bool false)) w':=⟨false,rfl,fun _=>hp,h⟩
section
variable {w:World}
theorem long12_any {d : Nat} {v : Value} {q : Qry} (hq : QryV w w.heap.size d v q) (hfl : fLen q.flt) (hnl : q.names.length ≤ 9223372036854775807) :
  Calls Tryz.prog 21 #[v] w (RetN (QLg q) w):=by
 obtain ⟨Ap,cp,Ak,ck,An,cn,rfl,hF,hN⟩:=hq.shape
 have kG:=fun W (hW:Below w.heap.size w W)=>r9_Great_any d _ q.flt 30 W (hF.on hW) hfl (by decide)
 have kN:=fun W (hW:Below w.heap.size w W)=>r2_Great_any _ q.names 40 100 W (SlV.mono (SlV.keep hN hW) hW.size) hnl (by decide) (by decide)
 have hsz:=Idn.size_B q.base
 clear hq hF hN hfl
 obtain ⟨base,scope,flt,names,limit⟩:=q
 dsimp only at *
 go_enter Tryz.func21,Tryz.ntmps21
 go_upto_region 1 with fail
 with_reducible refine gen1 (R:=fun W=>Code.wp Tryz.prog _ _ _ W) ?_
 intro W hbW hszW hc _
 have b0:W.cell? ⟨w.heap.size,0,none⟩=some (.string (B base)):=hc 0 _ rfl
 have b2:W.cell? ⟨w.heap.size,2,none⟩=some (.int .i64 flt.kind):=hc 2 _ rfl
 have b3:W.cell? ⟨w.heap.size,3,none⟩=some (.string (B flt.name)):=hc 3 _ rfl
 have b4:W.cell? ⟨w.heap.size,4,none⟩=some (.string (B flt.value)):=hc 4 _ rfl
 have b5:W.cell? ⟨w.heap.size,5,none⟩=some (.slice Ap flt.parts.length cp):=hc 5 _ rfl
 have b6:W.cell? ⟨w.heap.size,6,none⟩=some (.slice Ak flt.kids.length ck):=hc 6 _ rfl
 have b7:W.cell? ⟨w.heap.size,7,none⟩=some (.slice An names.length cn):=hc 7 _ rfl
 clear hc hszW
 by_cases h1:base.length≤300
 case neg=>
  have hI:(300:Int)<((B base).size:Int):=by omega
  clear hsz h1 kG kN
  go_wp2
  go_ret
  exact RetN.no hbW
 have hI:¬(300:Int)<((B base).size:Int):=by omega
 have H1:=Lib.hid h1
 clear hsz h1
 go_wp2_with fail
 refine (kG W hbW).mono ?_
 rintro e w1 ⟨r1,rfl,hr1,hb1⟩
 have hbw1:=hbW.trans (hb1.mono hbW.size)
 replace b7:=cell_later hb1 b7
 have HR1:=Lib.hid hr1
 clear hr1 kG b0 b2 b3 b4 b5 b6
 cases r1
 case true=>
  clear kN HR1
  go_wp2_with fail
  go_ret
  exact RetN.no hbw1
 go_wp2_with fail
 refine (kN w1 hbw1).mono ?_
 rintro e w2 ⟨r2,rfl,hr2,hb2⟩
 have hbw2:=hbw1.trans (hb2.mono hbw1.size)
 have HR2:=Lib.hid hr2
 clear hr2 kN b7
 cases r2
 case true=>
  clear HR1 HR2
  go_wp2_with fail
  go_ret
  exact RetN.no hbw2
 have HX:Hid (QLg ⟨base,scope,flt,names,limit⟩):=⟨H1.out,HR1.out (by trivial),HR2.out (by trivial)⟩
 clear HR1 HR2
 go_wp2_with fail
 go_ret
 exact RetN.yes HX.out hbw2
end
end Go.Proofs.YtbkkchhimhlhcaaGreatDoor
/- law11: rows of entries while an index turns. -/
namespace Go.Proofs.YtbkkchhimhlhcaaGreatDoor
open Go.RowKit Go.Sort
open Idn (L B Bs drop_L take_L size_L)
def Cls (w w':World):Prop:=(∀a u,w.cell? a=some u→w'.cell? a=some u)∧w.heap.size≤w'.heap.size
theorem Cls.refl (w:World):Cls w w:=⟨fun _ _ h=>h,Nat.le_refl _⟩
theorem Cls.trans {w w' w'':World} (h:Cls w w') (k:Cls w' w''):Cls w w'':=⟨fun a u e=>k.1 a u (h.1 a u e),Nat.le_trans h.2 k.2⟩
theorem Cls.of_below {w w':World} (h:Below w.heap.size w w'):Cls w w':=⟨fun _ _ e=>cell_later h e,h.size⟩
theorem Cls.of_mv {S:Nat→Prop} {w w':World} (h:Mv S w w') (hS:AllMap w S):Cls w w':=⟨fun _ _ e=>h.cell hS e,h.size⟩
theorem Cls.cell {w w':World} (h:Cls w w') {a:Addr} {u:Value} (e:w.cell? a=some u):w'.cell? a=some u:=h.1 a u e
theorem EntRef.mv {S:Nat→Prop} {w0 w w':World} {base:Nat} {v:Value} {qs:List (EntP×Value)} (h:EntRef w0 w base v qs) (hm:Mv S w w') (hS:AllMap w S):EntRef w0 w' base v qs:=
 ⟨own_mv h.1 hm fun k hk=>.inr (hS k hk),h.2⟩
theorem ge_elen {es:List EntP} (h1:es.length≤1048576) (h2:∀e∈es,GE e 1048576):ELen es:=
 ⟨by omega,fun e he=>⟨by have:=(h2 e he).1;omega,by have:=(h2 e he).2.1;omega,fun a ha=>by have:=((h2 e he).2.2 a ha).2.1;omega⟩⟩
section
variable {w:World} {hs lo px:Nat} {s:Idn.Sch} {ns:List Bs} {es:List IxE} {ta cb:Value} {eb vb:Nat} {g:Bs→Value} {ts:List (Bs×Nat)} {G:Bs→Bs→Option Nat}
theorem put11_any (hI : IxV w hs lo px s ns es ta cb eb vb g ts G) (hG : GdI s ns es) (hlen : es.length < 256) {lo0 : Nat} (hlo : lo0 ≤ hs) (w0 : World) (hb0 : Below lo0 w0 w) (hE : ∀ W, Below lo0 w0 W → Env W ∧ EnvU W) (n : Bs) (hn : n.length ≤ 1000000) (av : Value) (A : List Idn.Att) (hatv : AttsV w w.heap.size av A) (hA7 : Idn.ASm7 A) :
  Calls Tryz.prog 16 #[.pointer (some ⟨px,0,none⟩),.agg #[.string (B n),av]] w fun e w'=>e=.returned (.int .i64 (ixPut es n A).1)∧∃g' G',IxV w' hs lo px s ns (ixPut es n A).2 ta cb eb vb g' ts G'∧GdI s ns (ixPut es n A).2∧Mv (IxS eb ts G) w w'∧(∀k,IxS eb ts G' k→IxS eb ts G k∨w.heap.size≤k)∧Below lo0 w0 w'∧Cls w w':=by
 refine (ixPut_any hI hG (fun W hW=>hE W (hb0.trans (hW.mono hlo))) n hn av A hatv hA7).mono ?_
 rintro e w' ⟨h1,g',G',h2,h3,h4⟩
 exact ⟨h1,g',G',h2,hG.put hn hlen,h3,h4,hb0.trans ((h3.below hI.lowS hI.hsz).mono hlo),Cls.of_mv h3 hI.allMap⟩
end
theorem RetC.open_ {w w':World} {r:List Bs×Bool} {e:Ending} (h:RetC w r e w'):∃A c,e=.returned (.tuple #[.slice A r.1.length c,.bool r.2])∧StrsV w' w'.heap.size (.slice A r.1.length c) r.1∧Below w.heap.size w w':=by
 obtain ⟨v,h1,h2,h3⟩:=h
 obtain ⟨A,c,rfl⟩:=own_shape h2
 exact ⟨A,c,h1,StrsV.of_own h2,h3⟩
def Dj (eb vb:Nat) (ts:List (Bs×Nat)) (G:Bs→Bs→Option Nat) (eb' vb':Nat) (ts':List (Bs×Nat)) (G':Bs→Bs→Option Nat):Prop:=(∀k,IxS eb ts G k→k≠vb'∧¬IxS eb' ts' G' k)∧∀k,IxS eb' ts' G' k→k≠vb
section
variable {w w':World} {hs lo px:Nat} {s:Idn.Sch} {ns:List Bs} {es:List IxE} {ta cb:Value} {eb vb:Nat} {g:Bs→Value} {ts:List (Bs×Nat)} {G:Bs→Bs→Option Nat} {hs' lo' px':Nat} {s':Idn.Sch} {ns':List Bs} {es':List IxE} {ta' cb':Value} {eb' vb':Nat} {g':Bs→Value} {ts':List (Bs×Nat)} {G' G2:Bs→Bs→Option Nat}
theorem IxV.ltS (h:IxV w hs lo px s ns es ta cb eb vb g ts G) {k:Nat} (hk:IxS eb ts G k):k<w.heap.size:=by
 obtain ⟨es,c,e⟩:=h.allMap k hk
 exact (Array.getElem?_eq_some_iff.1 e).1
theorem Dj.symm (h:Dj eb vb ts G eb' vb' ts' G'):Dj eb' vb' ts' G' eb vb ts G:=⟨fun k hk=>⟨h.2 k hk,fun h'=>(h.1 k h').2 hk⟩,fun k hk=>(h.1 k hk).1⟩
theorem Dj.turn (h:Dj eb vb ts G eb' vb' ts' G') (hy:IxV w hs' lo' px' s' ns' es' ta' cb' eb' vb' g' ts' G') (hn:∀k,IxS eb ts G2 k→IxS eb ts G k∨w.heap.size≤k):Dj eb vb ts G2 eb' vb' ts' G':=
 ⟨fun k hk=>by
  rcases hn k hk with h1|h1
  ·exact h.1 k h1
  ·exact ⟨fun e=>by have:=hy.vl.top.lt;omega,fun h2=>by have:=hy.ltS h2;omega⟩,h.2⟩
theorem IxV.other (hy:IxV w hs' lo' px' s' ns' es' ta' cb' eb' vb' g' ts' G') (hd:Dj eb vb ts G eb' vb' ts' G') (hm:Mv (IxS eb ts G) w w') (hall:AllMap w (IxS eb ts G)):IxV w' hs' lo' px' s' ns' es' ta' cb' eb' vb' g' ts' G':=
 hy.mv hm fun k hk=>⟨(hd.1 k hk).1,(hd.1 k hk).2,.inl (hall k hk)⟩
theorem Dj.of (hx:IxV w hs lo px s ns es ta cb eb vb g ts G) (hy:IxV w' hs' lo' px' s' ns' es' ta' cb' eb' vb' g' ts' G') (hh:w.heap.size≤hs'):Dj eb vb ts G eb' vb' ts' G':=
 ⟨fun k hk=>by
  have h1:=hx.ltS hk
  exact ⟨fun e=>by have:=hy.hsv;omega,fun h2=>by have:=hy.lowS k h2;omega⟩,fun k hk=>by
  have h1:=hy.lowS k hk
  have h2:=hx.vl.top.lt
  omega⟩
end
end Go.Proofs.YtbkkchhimhlhcaaGreatDoor
/- Queries and the data of identitylaw12 handed over. -/
namespace Go.Proofs.YtbkkchhimhlhcaaGreatDoor
open Go.RowKit Go.Sort Go.ChangeShapes Go.WideShapes Go.ChangeAt
open Idn (L B Bs)
section
variable {H:Type} {enc:TypeId×Value→H} {W:World}
theorem cellsOf_Qry:Tryz.prog.cellsOf 55=9:=by kernel_rfl
theorem cellsOf_scope:Tryz.prog.cellsOf 53=1:=by kernel_rfl
theorem cellsOf_fl5:Tryz.prog.cellsOf 31=5:=by kernel_rfl
theorem cellsOf_in1:Tryz.prog.cellsOf 3=1:=by kernel_rfl
theorem query_open {r : Reach} {b0 : Nat} {v : Value} {d : DataW H} {p : List MemPlace} (hv : Value.okWide Tryz.prog W r b0 55 v) (h : DataW.Trod enc Tryz.prog W 0 (fun _ => true) true 55 v d p) :
    ∃n q,QryV W W.heap.size n v q∧fLen q.flt∧q.names.length≤9223372036854775807:=by
 obtain ⟨cs,rfl,hsz⟩:=okWide_struct Tryz.underlying55 hv
 obtain ⟨fuel,hf⟩:=h
 have hf':DataW.trod enc Tryz.prog W 0 (fun _=>true) true fuel 55 cs.toList=some (d,p):=by simpa[Value.cells]using hf
 obtain ⟨xs,n,rfl,hyy,hl,hxs,hg⟩:=DataW.trod_struct Tryz.underlying55 hf'
 rw[cellsOf_Qry]at hl
 obtain ⟨l⟩:=cs
 dsimp only at hl hg
 match l,hl with
 |[a0,a1,a2,a3,a4,a5,a6,a7,a8],_=>
 match xs,hxs with
 |[y0,y1,y2,y3,y4],_=>
 have h0:DataW.trod enc Tryz.prog W 0 (fun _=>true) true n 9 [a0]=some y0:=by have:=hg 0 _ rfl;simpa[cellsOf_string]using this
 have h1:DataW.trod enc Tryz.prog W 0 (fun _=>true) true n 53 [a1]=some y1:=by have:=hg 1 _ rfl;simpa[cellsOf_string,cellsOf_scope]using this
 have h2:DataW.trod enc Tryz.prog W 0 (fun _=>true) true n 31 [a2,a3,a4,a5,a6]=some y2:=by have:=hg 2 _ rfl;simpa[cellsOf_string,cellsOf_scope,cellsOf_fl5]using this
 have h3:DataW.trod enc Tryz.prog W 0 (fun _=>true) true n 26 [a7]=some y3:=by have:=hg 3 _ rfl;simpa[cellsOf_string,cellsOf_scope,cellsOf_fl5,cellsOf_strs]using this
 have h4:DataW.trod enc Tryz.prog W 0 (fun _=>true) true n 3 [a8]=some y4:=by have:=hg 4 _ rfl;simpa[cellsOf_string,cellsOf_scope,cellsOf_fl5,cellsOf_strs,cellsOf_in1]using this
 obtain ⟨s0,e0,f0,_⟩:=DataW.trod_string Tryz.underlying9 h0
 obtain ⟨k1,e1,_,_⟩:=DataW.trod_int Tryz.underlying53 h1
 obtain ⟨f,_,e2,e3⟩:=flt_open n _ _ h2
 obtain ⟨ns,g3,l3⟩:=strs_open h3
 obtain ⟨k4,e4,_,_⟩:=DataW.trod_int Tryz.underlying3 h4
 simp at e0 e1 e4
 subst e0 e1 e4
 cases n with
 |zero=>exact e2.elim
 |succ n=>
  obtain ⟨pv,kv,e,hp,hk⟩:=e2
  simp only[List.cons.injEq,and_true]at e
  obtain ⟨rfl,rfl,rfl,rfl,rfl⟩:=e
  exact ⟨n,⟨L s0,k1,f,ns,k4⟩,⟨_,_,_,by simp[sv,Idn.B_L],⟨_,_,rfl,hp,hk⟩,g3⟩,e3,l3⟩
def GQ (q:Qry) (n:Nat):Prop:=q.base.length≤n∧fG n q.flt∧GS q.names n
theorem GQ.mono {q:Qry} {n m:Nat} (h:GQ q n) (hn:n≤m):GQ q m:=⟨Nat.le_trans h.1 hn,fG_mono hn _ h.2.1,h.2.2.mono hn⟩
theorem GQ.len {q:Qry} (h:GQ q 1048576):fLen q.flt∧q.names.length≤9223372036854775807:=⟨fG_len (by omega) _ h.2.1,by have:=h.2.2.1;omega⟩
def GD (d:Dat) (n:Nat):Prop:=GSch d.sch n∧GS d.roots n∧(d.ents.length≤n∧∀e∈d.ents,GE e n)∧GS d.idx n
theorem GD.mono {d:Dat} {n m:Nat} (h:GD d n) (hn:n≤m):GD d m:=⟨h.1.mono hn,h.2.1.mono hn,⟨Nat.le_trans h.2.2.1.1 hn,fun e he=>(h.2.2.1.2 e he).mono hn⟩,h.2.2.2.mono hn⟩
theorem GD.ssm {d:Dat} (h:GD d 1048576):SSm d.sch:=h.1.ssm (by decide)
theorem GD.len {d:Dat} (h:GD d 1048576):DLen d:=by
 obtain ⟨⟨⟨h1,_⟩,h2,h3⟩,h4,h5,h6⟩:=h
 refine ⟨by omega,by omega,fun c hc=>?_,by have:=h4.1;omega,by have:=h5.1;omega,fun e he=>?_,by have:=h6.1;omega⟩
 ·obtain ⟨_,_,q1,q2⟩:=h3 c hc
  exact ⟨by have:=q1.1;omega,by have:=q2.1;omega⟩
 ·exact (ge_elen h5.1 h5.2).2 e he
end
end Go.Proofs.YtbkkchhimhlhcaaGreatDoor
/- Cells of a block of one's own behind a store into it. -/
namespace Go.Proofs.YtbkkchhimhlhcaaGreatDoor
open Go.RowKit
theorem cell_set {W:World} {b i j:Nat} {u o:Value} (h:W.cell? ⟨b,j,none⟩=some o):(W.setCell ⟨b,i,none⟩ u).cell? ⟨b,j,none⟩=some (if i=j then u else o):=by
 by_cases e:i=j
 ·subst e
  rw[if_pos rfl]
  exact World.cell?_setCell_same _ _ _ h
 ·rw[if_neg e,World.cell?_setCell_other _ _ _ _ (by intro x;injection x with x1 x2;omega)]
  exact h
end Go.Proofs.YtbkkchhimhlhcaaGreatDoor
/- The program's tree in memory. -/
namespace Go.Proofs.YtbkkchhimhlhcaaGreatDoor
open Go.RowKit Go.Sort
open Idn (L B Bs)
def treF (es:List IxE) (g:Bs→Value):Bs→Option Value:=fun n=>if hasE es n then some (g n)else none
structure TrV (w:World) (hs lo pt:Nat) (es:List IxE) (mb:Nat) (g:Bs→Value):Prop where
 c0:w.cell? ⟨pt,0,none⟩=some (.map (some mb))
 ent:MapF w mb (treF es g)
 att:∀e∈es,∃ps,AttOwn w lo (g e.1) ps∧ps.map (·.1)=e.2
 hsz:hs≤w.heap.size
 hsp:hs≤pt
 hsm:hs≤mb
 loz:lo≤w.heap.size
section
variable {w w':World} {hs lo pt:Nat} {es:List IxE} {mb:Nat} {g:Bs→Value}
theorem treF_some {n:Bs}:treF es g n≠none↔n∈namesE es:=by
 unfold treF
 rw[mem_names]
 cases hasE es n<;>simp
theorem treF_mem {n:Bs} {A:List Idn.Att} (h:(n,A)∈es):treF es g n=some (g n):=by
 unfold treF
 rw[if_pos (hasE_iff.2 ⟨A,h⟩)]
theorem treF_put (h:OkE es) {n:Bs} (hn:validN n=true) (A:List Idn.Att) (v:Value):(fun y=>if y=n then some v else treF es g y)=treF (insE n A es) fun y=>if y=n then v else g y:=by
 funext y
 unfold treF
 rw[hasE_ins h hn]
 by_cases e:y=n
 ·subst e;simp
 ·simp[e]
theorem TrV.mapb (h:TrV w hs lo pt es mb g):∃es c,w.heap[mb]?=some (.map es c):=h.ent.isMap
theorem TrV.lt (h:TrV w hs lo pt es mb g):mb<w.heap.size:=h.ent.lt
theorem TrV.ptlt (h:TrV w hs lo pt es mb g):pt<w.heap.size:=World.block_lt_of_cell? _ _ h.c0
theorem TrV.ne (h:TrV w hs lo pt es mb g):pt≠mb:=fun e=>by
 have hc:=h.c0
 obtain ⟨es',c,hm⟩:=h.mapb
 unfold World.cell? at hc
 rw[e,hm]at hc
 cases hc
theorem TrV.mv {S:Nat→Prop} (h:TrV w hs lo pt es mb g) (hm:Mv S w w') (hS:∀k,S k→k≠mb∧((∃es c,w.heap[k]?=some (.map es c))∨(k≠pt∧k<lo))):TrV w' hs lo pt es mb g:=by
 refine { h with
  c0:=?_
  ent:=h.ent.mv hm fun hk=>(hS _ hk).1 rfl
  att:=fun e he=>?_
  hsz:=Nat.le_trans h.hsz hm.size
  loz:=Nat.le_trans h.loz hm.size }
 ·have hn : ¬ S pt := fun hk => by
   rcases (hS pt hk).2 with ⟨es',c,e⟩|⟨e1,_⟩
   ·have hc:=h.c0
    unfold World.cell? at hc
    rw[e]at hc
    cases hc
   ·exact e1 rfl
  exact (World.cell?_of_block (hm.block pt h.ptlt hn)).trans h.c0
 ·obtain ⟨ps,h1,h2⟩:=h.att e he
  refine ⟨ps,h1.mv hm fun k hk=>?_,h2⟩
  rcases (hS k hk).2 with h3|⟨_,h3⟩
  ·exact .inr h3
  ·exact .inl h3
theorem TrV.keep (h:TrV w hs lo pt es mb g) (hb:Below w.heap.size w w'):TrV w' hs lo pt es mb g:=
 h.mv (S:=fun _=>False) (Mv.of_below hb _) fun _ h=>h.elim
theorem TrV.entry (h:TrV w hs lo pt es mb g) {n:Bs} {A:List Idn.Att} (hA:(n,A)∈es):AttsV w w.heap.size (g n) A:=by
 obtain ⟨ps,h1,h2⟩:=h.att _ hA
 dsimp only at h1 h2
 exact h1.atts h2
end
end Go.Proofs.YtbkkchhimhlhcaaGreatDoor
/- Rows of entries of the call's own: one entry appended. -/
namespace Go.Proofs.YtbkkchhimhlhcaaGreatDoor
open Go.RowKit Go.Sort
open Idn (L B Bs drop_L take_L size_L)
theorem AttRow.grownP {w w':World} {base base':Nat} {v v0:Value} {m:Nat} {xs:List Value} {ps:List (Idn.Att×Value)} (h:AttRow w base v ps) (hown:w.ownsRow base' 48 2 v0 m xs) (hg:w.grownBy w' v0.ownBlock):AttRow w' base v ps:=
 ⟨own_kept h.1 hg fun g h1 h2=>own_apart2 hown h.1 (by decide) g h2 h1,fun p hp=>own_kept (h.2 p hp) hg fun g h1 h2=>own_apart2 hown (h.2 p hp) (by decide) g h2 h1⟩
theorem EntRow.low {w:World} {base b:Nat} {v:Value} {qs:List (EntP×Value)} (h:EntRow w base v qs) (hb:b≤base):EntRow w b v qs:=
 ⟨own_base h.1 hb,fun q hq=>by obtain ⟨ps,h1,h2⟩:=h.2 q hq;exact ⟨ps,h1.low hb,h2⟩⟩
theorem EntRow.push {w w' : World} {base : Nat} {v v' : Value} {qs : List (EntP × Value)} {q : EntP × Value} (h : EntRow w base v qs) (hq : ∃ ps, AttRow w base q.2 ps ∧ ps.map (·.1) = q.1.2)
  (hown:w'.ownsRow base 48 2 v' (qs.length+1) (rowEn qs++[sv q.1.1,q.2])) (hg:w.grownBy w' v.ownBlock):EntRow w' base v' (qs++[q]):=by
 refine ⟨by rw[List.length_append,rowEn_app];exact hown,fun x hx=>?_⟩
 rcases List.mem_append.1 hx with hx|hx
 ·obtain ⟨ps,h1,h2⟩:=h.2 x hx
  exact ⟨ps,h1.grownP h.1 hg,h2⟩
 ·simp at hx;subst hx
  obtain ⟨ps,h1,h2⟩:=hq
  exact ⟨ps,h1.grownP h.1 hg,h2⟩
theorem EntRow.len {w:World} {base n c:Nat} {A:Option Addr} {qs:List (EntP×Value)} (h:EntRow w base (.slice A n c) qs):n=qs.length:=by
 obtain ⟨A',c',e⟩:=own_shape h.1
 injection e
section
variable {w:World} {ops:Array Oper} {rest:List Oper} {o:Oper} {a:Act} {Q:Exit→Act→World→Prop}
theorem wpList_pushE {w2 : World} (hgd : o.guard = none) (s x : Operand) (ho : o.op = .call { callee := .builtin .append, args := #[s, x], argTypes := #[27, 27] })
  (base:Nat) (v:Value) (qs:List (EntP×Value)) (hrow:EntRow w base v qs) (hs:a.eval s=v) (q:EntP×Value) (hq:∃ps,AttRow w base q.2 ps∧ps.map (·.1)=q.1.2) (hx:a.eval x=.slice (some ⟨w.heap.size,0,none⟩) 1 1)
  (hn:qs.length≤1000000) (hbase:base≤w.heap.size)
  (hK:∀A' c' w',EntRow w' base (.slice A' (qs.length+1) c') (qs++[q])→w.grownBy w' v.ownBlock→Below base w w'→wpList Tryz.prog ops Q rest (a.put o.dst (.slice A' (qs.length+1) c')) w') (hw2:w2=w.alloc (.cells #[sv q.1.1,q.2] 48)) :
  wpList Tryz.prog ops Q (o :: rest) a w2:=by
 have h1c:q.2.oneCell'=true:=by
  obtain ⟨ps,h1,_⟩:=hq
  obtain ⟨A,c,e⟩:=own_shape h1.1
  rw[e];rfl
 refine wpList_push (w:=w) hgd s x 27 ho base 48 (.agg #[.string ⟨#[]⟩,.slice none 0 0]) 2 40 Tryz.underlying27 info_ent rfl (by decide) v qs.length (rowEn qs) hrow.1 hs [sv q.1.1,q.2] hx rfl (by intro u hu;simp at hu;rcases hu with rfl|rfl<;>first|rfl|exact h1c) (by omega) hbase ?_ hw2
 intro v' w' hown hg _ hb _
 have hR:=hrow.push hq hown hg
 obtain ⟨A',c',rfl⟩:=own_shape hown
 exact hK A' c' w' hR hg hb
theorem step_pushE {w2 : World} {K : Act → World → Prop} {E : Prop} (hgd : o.guard = none) (s x : Operand) (ho : o.op = .call { callee := .builtin .append, args := #[s, x], argTypes := #[27, 27] })
  (base:Nat) (v:Value) (qs:List (EntP×Value)) (hrow:EntRow w base v qs) (hs:a.eval s=v) (q:EntP×Value) (hq:∃ps,AttRow w base q.2 ps∧ps.map (·.1)=q.1.2) (hx:a.eval x=.slice (some ⟨w.heap.size,0,none⟩) 1 1)
  (hn:qs.length≤1000000) (hbase:base≤w.heap.size)
  (hK:∀A' c' w',EntRow w' base (.slice A' (qs.length+1) c') (qs++[q])→w.grownBy w' v.ownBlock→Below base w w'→K (a.put o.dst (.slice A' (qs.length+1) c')) w') (hw2:w2=w.alloc (.cells #[sv q.1.1,q.2] 48)) :
  if Region.wanted o (yielded ops a.tmps)=true then Oper.wp Tryz.prog o a w2 K Q else E:=by
 have h1c:q.2.oneCell'=true:=by
  obtain ⟨ps,h1,_⟩:=hq
  obtain ⟨A,c,e⟩:=own_shape h1.1
  rw[e];rfl
 refine step_push (w:=w) hgd s x 27 ho base 48 (.agg #[.string ⟨#[]⟩,.slice none 0 0]) 2 40 Tryz.underlying27 info_ent rfl (by decide) v qs.length (rowEn qs) hrow.1 hs [sv q.1.1,q.2] hx rfl (by intro u hu;simp at hu;rcases hu with rfl|rfl<;>first|rfl|exact h1c) (by omega) hbase ?_ hw2
 intro v' w' hown hg _
 have hR:=hrow.push hq hown hg
 obtain ⟨A',c',rfl⟩:=own_shape hown
 exact hK A' c' w' hR hg ((Below.refl base w).grown hg hbase (fun k hk=>(hrow.1.lt k hk).1))
end
end Go.Proofs.YtbkkchhimhlhcaaGreatDoor
/- attrs.Pick. -/
namespace Go.Proofs.YtbkkchhimhlhcaaGreatDoor
open Go.RowKit Go.Sort
open Idn (L B Bs drop_L take_L size_L)
def wants (names:List Bs) (n:Bs):Bool:=names.isEmpty||(names.map Idn.lower).contains n
theorem wants_any (names:List Bs) (n:Bs):wants names n=(names.isEmpty||names.any fun m=>decide (Idn.lower m=n)):=by
 unfold wants
 congr 1
 induction names with
 |nil=>rfl
 |cons m l ih=>
  rw[List.map_cons,List.contains_cons,ih,List.any_cons]
  congr 1
  by_cases h:Idn.lower m=n
  ·rw[decide_eq_true h,beq_iff_eq];exact h.symm
  ·rw[decide_eq_false h,beq_eq_false_iff_ne];exact fun e=>h e.symm
theorem fn_pick1:FnB 225:=by intro a w;kernel_rfl
theorem fn_pick11:FnB 226:=by intro a w;kernel_rfl
theorem pick11_any (m : Bs) (q : Nat) (n : Bs) (w : World) (hm : m.length ≤ 1000000000) (hq : w.cell? ⟨q, 0, none⟩ = some (.string (B n))) :
  Calls Tryz.prog 226 #[.string (B m),.pointer (some ⟨q,0,none⟩)] w fun e w'=>e=.returned (.bool (decide (Idn.lower m=n)))∧Below w.heap.size w w':=by
 have hL:=fun W=>lower_any (B m) W (by rw[Idn.size_B];omega)
 simp only[Idn.L_B]at hL
 generalize Idn.lower m=lm at *
 have ht:((B lm).toList==(B n).toList)=decide (lm=n):=by rw[str_beq,Idn.L_B,Idn.L_B]
 generalize decide (lm=n)=d at *
 have k0:=cell_regrown hq
 have q1:=cq (W:=w) fun W' _=>hL W'
 go_enter Tryz.func226,Tryz.ntmps226
 go_wp2
 refine wp_region_quiet_below (by kernel_rfl) (by kernel_rfl) ?_
 repeat (first|go_big_quiet_step ((go_at_call 125;exact q1 _ _))|quiet_step ((go_at_call 125;exact q1 _ _)))
 refine wpQuiet_nil ?_
 intro _ hw'
 obtain ⟨⟨dq,osq⟩,hw''⟩:=hw'
 subst hw''
 have hb2:=below_regrown w dq osq
 generalize grow (redrawn w dq) osq=W2 at hb2⊢
 go_wp2
 go_ret
 exact ⟨rfl,hb2⟩
theorem pick1_any (n : Bs) (Av : Option Addr) (lv cv : Nat) (p : Nat) (An : Option Addr) (cn : Nat) (names : List Bs) (w : World) (hp : w.cell? ⟨p, 0, none⟩ = some (.slice An names.length cn)) (hN : StrsV w w.heap.size (.slice An names.length cn) names) (hl : names.length ≤ 1000000) (hx : ∀ m ∈ names, m.length ≤ 1000000) :
  Calls Tryz.prog 225 #[.agg #[.string (B n),.slice Av lv cv],.pointer (some ⟨p,0,none⟩)] w fun e w'=>e=.returned (.bool (wants names n))∧Below w.heap.size w w':=by
 rw[wants_any]
 by_cases h0:names=[]
 ·have hI:((names.length:Int)==0)=true:=by rw[h0];rfl
  have hI':(names.length:Int)=0:=by rw[h0];rfl
  have he:names.isEmpty=true:=by rw[h0];rfl
  rw[he]
  clear h0 he
  go_enter Tryz.func225,Tryz.ntmps225
  go_upto_region 1 with fail
  with_reducible refine gen1 (R:=fun W=>Code.wp Tryz.prog _ _ _ W) ?_
  intro W hbW hszW hc _
  replace hp:=cell_later hbW hp
  clear hc hszW
  go_wp2
  go_ret
  exact ⟨rfl,hbW⟩
 ·have hlp:0<names.length:=List.length_pos_iff.2 h0
  have hI:((names.length:Int)==0)=false:=by simp;omega
  have hI':¬(names.length:Int)=0:=by omega
  have he:names.isEmpty=false:=by cases names<;>simp_all
  rw[he,Bool.false_or]
  clear h0 he
  go_enter Tryz.func225,Tryz.ntmps225
  go_upto_region 1 with fail
  with_reducible refine gen1 (R:=fun W=>Code.wp Tryz.prog _ _ _ W) ?_
  intro W hbW hszW hc _
  have q0:W.cell? ⟨w.heap.size,0,none⟩=some (.string (B n)):=hc 0 _ rfl
  replace hp:=cell_later hbW hp
  have hF:=hasF_any 226 #[.pointer (some ⟨w.heap.size,0,none⟩)] fn_pick11 (fun m=>decide (Idn.lower m=n)) _ names W (SlV.mono (SlV.keep hN hbW) hbW.size) (by omega) fun V m hm hV=>pick11_any m _ n V (by have:=hx m hm;omega) (cell_later hV q0)
  clear hc hszW
  obtain ⟨r,hr⟩:∃r,r=names.any fun m=>decide (Idn.lower m=n):=⟨_,rfl⟩
  rw[←hr]at hF
  have HRR:=Lib.hid hr
  clear hr
  go_wp2_with (go_at_call 208;refine hF.mono ?_;rintro e w1 ⟨rfl,hb1⟩)
  go_ret
  have hr:=HRR.out
  subst hr
  exact ⟨rfl,hbW.trans (hb1.mono hbW.size)⟩
theorem pick_any (v : Value) (l : List Idn.Att) (nv : Value) (names : List Bs) (w : World) (hv : AttsV w w.heap.size v l) (hs : Idn.ASm7 l) (hN : StrsV w w.heap.size nv names) (hnl : names.length ≤ 1000000) (hx : ∀ m ∈ names, m.length ≤ 1000000) :
  Calls Tryz.prog 175 #[v,nv] w fun e w'=>∃v' qs,e=.returned v'∧AttRow w' w.heap.size v' qs∧qs.map (·.1)=pickA l names∧Below w.heap.size w w':=by
 have hq1:=rSorted_len l
 have hl1:=hs.1
 have HR:Hid (pickA l names=(Idn.rSorted l).filter fun a=>wants names a.name):=rfl
 obtain ⟨A0,c0,rfl,hc0⟩:=SlV.shape hv
 obtain ⟨An,cn,rfl,_⟩:=SlV.shape hN
 have hF:=fn_pick1
 unfold FnB at hF
 go_enter Tryz.func175,Tryz.ntmps175
 go_upto_region 3 with fail
 with_reducible refine gen1 (R:=fun W=>Code.wp Tryz.prog _ _ _ W) ?_
 intro W hbW hszW hc _
 have n0:W.cell? ⟨w.heap.size,0,none⟩=some (.slice An names.length cn):=hc 0 _ rfl
 have hS:=sortedG_any _ l W (AttsV.mono (AttsV.keep hv hbW) hbW.size) hs
 have hP:=fun (n:Bs) (Av:Option Addr) (lv cv:Nat) V (hV:Below W.heap.size W V)=>pick1_any n Av lv cv w.heap.size An cn names V (cell_later hV n0) (SlV.mono (SlV.keep (SlV.keep hN hbW) (hV.mono hbW.size)) (Nat.le_trans hbW.size hV.size)) hnl hx
 generalize Idn.rSorted l=q at *
 clear hv hs hc hszW hN n0 hx
 go_wp2_with fail
 refine hS.mono ?_
 rintro e w1 ⟨v1,ps,rfl,hrow0,hps,hb1⟩
 have hrow:AttRow w1 W.heap.size v1 ps:=⟨hrow0.1,hrow0.2.1⟩
 obtain ⟨A1,c1,hv1⟩:=own_shape hrow.1
 subst hv1
 have hpl:ps.length=q.length:=by rw[←hps,List.length_map]
 have hpl9:ps.length≤900:=by omega
 have HPS:=Lib.hid hps
 clear hS hps hpl hrow0
 go_wp2_with fail
 go_loopw [6,13] (fun o i wr=>∃(k:Nat) (qs:List (Idn.Att×Value)),k≤ps.length∧i=.int .i64 k∧wr.ownsRow w1.heap.size 96 2 o qs.length (rowA qs)∧Below w1.heap.size w1 wr∧Hid (qs=(ps.take k).filter fun p=>wants names p.1.name)∧qs.length≤k) (fun _ i _=>ps.length-(intOf i).toNat)
 case atStart=>exact ⟨0,[],Nat.zero_le _,rfl,World.ownsRow_nil _ _ _ _,Below.refl _ _,rfl,Nat.le_refl _⟩
 case round=>
  obtain ⟨k,qs,hk,rfl,hown,hb,hinv,hql⟩:=hrel
  obtain ⟨wo,hwo⟩:∃wo:World,wo=wr:=⟨_,rfl⟩
  subst hwo
  by_cases hlt:k<ps.length
  ·have hltI:(k:Int)<(ps.length:Int):=by omega
   obtain ⟨g,hA1,hcell⟩:=own_open (own_below hrow.1 hb) (by omega)
   subst hA1
   obtain ⟨rx0,rx1⟩:=rowA_at ps k _ (List.getElem?_eq_getElem hlt)
   have d0:=hcell _ _ rx0
   have d1:=hcell _ _ rx1
   have hstep:=filter_take8 (fun p:Idn.Att×Value=>wants names p.1.name) ps k hlt
   have hox:=hrow.2 _ (List.getElem_mem hlt)
   clear hcell rx0 rx1
   generalize ps[k]=px at *
   obtain ⟨⟨xn,xv⟩,xu⟩:=px
   obtain ⟨Ax,cx,hxu⟩:=own_shape hox
   dsimp only at d0 d1 hstep hxu
   subst hxu
   unfold sv at d0
   go_upto_region 6 with fail
   with_reducible refine gen1 (R:=fun W=>Code.wp Tryz.prog _ _ _ W) ?_
   intro V hbV hszV hcV _
   have b0:V.cell? ⟨wo.heap.size,0,none⟩=some (.string (B xn)):=hcV 0 _ rfl
   have b1:V.cell? ⟨wo.heap.size,1,none⟩=some (.slice Ax xv.length cx):=hcV 1 _ rfl
   have hbwV:Below W.heap.size W V:=hb1.trans ((hb.trans (hbV.mono hb.size)).mono hb1.size)
   have hP1:=hP xn Ax xv.length cx V hbwV
   have hownV:=own_below hown hbV
   have hb1V:=hb.trans (hbV.mono hb.size)
   clear hcV hszV hP hox hbwV
   cases hw:wants names xn
   ·rw[hw]at hP1 hstep
    have HX:Hid (qs=(ps.take (k+1)).filter fun p=>wants names p.1.name):=by show _=_;rw[hstep,if_neg (by decide),List.append_nil,hinv.out]
    clear hstep hw hinv
    go_wp2_with (refine hP1.mono ?_;rintro e w5 ⟨rfl,hb5⟩)
    go_roundw
    case rel=>exact ⟨k+1,qs,by omega,by go_num,own_below hownV hb5,hb1V.trans (hb5.mono hb1V.size),HX,by omega⟩
    case measure=>simp[intOf];omega
   ·rw[hw]at hP1 hstep
    have HX:Hid (qs++[(⟨xn,xv⟩,.slice Ax xv.length cx)]=(ps.take (k+1)).filter fun p=>wants names p.1.name):=by show _=_;rw[hstep,if_pos rfl,hinv.out]
    clear hstep hw hinv
    go_upto_region 7 with (refine hP1.mono ?_;rintro e w5 ⟨rfl,hb5⟩)
    replace b0:=cell_later hb5 b0
    replace b1:=cell_later hb5 b1
    have hown5:=own_below hownV hb5
    have hb15:=hb1V.trans (hb5.mono hb1V.size)
    clear hownV hown hP1
    go_wp2_with (at_builtin;refine wpList_push w5 rfl _ _ 46 rfl w1.heap.size 96 (.agg #[.string ⟨#[]⟩,.slice none 0 0]) 2 40 Tryz.underlying46 info_attr rfl (by decide) _ qs.length _ hown5 rfl [.string (B xn),.slice Ax xv.length cx] rfl rfl (by intro u hu;simp at hu;rcases hu with rfl|rfl<;>rfl) (by omega) hb15.size ?_ rfl)
    intro v9 w9 hown9 _ _ hb9 _
    clear hown5
    go_wp2
    go_roundw
    case rel=>exact ⟨k+1,qs++[(⟨xn,xv⟩,.slice Ax xv.length cx)],by omega,by go_num,by rw[List.length_append,rowA_snoc];exact hown9,hb15.trans hb9,HX,by rw[List.length_append];simp;omega⟩
    case measure=>simp[intOf];omega
  ·have hltI:¬(k:Int)<(ps.length:Int):=by omega
   have hqs:qs=ps.filter fun p=>wants names p.1.name:=by rw[hinv.out,List.take_of_length_le (by omega)]
   have HX:Hid (qs.map (·.1)=pickA l names):=by
    show _=_
    rw[HR.out,←HPS.out,hqs,List.filter_map];rfl
   have HM:Hid (∀p∈qs,p∈ps):=fun p hp=>by rw[hqs]at hp;exact (List.mem_filter.1 hp).1
   clear hinv hqs HR hP
   go_wp2_with fail
   go_ret
   exact ⟨_,rfl,qs,⟨own_base hown (Nat.le_trans hbW.size hb1.size),fun p hp=>own_base (own_below (hrow.2 p (HM.out p hp)) hb) hbW.size⟩,HX.out,hbW.trans ((hb1.trans (hb.mono hb1.size)).mono hbW.size)⟩
end Go.Proofs.YtbkkchhimhlhcaaGreatDoor
/- Plain laws of names: the reference's Under, its parts. -/
namespace Go.Proofs.YtbkkchhimhlhcaaGreatDoor
open Go.RowKit Go.Sort
open Idn (L B Bs)
theorem check_drop {l:List Idn.Pr} (k:Nat) (h:Idn.check l=0):Idn.check (l.drop k)=0:=by
 rw[Idn.check_iff]at h⊢
 exact ⟨fun q hq=>h.1 q (List.mem_of_mem_drop hq),by have:=h.2;rw[List.length_drop];omega⟩
theorem parts_normal {s:Bs} (h:validN s=true):partsN s=Idn.normal s:=by
 obtain ⟨l,h1,h2,h3⟩:=valid_form h
 have hn:(Idn.normal s).1=(Idn.parse s).1:=by
  have hv:(Idn.normal s).2=true:=by rw[normal_valid,h]
  unfold Idn.normal at hv⊢
  split
  ·rename_i e;rw[if_pos e]at hv;cases hv
  ·rfl
 unfold partsN
 rw[if_pos h,←hn,h3]
theorem parts_none {s:Bs} (h:validN s=false):partsN s=([],false):=by
 unfold partsN
 rw[if_neg (by rw[h];decide)]
theorem normal_none {s:Bs} (h:validN s=false):(Idn.normal s).2=false:=by rw[normal_valid,h]
theorem under_law {s b:Bs} (hs:validN s=true) (hb:validN b=true) (hl:(Idn.normal b).1.length≤(Idn.normal s).1.length):((Idn.format ((Idn.normal s).1.drop ((Idn.normal s).1.length-(Idn.normal b).1.length))).1==b)=nmUnd s b:=by
 obtain ⟨l,h1,h2,h3⟩:=valid_form hs
 obtain ⟨m,g1,g2,g3⟩:=valid_form hb
 have g3':=g3
 unfold nmUnd lastP
 rw[h3,g3]at hl⊢
 dsimp only at hl⊢
 generalize (l.map Idn.nrm).length-(m.map Idn.nrm).length=k
 have e:(l.map Idn.nrm).drop k=(l.drop k).map Idn.nrm:=by rw[List.map_drop]
 rw[e,Idn.format_nrm (check_drop k h1)]
 obtain ⟨q1,q2⟩:=form_valid (check_drop k h1)
 by_cases hh:Idn.fmtJ (l.drop k)=b
 ·rw[beq_iff_eq.2 hh]
  rw[hh,g3']at q2
  injection q2 with q2
  rw[←q2]
  simpa using hl
 ·rw[beq_eq_false_iff_ne.2 hh]
  symm
  simp only[Bool.true_and,decide_eq_false_iff_not]
  rintro ⟨_,e2⟩
  refine hh ?_
  have e3:=congrArg (fun x=>(Idn.format x).1) e2
  rw[Idn.format_nrm (check_drop k h1),Idn.format_nrm g1]at e3
  dsimp only at e3
  rw[e3,g2]
end Go.Proofs.YtbkkchhimhlhcaaGreatDoor
