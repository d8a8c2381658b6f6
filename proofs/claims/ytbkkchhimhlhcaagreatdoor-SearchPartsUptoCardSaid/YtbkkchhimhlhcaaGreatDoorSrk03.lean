/- Part 3 of the proof that identitylaw12.SearchChecks returns true for every data that it may be called with: proof: the package variables hold what the program lays; nothing else is asked. -/
import Derived.Test.YtbkkchhimhlhcaaGreatDoorSrk02
import Derived.Test.YtbkkchhimhlhcaaGreatDoorProg
set_option linter.unusedVariables false
set_option linter.unusedSimpArgs false
set_option maxRecDepth 100000
set_option maxHeartbeats 16000000
/- Lists of strings in memory. -/
namespace Go.Proofs.YtbkkchhimhlhcaaGreatDoor
open Go.RowKit
open Idn (L B Bs drop_L take_L size_L)
def sv (l:Bs):Value:=.string (B l)
theorem extract_B (s:ByteArray) (a b:Nat):s.extract a b=B (((L s).drop a).take (b-a)):=Lib.extract_eq s a b
theorem extract_take (s:ByteArray) (b:Nat):s.extract 0 b=B ((L s).take b):=by rw[extract_B];simp
theorem extract_drop (s:ByteArray) (a:Nat):s.extract a s.size=B ((L s).drop a):=by
 rw[extract_B,List.take_of_length_le]
 rw[List.length_drop,size_L];exact Nat.le_refl _
def strLen:Value→Nat|.string s=>s.size|_=>0
def RetS (w:World) (l:List Bs) (e:Ending) (w':World):Prop:=
 ∃v,e=.returned v∧w'.ownsRow w.heap.size 9 1 v l.length (l.map sv)∧Below w.heap.size w w'
theorem own_shape {w:World} {base:Nat} {e:TypeId} {size:Nat} {v:Value} {n:Nat} {xs:List Value} (h:w.ownsRow base e size v n xs):∃A c,v=.slice A n c:=by
 rcases h.2 with ⟨rfl,rfl⟩|⟨g,cap,cur,rfl,_⟩
 ·exact ⟨none,0,rfl⟩
 ·exact ⟨_,_,rfl⟩
theorem info_str:(Tryz.prog.info? 9).map (fun i=>(i.zero,i.size,i.bytes))=some (some (.string ⟨#[]⟩),1,16):=by kernel_rfl
end Go.Proofs.YtbkkchhimhlhcaaGreatDoor
/- A slice value that reads as a list, element by element: 'SlV E w hi size v l': all its cells lie below block hi. -/
namespace Go.Proofs.YtbkkchhimhlhcaaGreatDoor
open Go.RowKit
open Idn (L B Bs drop_L take_L size_L)
def SlV {α:Type} (E:α→List Value→Prop) (w:World) (hi size:Nat) (v:Value) (l:List α):Prop:=
 ∃A c,v=.slice A l.length c∧l.length≤c∧(0<l.length→∃b off,A=some ⟨b,off,none⟩∧b<hi∧∀(i:Nat) (x:α),l[i]?=some x→∃cs:List Value,cs.length=size∧E x cs∧∀(j:Nat) (u:Value),cs[j]?=some u→w.cell? ⟨b,off+(i*size+j),none⟩=some u)
section
variable {α:Type} {E E':α→List Value→Prop} {w w':World} {hi hi' size:Nat} {v:Value} {l:List α}
theorem SlV.nil (E:α→List Value→Prop) (w:World) (hi size:Nat):SlV E w hi size (.slice none 0 0) []:=⟨none,0,rfl,Nat.le_refl _,fun h=>absurd h (by simp)⟩
theorem SlV.mono (h:SlV E w hi size v l) (hh:hi≤hi'):SlV E w hi' size v l:=by
 obtain ⟨A,c,hv,hc,h⟩:=h
 refine ⟨A,c,hv,hc,fun hp=>?_⟩
 obtain ⟨b,off,hA,hb,hx⟩:=h hp
 exact ⟨b,off,hA,by omega,hx⟩
theorem SlV.keepE (h:SlV E w hi size v l) (hb:Below hi w w') (hE:∀x cs,x∈l→E x cs→E' x cs):SlV E' w' hi size v l:=by
 obtain ⟨A,c,hv,hc,h⟩:=h
 refine ⟨A,c,hv,hc,fun hp=>?_⟩
 obtain ⟨b,off,hA,hbb,hx⟩:=h hp
 refine ⟨b,off,hA,hbb,fun i x hix=>?_⟩
 obtain ⟨cs,h1,h2,h3⟩:=hx i x hix
 exact ⟨cs,h1,hE x cs (List.mem_of_getElem? hix) h2,fun j u hu=>(hb.cell (p:=⟨b,_,none⟩) hbb).trans (h3 j u hu)⟩
theorem SlV.keep (h:SlV E w hi size v l) (hb:Below hi w w'):SlV E w' hi size v l:=h.keepE hb fun _ _ _ h=>h
theorem SlV.shape (h:SlV E w hi size v l):∃A c,v=.slice A l.length c∧l.length≤c:=by
 obtain ⟨A,c,hv,hc,_⟩:=h
 exact ⟨A,c,hv,hc⟩
theorem SlV.at_ {A : Option Addr} {n c : Nat} (h : SlV E w hi size (.slice A n c) l) {k : Nat} (hk : k < l.length) :
  ∃b off,A=some ⟨b,off,none⟩∧b<hi∧∃cs:List Value,cs.length=size∧E l[k] cs∧∀(j:Nat) (u:Value),cs[j]?=some u→w.cell? ⟨b,off+(k*size+j),none⟩=some u:=by
 obtain ⟨A',c',hv,_,h⟩:=h
 injection hv with hA hn hc
 subst hA
 obtain ⟨b,off,hA,hbb,hx⟩:=h (by omega)
 exact ⟨b,off,hA,hbb,hx k _ (List.getElem?_eq_getElem hk)⟩
theorem SlV.len {A:Option Addr} {n c:Nat} (h:SlV E w hi size (.slice A n c) l):n=l.length:=by
 obtain ⟨A',c',hv,_,h⟩:=h
 injection hv
theorem SlV.own {base : Nat} {e : TypeId} {xs : List Value} (h : w.ownsRow base e size v l.length xs)
  (hx:∀(i:Nat) (x:α),l[i]?=some x→∃cs:List Value,cs.length=size∧E x cs∧∀(j:Nat) (u:Value),cs[j]?=some u→xs[i*size+j]?=some u):SlV E w w.heap.size size v l:=by
 rcases h.2 with ⟨rfl,hn⟩|⟨g,cap,cur,rfl,hg,hh,hnc,_,hcs,htake⟩
 ·have:l=[]:=List.eq_nil_of_length_eq_zero hn
  subst this
  exact SlV.nil _ _ _ _
 ·refine ⟨_,_,rfl,hnc,fun hp=>⟨g,0,rfl,(Array.getElem?_eq_some_iff.1 hh).1,fun i x hix=>?_⟩⟩
  obtain ⟨cs,h1,h2,h3⟩:=hx i x hix
  refine ⟨cs,h1,h2,fun j u hu=>?_⟩
  have hxx:=h3 j u hu
  have hj:i*size+j<l.length*size:=by
   have:=(List.getElem?_eq_some_iff.1 hxx).1
   rw[h.1]at this;exact this
  rw[Nat.zero_add,h.cellAt _ hj,hxx]
end
def ES (x:Bs) (cs:List Value):Prop:=cs=[sv x]
abbrev StrsV (w:World) (hi:Nat) (v:Value) (l:List Bs):Prop:=SlV ES w hi 1 v l
theorem StrsV.of_own {w:World} {base:Nat} {v:Value} {l:List Bs} {e:TypeId} (h:w.ownsRow base e 1 v l.length (l.map sv)):StrsV w w.heap.size v l:=
 SlV.own h fun i x hx=>⟨[sv x],rfl,rfl,fun j u hu=>by
  match j,hu with
  |0,hu=>simp at hu;subst hu;simp[hx]⟩
theorem StrsV.cell {w : World} {hi : Nat} {A : Option Addr} {n c : Nat} {l : List Bs} (h : StrsV w hi (.slice A n c) l) {k : Nat} (hk : k < l.length) :
  ∃b off,A=some ⟨b,off,none⟩∧b<hi∧w.cell? ⟨b,off+k,none⟩=some (.string (B l[k])):=by
 obtain ⟨b,off,hA,hb,cs,h1,h2,h3⟩:=h.at_ hk
 cases h2
 exact ⟨b,off,hA,hb,by simpa[sv]using h3 0 _ rfl⟩
def EP (x:Bs×Bs) (cs:List Value):Prop:=cs=[sv x.1,sv x.2]
abbrev PairsV (w:World) (hi:Nat) (v:Value) (l:List (Bs×Bs)):Prop:=SlV EP w hi 2 v l
theorem PairsV.cell {w : World} {hi : Nat} {A : Option Addr} {n c : Nat} {l : List (Bs × Bs)} (h : PairsV w hi (.slice A n c) l) {k : Nat} (hk : k < l.length) :
  ∃b off,A=some ⟨b,off,none⟩∧b<hi∧w.cell? ⟨b,off+k*2,none⟩=some (.string (B l[k].1))∧w.cell? ⟨b,off+k*2+1,none⟩=some (.string (B l[k].2)):=by
 obtain ⟨b,off,hA,hb,cs,h1,h2,h3⟩:=h.at_ hk
 cases h2
 exact ⟨b,off,hA,hb,by simpa[sv]using h3 0 _ rfl,by simpa[sv,Nat.add_assoc]using h3 1 _ rfl⟩
end Go.Proofs.YtbkkchhimhlhcaaGreatDoor
/- Maps keyed by strings, read as the list of their entries in the order of their laying: over any program. -/
namespace Go.Proofs.YtbkkchhimhlhcaaGreatDoor
open Go.RowKit Go.Maps Go.MapKept
open Idn (L B Bs)
def lk (l:List (Bs×Value)) (n:Bs):Option Value:=(l.find? fun p=>decide (p.1=n)).map (·.2)
def MapIs (w:World) (b:Nat) (l:List (Bs×Value)):Prop:=
 ∃es clock,w.heap[b]?=some (.map es clock)∧es.toList.map (fun e=>(e.key,e.val))=l.map (fun p=>(Value.string (B p.1),p.2))
structure But (b:Nat) (w w':World):Prop where
 os:w'.os=w.os
 tape:w'.tape=w.tape
 output:w'.output=w.output
 size:w.heap.size≤w'.heap.size
 block:∀k,k<w.heap.size→k≠b→w'.heap[k]?=w.heap[k]?
section
variable {w w' w'':World} {b:Nat} {l:List (Bs×Value)}
theorem But.below (h:But b w w') {lo:Nat} (hlo:lo≤b) (hw:lo≤w.heap.size):Below lo w w':=
 ⟨h.os,h.tape,h.output,h.size,fun k hk=>h.block k (by omega) (by omega)⟩
theorem But.of_below (h:Below w.heap.size w w') (b:Nat):But b w w':=⟨h.os,h.tape,h.output,h.size,fun k hk _=>h.block k hk⟩
theorem But.refl (b:Nat) (w:World):But b w w:=⟨rfl,rfl,rfl,Nat.le_refl _,fun _ _ _=>rfl⟩
theorem But.trans (h:But b w w') (k:But b w' w''):But b w w'':=
 ⟨k.os.trans h.os,k.tape.trans h.tape,k.output.trans h.output,Nat.le_trans h.size k.size,fun i hi hb=>(k.block i (Nat.lt_of_lt_of_le hi h.size) hb).trans (h.block i hi hb)⟩
theorem MapIs.block (h:MapIs w b l) (hb:w'.heap[b]?=w.heap[b]?):MapIs w' b l:=by
 obtain ⟨es,c,h0,r⟩:=h
 exact ⟨es,c,hb.trans h0,r⟩
theorem MapIs.lt (h:MapIs w b l):b<w.heap.size:=by
 obtain ⟨es,c,h0,r⟩:=h
 exact (Array.getElem?_eq_some_iff.1 h0).1
theorem MapIs.keep (h:MapIs w b l) (hb:Below w.heap.size w w'):MapIs w' b l:=h.block (hb.block b h.lt)
theorem MapIs.keepB (h:MapIs w b l) {lo:Nat} (hb:Below lo w w') (hl:b<lo):MapIs w' b l:=h.block (hb.block b hl)
theorem MapIs.but (h:MapIs w b l) {c:Nat} (hb:But c w w') (hc:b≠c):MapIs w' b l:=h.block (hb.block b h.lt hc)
theorem MapIs.made (w:World):MapIs (w.alloc (.map #[] 0)) w.heap.size []:=⟨#[],0,heap_alloc_new w _,rfl⟩
theorem MapIs.alloc (h:MapIs w b l) (o:Obj):MapIs (w.alloc o) b l:=h.block (Below.heap_alloc _ _ _ h.lt)
theorem bytes_eq (s t:ByteArray):(s==t)=decide (L s=L t):=by
 rw[Bool.eq_iff_iff,MapKept.bytes_beq]
 simp only[decide_eq_true_eq]
 constructor
 ·rintro rfl;rfl
 ·intro h
  have:s.data=t.data:=Array.toList_inj.1 h
  cases s;cases t;simp_all
theorem findNow_at (n : ByteArray) : ∀ (es : List MapEntry) (l : List (Bs × Value)) (i : Nat), es.map (fun e => (e.key, e.val)) = l.map (fun p => (Value.string (B p.1), p.2)) →
    (lk l (L n)=none∧Instr.findNow .string (.string n) es i=some none∧∀x∈es,x.key≠.string n)∨∃j v,lk l (L n)=some v∧Instr.findNow .string (.string n) es i=some (some (j,v))
 |[],[],_,_=>.inl ⟨rfl,rfl,by simp⟩
 |[],_ :: _,_,h=>by cases h
 |_ :: _,[],_,h=>by cases h
 |e :: es,p :: l,i,h=>by
  simp only[List.map_cons,List.cons.injEq,Prod.mk.injEq]at h
  obtain ⟨⟨hk,hv⟩,hr⟩:=h
  by_cases hp:p.1=L n
  ·refine .inr ⟨i,e.val,?_,?_⟩
   ·simp[lk,hp,hv]
   ·have:(n==B p.1)=true:=by rw[bytes_eq,Idn.L_B,hp];simp
    simp[Instr.findNow,hk,Instr.sameNow,this]
  ·have hnb:(n==B p.1)=false:=by rw[bytes_eq,Idn.L_B];exact decide_eq_false fun e=>hp e.symm
   have hl:lk (p :: l) (L n)=lk l (L n):=by simp[lk,hp]
   rcases findNow_at n es l (i+1) hr with ⟨h1,h2,h3⟩|⟨j,v,h1,h2⟩
   ·refine .inl ⟨hl.trans h1,by simp[Instr.findNow,hk,Instr.sameNow,hnb,h2],fun x hx=>?_⟩
    rcases List.mem_cons.1 hx with rfl|hx
    ·rw[hk];intro e;injection e with e;rw[e,bytes_eq]at hnb;simp at hnb
    ·exact h3 x hx
   ·exact .inr ⟨j,v,hl.trans h1,by simp[Instr.findNow,hk,Instr.sameNow,hnb,h2]⟩
variable {P:Program} {k e t:TypeId}
theorem MapIs.look (h : MapIs w b l) (hk : P.underlying k = some .string) (ht : P.underlying t = some (.map k e)) {z : Value} (hz : (zeroValue e).run P w = .ok z w) (n : ByteArray) :
  (Instr.lookup t (.map (some b)) (.string n) true).run P w=.ok (.tuple #[(lk l (L n)).getD z,.bool (lk l (L n)).isSome]) w:=by
 obtain ⟨es,c,hb,hl⟩:=h
 have hc:=MapKept.run_checkKey (w:=w) (k:=.string n) hk trivial es.isEmpty 9999
 rcases findNow_at n es.toList l 0 hl with ⟨h1,h2,_⟩|⟨j,v,h1,h2⟩
 ·have h3:=MapKept.run_findKey (w:=w) hk h2
  simp[Instr.lookup,run_underlying ht,MapKept.run_getObj_map hb,hc,h3,hz,h1,Result.andThen]
 ·have h3:=MapKept.run_findKey (w:=w) hk h2
  simp[Instr.lookup,run_underlying ht,MapKept.run_getObj_map hb,hc,h3,h1,Result.andThen]
theorem look_none (hk : P.underlying k = some .string) (ht : P.underlying t = some (.map k e)) {z : Value} (hz : (zeroValue e).run P w = .ok z w) (n : ByteArray) :
  (Instr.lookup t (.map none) (.string n) true).run P w=.ok (.tuple #[z,.bool false]) w:=by
 have hc:=MapKept.run_checkKey (w:=w) (k:=.string n) hk trivial true 9999
 simp[Instr.lookup,run_underlying ht,hc,Instr.findKey,Instr.findNow,run_underlying hk,hz,Result.andThen]
theorem MapIs.put (h : MapIs w b l) (hk : P.underlying k = some .string) (ht : P.underlying t = some (.map k e)) (n : ByteArray) (hn : lk l (L n) = none) (val : Value) :
  ∃w',(Instr.mapUpdate t (.map (some b)) (.string n) val).run P w=.ok () w'∧MapIs w' b (l++[(L n,val)])∧But b w w':=by
 obtain ⟨es,c,hb,hl⟩:=h
 have hc:=MapKept.run_checkKey (w:=w) (k:=.string n) hk trivial false 9999
 rcases findNow_at n es.toList l 0 hl with ⟨h1,h2,_⟩|⟨j,v,h1,h2⟩
 ·have h3:=MapKept.run_findKey (w:=w) hk h2
  refine ⟨{ w with heap:=w.heap.setIfInBounds b (.map (es.push ⟨.string n,val,c⟩) (c+1)) },?_,⟨es.push ⟨.string n,val,c⟩,c+1,?_,?_⟩,⟨rfl,rfl,rfl,by simp,fun i _ hi=>?_⟩⟩
  ·simp[Instr.mapUpdate,run_underlying ht,MapKept.run_getObj_map hb,hc,h3,MapKept.run_setObj_map _ hb,Result.andThen]
  ·have:=(Array.getElem?_eq_some_iff.1 hb).1
   simp[this]
  ·simp[hl];rfl
  ·simp[Array.getElem?_setIfInBounds,Ne.symm hi]
 ·rw[h1]at hn;cases hn
end
def MapV (w:World) (v:Value) (l:List (Bs×Value)):Prop:=(v=.map none∧l=[])∨∃b,v=.map (some b)∧MapIs w b l
theorem MapIs.v {w:World} {b:Nat} {l:List (Bs×Value)} (h:MapIs w b l):MapV w (.map (some b)) l:=.inr ⟨b,rfl,h⟩
theorem MapV.keep {w w':World} {v:Value} {l:List (Bs×Value)} (h:MapV w v l) (hb:Below w.heap.size w w'):MapV w' v l:=by
 rcases h with h|⟨b,h1,h2⟩
 ·exact .inl h
 ·exact .inr ⟨b,h1,h2.keep hb⟩
theorem MapV.run {w : World} {v : Value} {l : List (Bs × Value)} (h : MapV w v l) {P : Program} {k e t : TypeId} (hk : P.underlying k = some .string) (ht : P.underlying t = some (.map k e)) {z : Value} (hz : (zeroValue e).run P w = .ok z w) (n : ByteArray) :
  (Instr.lookup t v (.string n) true).run P w=.ok (.tuple #[(lk l (L n)).getD z,.bool (lk l (L n)).isSome]) w:=by
 rcases h with ⟨rfl,rfl⟩|⟨b,rfl,h⟩
 ·exact look_none hk ht hz n
 ·exact h.look hk ht hz n
section
variable {P:Program} (w:World) {ops:Array Oper} {rest:List Oper} {o:Oper} {a:Act} {Q:Exit→Act→World→Prop}
theorem wpList_look (hg : o.guard = none) (m x : Operand) (t : TypeId) (hop : o.op = Op.lookup t m x true) (k e : TypeId) (hk : P.underlying k = some .string) (ht : P.underlying t = some (.map k e)) {z : Value} (hz : (zeroValue e).run P w = .ok z w)
  {l:List (Bs×Value)} {mv:Value} (hm:MapV w mv l) (hme:a.eval m=mv) (n:ByteArray) (hx:a.eval x=.string n) {v:Value} {c:Bool} (hv:(lk l (L n)).getD z=v) (hc:(lk l (L n)).isSome=c)
  (hK:wpList P ops Q rest (a.put o.dst (.tuple #[v,.bool c])) w):wpList P ops Q (o :: rest) a w:=by
 refine wpList_plain hg fun K' hK'=>?_
 have hrun:=hm.run hk ht hz n
 rw[hv,hc]at hrun
 unfold Oper.wp
 simp[execOp,hop,hx,hme,hrun,Result.andThen]
 exact hK' _ _ hK
theorem wpList_put (hg : o.guard = none) (m x v : Operand) (t : TypeId) (hop : o.op = Op.mapUpdate t m x v) (k e : TypeId) (hk : P.underlying k = some .string) (ht : P.underlying t = some (.map k e)) (b : Nat)
  {l:List (Bs×Value)} (hm:a.eval m=.map (some b)) (hown:MapIs w b l) (n:ByteArray) (hx:a.eval x=.string n) (val:Value) (hv:a.eval v=val) (hn:lk l (L n)=none)
  (hK:∀w',MapIs w' b (l++[(L n,val)])→But b w w'→wpList P ops Q rest (a.put o.dst undef) w'):wpList P ops Q (o :: rest) a w:=by
 refine wpList_plain hg fun K' hK'=>?_
 obtain ⟨w',hrun,h1,h2⟩:=hown.put hk ht n hn val
 unfold Oper.wp
 simp[execOp,hop,hm,hx,hv,hrun,Result.andThen]
 exact hK' _ _ (hK w' h1 h2)
end
end Go.Proofs.YtbkkchhimhlhcaaGreatDoor
/- Schemas in memory. -/
namespace Go.Proofs.YtbkkchhimhlhcaaGreatDoor
open Go.RowKit
open Idn (L B Bs drop_L take_L size_L)
section
variable {α:Type} {E E':α→List Value→Prop} {w w':World} {hi hi' size:Nat} {l:List α}
theorem SlV.take {A:Option Addr} {n c:Nat} (h:SlV E w hi size (.slice A n c) l) (k:Nat) (hk:k≤l.length):SlV E w hi size (.slice A k c) (l.take k):=by
 obtain ⟨A',c',hv,hc,h⟩:=h
 injection hv with hA hn hcc
 subst hA hcc
 have hl:(l.take k).length=k:=by rw[List.length_take];omega
 refine ⟨A,c,by rw[hl],by omega,fun hp=>?_⟩
 obtain ⟨b,off,hA,hbb,hx⟩:=h (by omega)
 refine ⟨b,off,hA,hbb,fun i x hix=>hx i x ?_⟩
 rw[List.getElem?_take]at hix
 split at hix
 ·exact hix
 ·cases hix
end
def ET (x:Idn.AT) (cs:List Value):Prop:=cs=[sv x.name,.int .i64 x.syn,.bool x.single]
def EC (w:World) (hi:Nat) (x:Idn.Cl) (cs:List Value):Prop:=∃v u,cs=[sv x.name,sv x.super,v,u]∧StrsV w hi v x.must∧StrsV w hi u x.may
abbrev TypesV (w:World) (hi:Nat) (v:Value) (l:List Idn.AT):Prop:=SlV ET w hi 3 v l
abbrev ClassesV (w:World) (hi:Nat) (v:Value) (l:List Idn.Cl):Prop:=SlV (EC w hi) w hi 4 v l
theorem EC.keep {w w':World} {hi:Nat} {x:Idn.Cl} {cs:List Value} (h:EC w hi x cs) (hb:Below hi w w'):EC w' hi x cs:=by
 obtain ⟨v,u,h1,h2,h3⟩:=h
 exact ⟨v,u,h1,h2.keep hb,h3.keep hb⟩
theorem ClassesV.keep {w w':World} {hi:Nat} {v:Value} {l:List Idn.Cl} (h:ClassesV w hi v l) (hb:Below hi w w'):ClassesV w' hi v l:=SlV.keepE h hb fun _ _ _ he=>he.keep hb
theorem EC.mono {w:World} {hi hi':Nat} {x:Idn.Cl} {cs:List Value} (h:EC w hi x cs) (hh:hi≤hi'):EC w hi' x cs:=by
 obtain ⟨v,u,h1,h2,h3⟩:=h
 exact ⟨v,u,h1,SlV.mono h2 hh,SlV.mono h3 hh⟩
theorem ClassesV.mono {w:World} {hi hi':Nat} {v:Value} {l:List Idn.Cl} (h:ClassesV w hi v l) (hh:hi≤hi'):ClassesV w hi' v l:=
 SlV.mono (SlV.keepE h (Below.refl _ _) fun _ _ _ he=>he.mono hh) hh
theorem TypesV.cell {w : World} {hi : Nat} {A : Option Addr} {n c : Nat} {l : List Idn.AT} (h : TypesV w hi (.slice A n c) l) {k : Nat} (hk : k < l.length) :
  ∃b off,A=some ⟨b,off,none⟩∧b<hi∧w.cell? ⟨b,off+k*3,none⟩=some (.string (B l[k].name))∧w.cell? ⟨b,off+k*3+1,none⟩=some (.int .i64 l[k].syn)∧w.cell? ⟨b,off+k*3+2,none⟩=some (.bool l[k].single):=by
 obtain ⟨b,off,hA,hb,cs,h1,h2,h3⟩:=h.at_ hk
 cases h2
 exact ⟨b,off,hA,hb,by simpa[sv]using h3 0 _ rfl,by simpa[Nat.add_assoc]using h3 1 _ rfl,by simpa[Nat.add_assoc]using h3 2 _ rfl⟩
theorem ClassesV.cell {w : World} {hi : Nat} {A : Option Addr} {n c : Nat} {l : List Idn.Cl} (h : ClassesV w hi (.slice A n c) l) {k : Nat} (hk : k < l.length) :
  ∃b off v u,A=some ⟨b,off,none⟩∧b<hi∧w.cell? ⟨b,off+k*4,none⟩=some (.string (B l[k].name))∧w.cell? ⟨b,off+k*4+1,none⟩=some (.string (B l[k].super))∧w.cell? ⟨b,off+k*4+2,none⟩=some v∧w.cell? ⟨b,off+k*4+3,none⟩=some u∧
   StrsV w hi v l[k].must∧StrsV w hi u l[k].may:=by
 obtain ⟨b,off,hA,hb,cs,h1,h2,h3⟩:=h.at_ hk
 obtain ⟨v,u,rfl,hm,hn⟩:=h2
 exact ⟨b,off,v,u,hA,hb,by simpa[sv]using h3 0 _ rfl,by simpa[sv,Nat.add_assoc]using h3 1 _ rfl,by simpa[Nat.add_assoc]using h3 2 _ rfl,by simpa[Nat.add_assoc]using h3 3 _ rfl,hm,hn⟩
def SchV (w:World) (hi:Nat) (v:Value) (s:Idn.Sch):Prop:=∃a b,v=.agg #[a,b]∧TypesV w hi a s.types∧ClassesV w hi b s.classes
theorem SchV.keep {w w':World} {hi:Nat} {v:Value} {s:Idn.Sch} (h:SchV w hi v s) (hb:Below hi w w'):SchV w' hi v s:=by
 obtain ⟨a,b,h1,h2,h3⟩:=h
 exact ⟨a,b,h1,SlV.keep h2 hb,ClassesV.keep h3 hb⟩
theorem SchV.mono {w:World} {hi hi':Nat} {v:Value} {s:Idn.Sch} (h:SchV w hi v s) (hh:hi≤hi'):SchV w hi' v s:=by
 obtain ⟨a,b,h1,h2,h3⟩:=h
 exact ⟨a,b,h1,SlV.mono h2 hh,ClassesV.mono h3 hh⟩
def Sm (l:List Bs):Prop:=l.length≤1000000000∧∀x∈l,x.length≤1000000000
def TSm (l:List Idn.AT):Prop:=l.length≤1000000000∧∀x∈l,x.name.length≤1000000000
def CSm (l:List Idn.Cl):Prop:=l.length≤1000000000∧∀x∈l,x.name.length≤1000000000∧x.super.length≤1000000000∧Sm x.must∧Sm x.may
def SSm (s:Idn.Sch):Prop:=TSm s.types∧CSm s.classes
theorem TSm.take {l:List Idn.AT} (h:TSm l) (k:Nat):TSm (l.take k):=⟨by have:=h.1;rw[List.length_take];omega,fun x hx=>h.2 x (List.mem_of_mem_take hx)⟩
theorem CSm.take {l:List Idn.Cl} (h:CSm l) (k:Nat):CSm (l.take k):=⟨by have:=h.1;rw[List.length_take];omega,fun x hx=>h.2 x (List.mem_of_mem_take hx)⟩
end Go.Proofs.YtbkkchhimhlhcaaGreatDoor
/- 'append(out, l...)' at strings, l any slice that reads. -/
namespace Go.Proofs.YtbkkchhimhlhcaaGreatDoor
open Go.RowKit
open Idn (L B Bs drop_L take_L size_L)
section
variable {P:Program} {w:World} {ops:Array Oper} {rest:List Oper} {o:Oper} {a:Act} {Q:Exit→Act→World→Prop}
theorem run_append_nilsrc (base : Nat) (t ty e : TypeId) (i : TypeInfo) (size : Nat) (ht : P.underlying t = some (.slice e)) (hi : P.info? e = some i)
  (v:Value) (n:Nat) (xs:List Value) (hown:w.ownsRow base e size v n xs) (A:Option Addr) (c:Nat) :
  (Builtin.append_ #[t,t] ty #[v,.slice A 0 c]).run P w=.ok v w:=by
 rcases hown.2 with ⟨rfl,rfl⟩|⟨g,cap,cur,rfl,_,_,hnc,_⟩
 ·cases A<;>simp[Builtin.append_,run_underlying ht,sizeOf,typeInfo,hi,Builtin.lenOf,Builtin.firstCells,loadCells,loadCellsFrom]
 ·cases A<;>simp[Builtin.append_,run_underlying ht,sizeOf,typeInfo,hi,Builtin.lenOf,Builtin.firstCells,hnc,storeCells,loadCells,loadCellsFrom]
end
end Go.Proofs.YtbkkchhimhlhcaaGreatDoor
/- law07: short. -/
namespace Go.Proofs.YtbkkchhimhlhcaaGreatDoor
open Go.RowKit
open Idn (L B Bs drop_L take_L size_L)
def short (l:List Bs):Bool:=l.all (fun x=>decide (x.length≤70))&&decide (l.length≤70)
end Go.Proofs.YtbkkchhimhlhcaaGreatDoor
/- Sets kept as maps from strings to bool. -/
namespace Go.Proofs.YtbkkchhimhlhcaaGreatDoor
open Go.RowKit Go.Maps Go.MapKept
open Idn (L B Bs)
section
variable {w w' w'':World} {b:Nat} {l:List (Bs×Value)} {P:Program} {k e t:TypeId}
end
section
variable {P:Program} (w:World) {ops:Array Oper} {rest:List Oper} {o:Oper} {a:Act} {Q:Exit→Act→World→Prop}
end
end Go.Proofs.YtbkkchhimhlhcaaGreatDoor
