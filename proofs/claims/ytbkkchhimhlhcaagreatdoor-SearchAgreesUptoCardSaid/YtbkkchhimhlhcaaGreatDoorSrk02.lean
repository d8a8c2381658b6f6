/- Part 2 of the proof that identitylaw12.SearchChecks returns true for every data that it may be called with: proof: the package variables hold what the program lays; nothing else is asked. -/
import Derived.Test.YtbkkchhimhlhcaaGreatDoorSrk01
import Derived.WalkSpells
import Derived.WalkLawsBesides
import Derived.Lib.Hide
import Derived.Lib.Strings
import Derived.Lib.ConvBytes
set_option linter.unusedVariables false
set_option linter.unusedSimpArgs false
set_option maxRecDepth 100000
set_option maxHeartbeats 16000000
/- Small helpers of the walks: endings, strings as lists of bytes. -/
namespace Go.Proofs.YtbkkchhimhlhcaaGreatDoor
open Go.RowKit
open Idn (L B Bs drop_L take_L size_L)
theorem ret_bool {a b:Bool} (h:a=b):Ending.returned (.bool a)=.returned (.bool b):=by rw[h]
theorem ret_int {k:IntKind} {a b:Int} (h:a=b):Ending.returned (.int k a)=.returned (.int k b):=by rw[h]
theorem ret_str {a b:ByteArray} (h:a=b):Ending.returned (.string a)=.returned (.string b):=by rw[h]
theorem byte_eq (c d:UInt8):((c.toNat:Int)==(d.toNat:Int))=(c==d):=by
 rw[Bool.eq_iff_iff]
 simp only[beq_iff_eq,Int.natCast_inj]
 exact UInt8.toNat_inj
theorem byte_lt (c:UInt8):c.toNat<256:=c.toNat_lt
theorem toList_L (s:ByteArray):s.toList=L s:=Lib.toList_data s
theorem data_L (s:ByteArray):s.data.toList=L s:=rfl
theorem head_L (s:ByteArray) (h:0<s.size):(L s).headD 0=s[0]:=by
 have:=drop_L s 0 h
 simp only[List.drop_zero]at this
 rw[this];rfl
theorem empty_L (s:ByteArray):(L s).isEmpty=decide (s.size=0):=by
 rw[size_L];cases L s<;>simp
theorem list_beq (a b:List UInt8):(a==b)=decide (a=b):=by
 rw[Bool.eq_iff_iff];simp
theorem empty_false (s:ByteArray) (h:0<s.size):(L s).isEmpty=false:=by rw[empty_L];exact decide_eq_false (by omega)
theorem empty_true (s:ByteArray) (h:¬0<s.size):(L s).isEmpty=true:=by rw[empty_L];exact decide_eq_true (by omega)
theorem str_beq (s t:ByteArray):(s.toList==t.toList)=decide (L s=L t):=by rw[toList_L,toList_L,list_beq]
theorem str_is {s t:ByteArray} (h:L s=L t):(s.toList==t.toList)=true:=by rw[str_beq];exact decide_eq_true h
theorem str_not {s t:ByteArray} (h:¬L s=L t):(s.toList==t.toList)=false:=by rw[str_beq];exact decide_eq_false h
end Go.Proofs.YtbkkchhimhlhcaaGreatDoor
/- Memory laws in the forms that these walks want: a byte row, an append of one element, a string out of bytes. Over any program. -/
namespace Go.Proofs.YtbkkchhimhlhcaaGreatDoor
open Go.RowKit
open Idn (L B Bs)
def bc (x:UInt8):Value:=.int .u8 (x.toNat:Int)
def ByteRow (w:World) (e:TypeId) (b:Nat) (l:Bs):Prop:=
 ∃cs lo hi,w.heap[b]?=some (.cells cs e (lo,hi))∧l.length≤lo∧l.length≤cs.size∧∀(i:Nat) (x:UInt8),l[i]?=some x→cs[i]?=some (bc x)
theorem ByteRow.cell {w:World} {e:TypeId} {b:Nat} {l:Bs} (h:ByteRow w e b l) {i:Nat} {x:UInt8} (hi:l[i]?=some x):w.cell? ⟨b,i,none⟩=some (bc x):=by
 obtain ⟨cs,lo,hi',hb,h1,_,h2⟩:=h
 simp[World.cell?,hb,h2 i x hi]
theorem ByteRow.frozen {w:World} {e:TypeId} {b:Nat} {l:Bs} (h:ByteRow w e b l) {i:Nat} (hi:i<l.length):w.frozen? ⟨b,i,none⟩=false:=by
 obtain ⟨cs,lo,hi',hb,h1,_⟩:=h
 simp[World.frozen?,hb]
 omega
theorem ByteRow.set {w:World} {e:TypeId} {b:Nat} {l:Bs} (h:ByteRow w e b l) (i:Nat) (x:UInt8):ByteRow (w.setCell ⟨b,i,none⟩ (bc x)) e b (l.set i x):=by
 obtain ⟨cs,lo,hi',hb,h1,h3,h2⟩:=h
 refine ⟨cs.setIfInBounds i (bc x),lo,hi',by simp[World.setCell,Array.getElem?_modify,hb],by simpa using h1,by simpa using h3,?_⟩
 intro j y hj
 rw[List.getElem?_set]at hj
 rw[Array.getElem?_setIfInBounds]
 split at hj
 ·rename_i hij
  subst hij
  split at hj
  ·injection hj with hj;subst hj
   rw[if_pos rfl,if_pos (by omega)]
  ·cases hj
 ·rename_i hij
  rw[if_neg hij]
  exact h2 j y hj
theorem ByteRow.keep {w w':World} {e:TypeId} {b:Nat} {l:Bs} (h:ByteRow w e b l) (hb:w'.heap[b]?=w.heap[b]?):ByteRow w' e b l:=by
 obtain ⟨cs,lo,hi',h0,r⟩:=h
 exact ⟨cs,lo,hi',hb.trans h0,r⟩
theorem ByteRow.lt {w:World} {e:TypeId} {b:Nat} {l:Bs} (h:ByteRow w e b l):b<w.heap.size:=by
 obtain ⟨cs,lo,hi',h0,r⟩:=h
 exact (Array.getElem?_eq_some_iff.1 h0).1
section
variable {P:Program} (w:World) {ops:Array Oper} {rest:List Oper} {o:Oper} {a:Act} {Q:Exit→Act→World→Prop}
theorem wpList_bytes (hg : o.guard = none) (x : Operand) (src dst e : TypeId) (ho : o.op = .convert src dst x) (hs : P.underlying src = some .string) (hd : P.underlying dst = some (.slice e)) (he : P.underlying e = some (.int .u8))
  (s:ByteArray) (hx:a.eval x=.string s)
  (hK:∀w' cap,ByteRow w' e w.heap.size (L s)→Below w.heap.size w w'→w.heap.size<w'.heap.size→wpList P ops Q rest (a.put o.dst (.slice (some ⟨w.heap.size,0,none⟩) s.size cap)) w') :
  wpList P ops Q (o :: rest) a w:=by
 refine wpList_plain hg fun K' hK'=>?_
 have hrun:=Lib.run_convert_string_bytes (P:=P) w src dst e s hs hd he
 unfold Oper.wp execOp
 simp only[ho,hx,Sem.run_bind,hrun,Result.andThen_ok,Sem.run_pure]
 refine hK' _ _ (hK _ _ ?_ ?_ ?_)
 ·have hsz : s.size ≤ (Lib.bytesCells w e s).size := by
   show s.data.size≤_
   unfold Lib.bytesCells
   rw[Array.size_append,Array.size_map]
   exact Nat.le_add_right _ _
  refine ⟨_,_,_,Lib.bytesWorld_at_new w e s,hsz,hsz,?_⟩
  intro i x hi
  have hl:i<s.data.size:=by
   have:=(List.getElem?_eq_some_iff.1 hi).1
   simpa[L]using this
  have hxi:s.data[i]=x:=by
   have h:=(List.getElem?_eq_some_iff.1 hi).2
   simpa[L]using h
  unfold Lib.bytesCells
  rw[Array.getElem?_append_left (by rw[Array.size_map];exact hl),Array.getElem?_map,Array.getElem?_eq_getElem hl,hxi]
  rfl
 ·refine ⟨?_,?_,?_,by rw[Lib.bytesWorld_size];omega,fun k hk=>Lib.bytesWorld_at_old w e s k hk⟩<;>(unfold Lib.bytesWorld World.freeze;rw[if_neg (by decide)];rfl)
 ·rw[Lib.bytesWorld_size];omega
theorem wpList_str (hg : o.guard = none) (x : Operand) (src dst e : TypeId) (ho : o.op = .convert src dst x) (hs : P.underlying src = some (.slice e)) (hd : P.underlying dst = some .string) (he : P.underlying e = some (.int .u8))
    (base:Nat) (v:Value) (l:Bs) (hown:w.ownsRow base e 1 v l.length (l.map bc)) (hx:a.eval x=v)
    (hK:wpList P ops Q rest (a.put o.dst (.string (B l))) w):wpList P ops Q (o :: rest) a w:=by
 refine wpList_plain hg fun K' hK'=>?_
 have hrun:(convert src dst v).run P w=.ok (.string (B l)) w:=by
  rcases hown.2 with ⟨rfl,hn⟩|⟨g,cap,cur,rfl,_,hh,_,_,_,htake⟩
  ·have:l=[]:=List.eq_nil_of_length_eq_zero hn
   subst this
   exact run_convert_bytes_nil w src e hs he 0 0 dst hd
  ·have h := run_convert_bytes_arg (P := P) w src e hs he g 0 l.length cap (l.map fun x => (x.toNat : Int)) (by simp) (fun i hi => by
     have hc:=hown.cellAt i (by simpa using hi)
     rw[Nat.zero_add,hc]
     simp[bc,hi]) dst hd
   rw[h]
   congr 3
   show (⟨_⟩:ByteArray)=_
   simp[B,Function.comp_def]
 unfold Oper.wp execOp
 simp only[ho,hx,Sem.run_bind,hrun,Result.andThen_ok,Sem.run_pure]
 exact hK' _ _ hK
theorem wpList_str_row (hg : o.guard = none) (x : Operand) (src dst e : TypeId) (ho : o.op = .convert src dst x) (hs : P.underlying src = some (.slice e)) (hd : P.underlying dst = some .string) (he : P.underlying e = some (.int .u8))
    (b n cap:Nat) (l:Bs) (hx:a.eval x=.slice (some ⟨b,0,none⟩) n cap) (hn:l.length=n) (hrow:ByteRow w e b l)
    (hK:wpList P ops Q rest (a.put o.dst (.string (B l))) w):wpList P ops Q (o :: rest) a w:=by
 refine wpList_plain hg fun K' hK'=>?_
 have hrun:(convert src dst (.slice (some ⟨b,0,none⟩) n cap)).run P w=.ok (.string (B l)) w:=by
  have h:=run_convert_bytes_arg (P:=P) w src e hs he b 0 n cap (l.map fun x=>(x.toNat:Int)) (by simpa using hn) (fun i hi=>by
   rw[Nat.zero_add,hrow.cell (List.getElem?_eq_getElem (by omega))]
   simp[bc,hn,hi]) dst hd
  rw[h]
  congr 3
  show (⟨_⟩:ByteArray)=_
  simp[B,Function.comp_def]
 unfold Oper.wp execOp
 simp only[ho,hx,Sem.run_bind,hrun,Result.andThen_ok,Sem.run_pure]
 exact hK' _ _ hK
theorem wpList_push {w2 : World} (hgd : o.guard = none) (s x : Operand) (t : TypeId) (ho : o.op = .call { callee := .builtin .append, args := #[s, x], argTypes := #[t, t] })
  (base:Nat) (e:TypeId) (z:Value) (size bytes:Nat) (ht:P.underlying t=some (.slice e)) (hinf:(P.info? e).map (fun i=>(i.zero,i.size,i.bytes))=some (some z,size,bytes)) (hzs:z.cells.size=size) (hsz:0<size)
  (v:Value) (n:Nat) (xs:List Value) (hown:w.ownsRow base e size v n xs) (hs:a.eval s=v) (cs:List Value) (hx:a.eval x=.slice (some ⟨w.heap.size,0,none⟩) 1 1) (hl:cs.length=size)
  (h1:∀u∈cs,u.oneCell'=true) (hn:(n+1)*(bytes+1)≤140737488355328) (hbase:base≤w.heap.size)
  (hK:∀v' w',w'.ownsRow base e size v' (n+1) (xs++cs)→w.grownBy w' v.ownBlock→(v'.ownBlock=v.ownBlock∨v'.ownBlock=some (w.heap.size+1))→Below base w w'→v'≠.slice none 0 0→wpList P ops Q rest (a.put o.dst v') w') (hw2:w2=w.alloc (.cells cs.toArray e)) :
  wpList P ops Q (o :: rest) a w2:=by
 subst hw2
 obtain ⟨i,hi,hz0,hz1,hz2⟩:=info_parts hinf
 have hmul:(n+1)*bytes+(n+1)≤140737488355328:=by rw[Nat.mul_add]at hn;omega
 refine wpList_append_own_at _ hgd s x t ho base e i z size bytes ht hi hz0 hz1 hz2 hzs hsz v n xs hs (hown.alloc _) ⟨w.heap.size,0,none⟩ 1 1 cs hx (by simpa using hl) ?_ h1 (by unfold maxLen;omega) (by omega) (by simp;omega) ?_
 ·intro j u hu
  have hadd:(⟨w.heap.size,0,none⟩:Addr).add j=⟨w.heap.size,j,none⟩:=by unfold Addr.add;split<;>simp_all
  rw[hadd,cell_of_row _ w.heap.size j cs.toArray e (0,0) (heap_alloc_new w _)]
  simpa using hu
 ·intro v' w' hown' hg hnil hat
  have hg':w.grownBy w' v.ownBlock:=(World.grownBy_alloc w _ _).trans hg
  refine hK v' w' hown' hg' (by simpa using hat) ?_ (fun h=>by have:=(hnil.1 h).2;omega)
  exact (Below.refl base w).grown hg' hbase (fun k hk=>(hown.lt k hk).1)
end
end Go.Proofs.YtbkkchhimhlhcaaGreatDoor
/- Along any steps of a machine the count of draws does not fall: so a contract may be given it besides. -/
namespace Go.Proofs.YtbkkchhimhlhcaaGreatDoor
open Go.RowKit
def resW {α:Type}:Result α→World
 |.ok _ w=>w
 |.halt _ w=>w
def gsUp (d:Nat):GStep→Prop
 |.go _ w _=>d≤w.drawn
 |.comm _ _ _ _ w _=>d≤w.drawn
 |.spawn _ _ w _=>d≤w.drawn
 |.count _ w _=>d≤w.drawn
 |.timer _ _ w _=>d≤w.drawn
 |.alone _ _ w _=>d≤w.drawn
 |.newcoro _ _ _ w _=>d≤w.drawn
 |.coroswitch _ _ _ w _=>d≤w.drawn
 |.collect _ w _=>d≤w.drawn
 |.watch _ w _=>d≤w.drawn
 |.ended ..=>True
def stUp (d:Nat):Stepped→Prop
 |.next m=>d≤m.world.drawn
 |.ended ..=>True
def mvUp (d:Nat):Move→Prop
 |.goroutine m _=>d≤m.world.drawn
 |.machine s _=>stUp d s
theorem gsUp_mono {d d':Nat} (h:d≤d') (s:GStep) (hs:gsUp d' s):gsUp d s:=by
 cases s<;>simp only[gsUp]at *<;>omega
theorem stUp_mono {d d':Nat} (h:d≤d') (s:Stepped) (hs:stUp d' s):stUp d s:=by
 cases s<;>simp only[stUp]at *<;>omega
theorem mvUp_mono {d d':Nat} (h:d≤d') (s:Move) (hs:mvUp d' s):mvUp d s:=by
 cases s
 ·simp only[mvUp]at *;omega
 ·exact stUp_mono h _ hs
theorem after_up {d:Nat} {es:Array Event} {s:GStep} (h:gsUp d s):gsUp d (GStep.after es s):=by
 cases s<;>exact h
theorem ite_gs {c:Prop} [Decidable c] {d:Nat} {a b:GStep} (ha:gsUp d a) (hb:gsUp d b):gsUp d (if c then a else b):=by
 split<;>assumption
theorem run_of {α:Type} {p:Program} {x:Sem α} {w:World} {r:Result α} (h:x.run p w=r) (hu:w.drawn≤(resW (x.run p w)).drawn):w.drawn≤(resW r).drawn:=h▸hu
theorem askW_up {α:Type} (a:Ask α):∀w:World,w.drawn≤(w.ask a).2.drawn:=by
 induction a with
 |done a=>intro w;simp[World.ask]
 |ask what range k ih=>
  intro w
  simp only[World.ask]
  split
  ·exact ih _ w
  ·exact Nat.le_trans (Nat.le_succ _) (ih _ { w with drawn:=w.drawn+1 })
theorem sys_up (w:World) (c:Sys):w.drawn≤(w.sys c).2.drawn:=by
 have h:=askW_up (Kernel.perform c w.os) w
 unfold World.sys
 revert h
 generalize w.ask (Kernel.perform c w.os)=z
 intro h
 obtain ⟨⟨r,os⟩,w1⟩:=z
 cases r<;>first|exact Nat.le_refl _|exact h
theorem farStore_up {p:Program} {w w1:World} {a:Addr} {v:Value} {at_:Bool} {l:List Addr} (h:w.farStore p a v at_=.ok (w1,l)):w1.drawn=w.drawn:=by
 unfold World.farStore at h
 split at h
 ·split at h
  ·rename_i hv
   injection h with h
   subst h
   unfold World.viewStore at hv
   simp only[bind,Except.bind,pure,Except.pure]at hv
   repeat' first
    |(cases hv;done)
    |(injection hv with hv;injection hv with hv _;rw[←hv];done)
    |split at hv
  ·cases h
 ·cases h
theorem freeze_up (w:World) (a:Addr) (n:Nat):(w.freeze a n).drawn=w.drawn:=by
 unfold World.freeze;split<;>rfl
theorem semRun_up {α:Type} (p:Program) (s:Sem α):∀w:World,w.drawn≤(resW (s.run p w)).drawn:=by
 induction s with
 |pure a=>intro w;exact Nat.le_refl _
 |load m a k ih=>
  intro w
  simp only[Sem.run]
  split
  ·exact ih _ w
  ·split
   ·exact ih _ w
   ·exact Nat.le_refl _
 |store m a v k ih=>
  intro w
  cases v<;>simp only[Sem.run]<;>first
   |exact Nat.le_refl _
   | (split
      ·split
       ·exact Nat.le_refl _
       ·exact ih (w.setCell a _)
      ·split
       ·rename_i h;rw[←farStore_up h];exact ih _
       ·exact Nat.le_refl _)
 |new o k ih=>intro w;exact ih _ { w with heap:=w.heap.push o }
 |shape r k ih=>intro w;exact ih _ w
 |freeze a n k ih=>intro w;simp only[Sem.run];rw[←freeze_up w a n];exact ih _
 |frozen a k ih=>intro w;exact ih _ w
 |getObj r k ih=>
  intro w
  simp only[Sem.run]
  split
  ·exact Nat.le_refl _
  ·exact ih _ w
  ·exact Nat.le_refl _
 |setObj r o k ih=>
  intro w
  simp only[Sem.run]
  split
  ·exact Nat.le_refl _
  ·exact ih { w with heap:=w.heap.setIfInBounds r o }
  ·exact Nat.le_refl _
 |choose q k ih=>
  intro w
  simp only[Sem.run]
  split
  ·exact ih _ w
  ·exact Nat.le_trans (Nat.le_succ _) (ih _ { w with drawn:=w.drawn+1 })
 |sys c k ih=>intro w;exact Nat.le_trans (sys_up w c) (ih _ _)
 |program k ih=>intro w;exact ih _ w
 |mark m k ih=>intro w;exact ih w
 |halt h=>intro w;exact Nat.le_refl _
theorem semRunT_up {α:Type} (p:Program) (s:Sem α) (w:World) (es:Array Event):w.drawn≤(resW (s.runT p w es).1).drawn:=by
 rw[Sem.runT_fst];exact semRun_up p s w
theorem doReturn_up (p:Program) (main:Bool) (fr:Frame) (callers:List Frame) (dying:Option Dying) (v:Value) (w:World):gsUp w.drawn (doReturn p main fr callers dying v w):=by
 unfold doReturn
 repeat' first
  |exact Nat.le_refl _
  |trivial
  |split
theorem endThrow_up (fr:Frame) (m:String) (w:World):gsUp w.drawn (endThrow fr m w):=Nat.le_refl _
theorem endWith_up (w:World) (fd:Nat) (text:ByteArray) (o:Outcome) (d:Nat):gsUp d (endWith w fd text o):=by
 unfold endWith
 repeat' first
  |trivial
  |split
theorem endPrinting_up (p:Program) (fr:Frame) (v:Value) (w:World):gsUp w.drawn (endPrinting p fr v w):=by
 unfold endPrinting
 simp only[]
 repeat' first
  |trivial
  |exact endThrow_up _ _ _
  |split
theorem endFatal_up (p:Program) (fr:Frame) (callers:List Frame) (dying:Option Dying) (m:String) (w:World):gsUp w.drawn (endFatal p fr callers dying m w):=by
 unfold endFatal
 simp only[]
 split
 ·rename_i he
  exact run_of he (semRun_up p _ w)
 ·trivial
 ·trivial
theorem early_up (p:Program) (fr:Frame) (callers:List Frame) (dying:Option Dying) (g:Nat) (w:World):gsUp w.drawn (early p fr callers dying g w):=by
 unfold early
 simp only[]
 have key:∀k w1,(choose (.early g)).run p w=.ok k w1→w.drawn≤w1.drawn:=fun k w1 he=>run_of he (semRun_up p _ w)
 repeat' first
  |exact Nat.le_refl _
  |trivial
  |split
 ·rename_i w1 he _ _ _ _
  show w.drawn≤w1.drawn
  exact key _ _ he
 ·rename_i he
  exact key _ _ he
theorem callDeferred_up (p:Program) (fr:Frame) (callers:List Frame) (dying:Option Dying) (d:Deferred) (w:World):gsUp w.drawn (callDeferred p fr callers dying d w):=by
 unfold callDeferred
 refine ite_gs trivial ?_
 have h:=semRunT_up p (invoke d.target d.args) w #[]
 revert h
 generalize (invoke d.target d.args).runT p w #[]=z
 obtain ⟨r,es⟩:=z
 intro h
 simp only[]
 refine after_up ?_
 simp only at h
 repeat' first
  |exact h
  |trivial
  |exact gsUp_mono h _ (endFatal_up _ _ _ _ _ _)
  |exact gsUp_mono h _ (endThrow_up _ _ _)
  |split
theorem unwind_up (p:Program) (main:Bool) (fr:Frame) (callers:List Frame) (dying:Option Dying) (w:World):gsUp w.drawn (unwind p main fr callers dying w):=by
 unfold unwind
 split
 ·rename_i block _ ds _
  have h:=semRunT_up p (Instr.takeDeferred block) w #[]
  revert h
  generalize (Instr.takeDeferred block).runT p w #[]=z
  obtain ⟨r,es⟩:=z
  intro h
  simp only[]
  refine after_up ?_
  cases r with
  |ok n w1=>exact h
  |halt k w1=>trivial
 ·exact callDeferred_up _ _ _ _ _ _
 ·split
  ·trivial
  ·split
   ·trivial
   ·split
    ·exact Nat.le_refl _
    ·split
     ·split
      ·exact Nat.le_refl _
      ·split
       ·rename_i he
        exact run_of he (semRun_up p _ w)
       ·trivial
       ·trivial
     ·split
      ·exact endPrinting_up _ _ _ _
      ·trivial
  ·split
   ·exact doReturn_up _ _ _ _ _ _ _
   ·rename_i fn _
    have h:=semRunT_up p (results fn fr.tmps) w #[]
    revert h
    generalize (results fn fr.tmps).runT p w #[]=z
    obtain ⟨r,es⟩:=z
    intro h
    simp only[]
    refine after_up ?_
    cases r with
    |ok n w1=>exact gsUp_mono h _ (doReturn_up _ _ _ _ _ _ _)
    |halt k w1=>cases k<;>trivial
theorem runT_of {α:Type} {p:Program} {x:Sem α} {w:World} {r:Result α} {es es':Array Event} (h:x.runT p w es=(r,es')):w.drawn≤(resW r).drawn:=by
 have hu:=semRunT_up p x w es
 rw[h]at hu;exact hu
theorem writeOn_up (p:Program) (fr:Frame) (d:Dying) (f:Fatal) (w:World):gsUp w.drawn (writeOn p fr d f w):=by
 unfold writeOn
 simp only[]
 split
 ·trivial
 ·split
  all_goals first
   |trivial
   |(rename_i he;exact runT_of he)
theorem die_up (p:Program) (fr:Frame) (d:Dying) (w:World):gsUp w.drawn (die p fr d w):=by
 unfold die
 split
 ·exact writeOn_up _ _ _ _ _
 ·split
  ·split
   ·exact Nat.le_refl _
   ·exact endWith_up _ _ _ _ _
  ·simp only[]
   split
   ·exact Nat.le_refl _
   ·split
    ·rename_i he
     exact run_of he (semRun_up p _ w)
    ·trivial
   ·rename_i t recv name _
    have h:=semRunT_up p (invoke (.fn (.method name) #[]) #[.iface t recv]) w #[]
    revert h
    generalize (invoke (.fn (.method name) #[]) #[.iface t recv]).runT p w #[]=z
    obtain ⟨r,es⟩:=z
    intro h
    simp only[]
    refine after_up ?_
    repeat' first
     |exact h
     |trivial
     |exact gsUp_mono h _ (endPrinting_up _ _ _ _)
     |split
   ·trivial
section
variable (p:Program) (main:Bool) (listen:Bool)
theorem apply_up (fr:Frame) (callers:List Frame) (dying:Option Dying) (s:Sem Next) (w:World):gsUp w.drawn (stepG.apply p listen fr callers dying s w):=by
 unfold stepG.apply
 have h:w.drawn≤(resW (if listen then s.runT p w #[]else (s.run p w,#[])).1).drawn:=by
  split
  ·exact semRunT_up p s w #[]
  ·exact semRun_up p s w
 revert h
 generalize (if listen then s.runT p w #[]else (s.run p w,#[]))=z
 obtain ⟨r,es⟩:=z
 intro h
 simp only[]
 refine after_up ?_
 simp only at h
 repeat' first
  |exact h
  |trivial
  |exact gsUp_mono h _ (endFatal_up _ _ _ _ _ _)
  |exact gsUp_mono h _ (endThrow_up _ _ _)
  |exact gsUp_mono h _ (early_up _ _ _ _ _ _)
  |split
theorem oper_up (fr:Frame) (callers:List Frame) (dying:Option Dying) (w:World):gsUp w.drawn (stepG.oper p listen fr callers dying w):=by
 unfold stepG.oper
 repeat' first
  |trivial
  |exact apply_up _ _ _ _ _ _ _
  |split
theorem elim_gs {α:Type} {d:Nat} {o:Option α} {a:GStep} {f:α→GStep} (ha:gsUp d a) (hf:∀x,gsUp d (f x)):gsUp d (o.elim a f):=by
 cases o
 ·exact ha
 ·exact hf _
theorem exec_up (fr:Frame) (callers:List Frame) (dying:Option Dying) (w:World):gsUp w.drawn (stepG.exec p main listen fr callers dying w):=by
 have lv : ∀ l jump, gsUp w.drawn (GStep.after (seen p fr.fn ((Instr.endRound l jump).runT p w #[]).2) (match ((Instr.endRound l jump).runT p w #[]).1 with
       |.ok v w=>doReturn p main fr callers dying v w
       | .halt _ w => .ended (.stuck "range over a function: no such loop" (fr.pos p)) w)) := by
  intro l jump
  have h:=semRunT_up p (Instr.endRound l jump) w #[]
  revert h
  generalize (Instr.endRound l jump).runT p w #[]=z
  obtain ⟨r,es⟩:=z
  intro h
  refine after_up ?_
  cases r with
  |ok n w1=>exact gsUp_mono h _ (doReturn_up _ _ _ _ _ _ _)
  |halt k w1=>trivial
 unfold stepG.exec
 simp only[]
 split
 case h_15=>
  rename_i f params assign body k _
  have h:=semRunT_up p (Instr.enterLoop fr.fn fr.tmps params assign body fr.roundOf) w #[]
  revert h
  generalize (Instr.enterLoop fr.fn fr.tmps params assign body fr.roundOf).runT p w #[]=z
  obtain ⟨r,es⟩:=z
  intro h
  refine after_up ?_
  simp only at h
  split
  ·rename_i l mk w1 he
   have he:r=.ok (l,mk) w1:=he
   have h:w.drawn≤w1.drawn:=by rw[he]at h;exact h
   exact gsUp_mono h _ (apply_up _ _ _ _ _ _ _)
  ·trivial
 case h_17=>exact apply_up _ _ _ _ _ _ _
 all_goals first
  |exact Nat.le_refl _
  |trivial
  |exact apply_up _ _ _ _ _ _ _
  | (split
     ·exact ite_gs (Nat.le_refl _) trivial
     ·exact lv _ _)
  | (split
     ·exact Nat.le_refl _
     ·trivial)
  | (refine elim_gs ?_ fun x => Nat.le_refl _
     split
     ·exact ite_gs (Nat.le_refl _) trivial
     ·exact lv _ _)
  |(refine elim_gs trivial fun x=>?_;exact apply_up _ _ _ _ _ _ _)
  |exact ite_gs (oper_up _ _ _ _ _ _) (Nat.le_refl _)
  |skip
 ·rename_i l k _
  have h:=semRunT_up p (Instr.endLoop l) w #[]
  revert h
  generalize (Instr.endLoop l).runT p w #[]=z
  obtain ⟨r,es⟩:=z
  intro h
  refine after_up ?_
  cases r with
  |ok n w1=>exact h
  |halt q w1=>cases q<;>first|exact h|trivial
 ·refine ite_gs (Nat.le_refl _) ?_
  split
  ·rename_i he
   exact run_of he (semRun_up p _ _)
  ·trivial
end
theorem stepG_up (p:Program) (main:Bool) (g:Goroutine) (w:World) (listen:Bool):gsUp w.drawn (stepG p main g w listen):=by
 unfold stepG
 obtain ⟨fr,callers,st,dying,off⟩:=g
 simp only[]
 split
 ·exact die_up _ _ _ _
 ·exact exec_up _ _ _ _ _ _ _
 ·exact unwind_up _ _ _ _ _ _
theorem communicate_up (p:Program) (rest:Rest) (gs:Array Goroutine) (i:Nat) (g:Goroutine) (cases:Array CommCase) (blocking:Bool) (shape:CommShape) (w:World):stUp w.drawn (communicate p rest gs i g cases blocking shape w).1:=by
 unfold communicate
 simp only[]
 split
 ·trivial
 ·split
  ·split
   ·split
    ·rename_i he
     show w.drawn≤_
     unfold waitingAt at he
     repeat' first
      |(cases he;done)
      |(injection he with he;subst he;exact Nat.le_refl _)
      |split at he
    ·trivial
   ·exact Nat.le_refl _
  ·split
   ·trivial
   ·rename_i he
    have hp:=run_of he (semRun_up p _ w)
    repeat' first
     |exact hp
     |trivial
     |(rename_i hf;exact Nat.le_trans hp (run_of hf (semRun_up p _ _)))
     |(rename_i hf _ _ _;exact Nat.le_trans hp (run_of hf (semRun_up p _ _)))
     |split
theorem look_up (p:Program) (gs:Array Goroutine) (rest:Rest) (w:World):stUp w.drawn (look p gs rest w):=by
 unfold look
 simp only[]
 split
 ·split
  ·trivial
  ·split
   ·trivial
   ·split
    ·rename_i he
     exact run_of he (semRun_up p _ w)
    ·trivial
    ·trivial
 ·trivial
theorem drain_up (w:World) (c:Nat):(drain w c).2.drawn=w.drawn:=by
 unfold drain;split<;>rfl
theorem retime_up (m:Machine) (k:Nat) (t:Timer) (a b:Nat):(retime m k t a b).2.world.drawn=m.world.drawn:=by
 unfold retime
 simp only[]
 split
 ·exact drain_up _ _
 ·rfl
theorem timerOp_up {m m':Machine} {op:TimerOp} {v:Value} (h:timerOp m op=.ok (v,m')):m'.world.drawn=m.world.drawn:=by
 unfold timerOp at h
 split at h
 ·split at h
  ·injection h with h;injection h with _ h;rw[←h];rfl
  ·split at h
   ·split at h
    ·cases h
    ·injection h with h;injection h with _ h;rw[←h]
   ·cases h
 ·unfold timerOp.named at h
  split at h
  ·injection h with h
   have:=congrArg (fun r=>r.2.world.drawn) h
   simp only[retime_up]at this
   exact this.symm
  ·cases h
 ·split at h
  ·rename_i m1 hm
   have hd:m1.world.drawn=m.world.drawn:=by
    unfold timerOp.opened at hm
    repeat' first
     |(cases hm;done)
     |(injection hm with hm;subst hm;rfl)
     |split at hm
   unfold timerOp.named at h
   split at h
   ·injection h with h
    have:=congrArg (fun r=>r.2.world.drawn) h
    simp only[retime_up]at this
    exact this.symm.trans hd
   ·cases h
  ·cases h
 ·injection h with h;injection h with _ h;rw[←h];rfl
theorem runT_up (p:Program) (m:Machine) (i:Nat) (b:Bool):stUp m.world.drawn (runT p m i b).1:=by
 simp only[runT]
 have hs:=stepG_up p (i==0) (m.gs.swapAt! i { (default:Goroutine)with status:=.finished }).1 m.world b
 revert hs
 generalize m.gs.swapAt! _ _=gg
 generalize stepG p _ gg.1 m.world b=s
 intro hs
 cases s with
 |ended o w es=>trivial
 |comm g cs bl sh w es=>exact stUp_mono hs _ (communicate_up _ _ _ _ _ _ _ _ _)
 |go g w es=>exact hs
 |spawn g c w es=>exact hs
 |count g w es=>
  simp only[]
  split
  ·trivial
  ·exact hs
 |alone g on w es=>exact hs
 |collect g w es=>exact stUp_mono hs _ (look_up _ _ _ _)
 |watch g w es=>exact hs
 |newcoro g c d w es=>exact hs
 |coroswitch g c ex w es=>
  simp only[]
  repeat' first
   |exact hs
   |trivial
   |split
 |timer g op w es=>
  simp only[]
  split
  ·rename_i he
   show m.world.drawn≤_
   have hd:=timerOp_up he
   exact Nat.le_trans hs (Nat.le_of_eq hd.symm)
  ·exact hs
  ·trivial
  ·trivial
theorem serve_up (p:Program) (m:Machine) (k:Nat):stUp m.world.drawn (serve p m k):=by
 unfold serve
 simp only[]
 repeat' first
  |exact Nat.le_refl _
  |trivial
  |split
theorem askOn_up (p:Program) (m:Machine):mvUp m.world.drawn (askOn p m):=by
 unfold askOn
 simp only[]
 have pick : ∀ (w1 : World) (R : Rest) (k : Nat) (rs : List Nat), m.world.drawn ≤ w1.drawn → mvUp m.world.drawn (match (choose (.sched rs.length)).run p w1 with
     | .halt _ w => Move.machine (.ended (.stuck "sched" "") w)
     |.ok k world=>
      if rs.length≤1 then .goroutine { m with world } (rs.getD k 0)else
      match (choose (.extern "sched.slice" 65536)).run p world with
      | .halt _ w => .machine (.ended (.stuck "sched.slice" "") w)
      |.ok n world=>.goroutine { m with world,rest:={ m.rest with slice:=if n=0 then none else some (rs.getD k 0,n) } } (rs.getD k 0)):=by
  intro w1 R k rs hw
  split
  ·trivial
  ·rename_i he
   have h1:=Nat.le_trans hw (run_of he (semRun_up p _ _))
   split
   ·exact h1
   ·split
    ·trivial
    ·rename_i hf
     exact Nat.le_trans h1 (run_of hf (semRun_up p _ _))
 split
 ·trivial
 ·rename_i he
  have h0:m.world.drawn≤_:=run_of he (semRun_up p _ _)
  simp only[resW]at h0
  split
  ·exact stUp_mono h0 _ (serve_up p _ _)
  ·split
   ·split
    ·exact h0
    ·split
     ·exact h0
     ·split<;>trivial
   ·split
    ·exact pick _ m.rest 0 _ h0
    ·split
     ·trivial
     ·rename_i hf
      exact pick _ m.rest 0 _ (Nat.le_trans h0 (run_of hf (semRun_up p _ _)))
     ·rename_i hf
      exact Nat.le_trans h0 (run_of hf (semRun_up p _ _))
     ·rename_i hf
      exact pick _ m.rest 0 _ (Nat.le_trans h0 (run_of hf (semRun_up p _ _)))
theorem ask_up (p:Program) (m:Machine):mvUp m.world.drawn (ask p m):=by
 unfold ask
 split
 ·split
  ·trivial
  ·rename_i he
   have hp:=run_of he (semRun_up p _ m.world)
   have hl:=look_up p m.gs m.rest
   split
   ·rename_i hk
    have h2:=hl ‹World›
    rw[hk]at h2
    exact mvUp_mono (Nat.le_trans hp h2) _ (askOn_up p _)
   ·exact stUp_mono hp _ (hl _)
  ·rename_i he
   exact mvUp_mono (run_of he (semRun_up p _ m.world)) _ (askOn_up p _)
 ·exact askOn_up p m
theorem move_up (p:Program) (m:Machine):mvUp m.world.drawn (move p m):=by
 unfold move
 repeat' first
  |exact Nat.le_refl _
  |trivial
  |exact ask_up p _
  |split
theorem step_up (p:Program) (m:Machine):stUp m.world.drawn (step p m):=by
 unfold step stepT
 have h:=move_up p m
 revert h
 generalize move p m=v
 intro h
 cases v with
 |goroutine m1 i=>exact stUp_mono h _ (runT_up p m1 i true)
 |machine s ops=>exact h
theorem runN_up (p:Program) (n:Nat):∀m m':Machine,runN p n m=.next m'→m.world.drawn≤m'.world.drawn:=by
 induction n with
 |zero=>intro m m' h;simp only[runN,Stepped.next.injEq]at h;rw[h];exact Nat.le_refl _
 |succ n ih=>
  intro m m' h
  have hs:=step_up p m
  simp only[runN]at h
  cases hk:step p m with
  |next m1=>
   rw[hk]at h hs
   exact Nat.le_trans hs (ih m1 m' h)
  |ended o w=>rw[hk]at h;cases h
theorem calls_drawn_up {P : Program} {f : FuncId} {args : Array Value} {w : World} {R : Ending → World → Prop} (h : Calls P f args w R) (hR : ∀ e w', R e w' → e ≠ .outgrown) :
  Calls P f args w fun e w'=>R e w'∧w.drawn≤w'.drawn:=by
 intro cs
 obtain ⟨e,w',fr,hr,hc,h1,h2⟩:=h cs
 refine ⟨e,w',fr,⟨hr,?_⟩,hc,h1,h2⟩
 cases e with
 |returned v=>obtain ⟨n,hn⟩:=hc;exact runN_up P n _ _ hn
 |panicked c=>obtain ⟨n,hn⟩:=hc;exact runN_up P n _ _ hn
 |outgrown=>exact absurd rfl (hR _ _ hr)
end Go.Proofs.YtbkkchhimhlhcaaGreatDoor
