/- Part 4 of the proof that identitylaw12.SearchChecks returns true for every data that it may be called with: proof: the package variables hold what the program lays; nothing else is asked. -/
import Derived.Test.YtbkkchhimhlhcaaGreatDoorSrk03
import Derived.BigQuiet
import Derived.Lib.QuietBelow
import GoSem.ClaimGoes
set_option linter.unusedVariables false
set_option linter.unusedSimpArgs false
set_option maxRecDepth 100000
set_option maxHeartbeats 16000000
/- The world behind new blocks under one name; regions that draw their order, walked in the class of the worlds 'below'. -/
namespace Go.Proofs.YtbkkchhimhlhcaaGreatDoor
open Go.RowKit Go.Sort
open Idn (L B Bs drop_L take_L size_L)
theorem gen1 {R : World → Prop} {w : World} {C1 : Array Value} {t1 : TypeId}
  (h:∀W,Below w.heap.size w W→W.heap.size=w.heap.size+1→(∀(i:Nat) (v:Value),C1[i]?=some v→W.cell? ⟨w.heap.size,i,none⟩=some v)→(∀i,W.frozen? ⟨w.heap.size,i,none⟩=false)→R W):R (w.alloc (.cells C1 t1)):=by
 refine h _ ((Below.refl _ _).alloc (Nat.le_refl _) _) (by simp) (fun i v hv=>?_) (fun i=>?_)
 ·rw[cell_of_row _ w.heap.size i C1 t1 (0,0) (heap_alloc_new w _)];exact hv
 ·exact Lib.frozen_of_heap (heap_alloc_new w (.cells C1 t1)) i
theorem gen2 {R : World → Prop} {w : World} {C1 C2 : Array Value} {t1 t2 : TypeId}
  (h:∀W,Below w.heap.size w W→W.heap.size=w.heap.size+2→(∀(i:Nat) (v:Value),C1[i]?=some v→W.cell? ⟨w.heap.size,i,none⟩=some v)→(∀(i:Nat) (v:Value),C2[i]?=some v→W.cell? ⟨w.heap.size+1,i,none⟩=some v)→R W):R ((w.alloc (.cells C1 t1)).alloc (.cells C2 t2)):=by
 have e1:(w.alloc (.cells C1 t1)).heap.size=w.heap.size+1:=by simp
 refine h _ (((Below.refl _ _).alloc (Nat.le_refl _) _).alloc (by simp) _) (by simp) (fun i v hv=>?_) (fun i v hv=>?_)
 ·have hold : ((w.alloc (.cells C1 t1)).alloc (.cells C2 t2)).heap[w.heap.size]? = some (.cells C1 t1 (0, 0)) := by
   rw[Below.heap_alloc _ _ _ (by rw[e1];omega)];exact heap_alloc_new w _
  rw[cell_of_row _ w.heap.size i C1 t1 (0,0) hold];exact hv
 ·have hnew : ((w.alloc (.cells C1 t1)).alloc (.cells C2 t2)).heap[w.heap.size + 1]? = some (.cells C2 t2 (0, 0)) := by
   rw[←e1];exact heap_alloc_new _ _
  rw[cell_of_row _ (w.heap.size+1) i C2 t2 (0,0) hnew];exact hv
theorem cq {P : Program} {W : World} {f : FuncId} {args : Array Value} {v : Value}
  (h:∀W',Below W.heap.size W W'→Calls P f args W' fun e w'=>e=.returned v∧Below W'.heap.size W' w') :
  ∀d os,Calls P f args (grow (redrawn W d) os) fun e w''=>e=.returned v∧∃p:Regrown,w''=grow (redrawn W p.d) p.os:=
 fun d os=>Calls.regrown_of (h _ (below_regrown W d os))
end Go.Proofs.YtbkkchhimhlhcaaGreatDoor
/- slices.IndexFunc, slices.ContainsFunc at strings, whose function may lay blocks. -/
namespace Go.Proofs.YtbkkchhimhlhcaaGreatDoor
open Go.RowKit Go.Sort
open Idn (L B Bs drop_L take_L size_L)
def PredB (g:Nat) (lb:Array Value) (p:Bs→Bool) (l:List Bs) (w:World):Prop:=
 ∀(W:World) (x:Bs),x∈l→Below w.heap.size w W→Calls Tryz.prog g (#[.string (B x)]++lb) W fun e w'=>e=.returned (.bool (p x))∧Below W.heap.size W w'
def FnB (g:Nat):Prop:=∀(args:Array Value) (w:World),(callFunc g args).run Tryz.prog w=.ok (.enter g args) w
def idxOf (p:Bs→Bool) (l:List Bs):Int:=match l.findIdx? p with|none=>-1|some k=>k
theorem idxOf_none {p:Bs→Bool} {l:List Bs} (h:l.findIdx? p=none):idxOf p l = -1:=by rw[idxOf,h]
theorem idxOf_some {p:Bs→Bool} {l:List Bs} {k:Nat} (h:l.findIdx? p=some k):idxOf p l=k:=by rw[idxOf,h]
theorem idx_drop (p : Bs → Bool) (l : List Bs) (k : Nat) (hk : k < l.length) (h : l.findIdx? p = ((l.drop k).findIdx? p).map (· + k)) :
  (p l[k]=true→l.findIdx? p=some k)∧(p l[k]=false→l.findIdx? p=((l.drop (k+1)).findIdx? p).map (·+(k+1))):=by
 rw[List.drop_eq_getElem_cons hk,List.findIdx?_cons]at h
 constructor
 ·intro hp;rw[hp]at h;simpa using h
 ·intro hp;rw[hp]at h;rw[h];simp[Function.comp_def,Nat.add_assoc,Nat.add_comm 1 k]
theorem idxF_any (g : Nat) (lb : Array Value) (eg : FnB g) (p : Bs → Bool) (v : Value) (l : List Bs) (w : World) (hv : StrsV w w.heap.size v l) (hl : l.length ≤ 1000000000) (hp : PredB g lb p l w) :
  Calls Tryz.prog 267 #[v,.func (.func g) #[] lb] w fun e w'=>e=.returned (.int .i64 (idxOf p l))∧Below w.heap.size w w':=by
 obtain ⟨A,ca,rfl,hca⟩:=SlV.shape hv
 unfold FnB at eg
 generalize hr:idxOf p l=r
 have hR:=Lib.hid hr
 clear hr
 go_enter Tryz.func267,Tryz.ntmps267
 go_wp2
 go_loopw [5,8] (fun _ i wr=>∃k:Nat,k≤l.length∧i=.int .i64 k∧Below w.heap.size w wr∧Hid (l.findIdx? p=((l.drop k).findIdx? p).map (·+k))) (fun _ i _=>l.length-(intOf i).toNat)
 case atStart=>exact ⟨0,Nat.zero_le _,rfl,Below.refl _ _,by show _=_;simp⟩
 case round=>
  obtain ⟨k,hk,rfl,hb,hinv⟩:=hrel
  by_cases hlt:k<l.length
  ·obtain ⟨b,off,rfl,hbl,c0⟩:=StrsV.cell (SlV.keep hv hb) hlt
   have hcall:=hp wr l[k] (List.getElem_mem hlt) hb
   have hltI:(k:Int)<(l.length:Int):=by omega
   have hfd:=idx_drop p l k hlt hinv.out
   clear hp hinv
   cases hq:p l[k]
   ·have HF:Hid (l.findIdx? p=((l.drop (k+1)).findIdx? p).map (·+(k+1))):=hfd.2 hq
    rw[hq]at hcall
    clear hfd hq
    go_wp2_with (refine hcall.mono ?_;rintro e w' ⟨rfl,hb'⟩)
    go_roundw
    case rel=>exact ⟨k+1,by omega,by go_num,hb.trans (hb'.mono hb.size),HF⟩
    case measure=>simp[intOf];omega
   ·have HF:Hid (r=k):=by show _=_;rw[←hR.out,idxOf_some (hfd.1 hq)]
    rw[hq]at hcall
    clear hfd hq
    go_wp2_with (refine hcall.mono ?_;rintro e w' ⟨rfl,hb'⟩)
    go_ret
    exact ⟨ret_int (by rw[HF.out]),hb.trans (hb'.mono hb.size)⟩
  ·have HF:Hid (r = -1):=by show _=_;rw[←hR.out,idxOf_none];rw[hinv.out,List.drop_eq_nil_of_le (by omega)];rfl
   have hltI:¬(k:Int)<(l.length:Int):=by omega
   go_wp2
   go_ret
   exact ⟨ret_int (by rw[HF.out]),hb⟩
theorem hasF_any (g : Nat) (lb : Array Value) (eg : FnB g) (p : Bs → Bool) (v : Value) (l : List Bs) (w : World) (hv : StrsV w w.heap.size v l) (hl : l.length ≤ 1000000000) (hp : PredB g lb p l w) :
    Calls Tryz.prog 208 #[v,.func (.func g) #[] lb] w fun e w'=>e=.returned (.bool (l.any p))∧Below w.heap.size w w':=by
 have hI:=idxF_any g lb eg p v l w hv hl hp
 have hany:l.any p=(l.findIdx? p).isSome:=by
  rw[List.findIdx?_isSome]
 cases hx:l.findIdx? p with
 |none=>
  rw[idxOf_none hx]at hI
  have HF:Hid (l.any p=false):=by show _=_;rw[hany,hx];rfl
  clear hany hx
  go_enter Tryz.func208,Tryz.ntmps208
  go_wp2_with (go_at_call 267;refine hI.mono ?_;rintro e w' ⟨rfl,hb'⟩)
  go_ret
  exact ⟨ret_bool (by rw[HF.out]),hb'⟩
 |some k=>
  rw[idxOf_some hx]at hI
  have HF:Hid (l.any p=true):=by show _=_;rw[hany,hx];rfl
  clear hany hx
  go_enter Tryz.func208,Tryz.ntmps208
  go_wp2_with (go_at_call 267;refine hI.mono ?_;rintro e w' ⟨rfl,hb'⟩)
  go_ret
  exact ⟨ret_bool (by rw[HF.out]),hb'⟩
end Go.Proofs.YtbkkchhimhlhcaaGreatDoor
/- No function of the program starts a goroutine: 'goesBy' without the closure of the calls. -/
namespace Go.Proofs.YtbkkchhimhlhcaaGreatDoor
open Go.RowKit
theorem goes_no {P:Program} (h:P.funcs.any Func.goes=false) (f:FuncId):P.goes f=false:=by
 have h1:((P.closure f).any fun g=>(P.funcs[g]?).any Func.goes)=false:=by
  rw[List.any_eq_false]
  intro g _
  cases hg:P.funcs[g]? with
  |none=>simp
  |some fn=>
   rw[Array.any_eq_false]at h
   obtain ⟨hl,rfl⟩:=Array.getElem?_eq_some_iff.1 hg
   simpa using h g hl
 unfold Program.goes
 rw[h1,h,Bool.and_false];rfl
theorem goesBy_no {P:Program} (c:OpenClaim) (h:P.funcs.any Func.goes=false):false=c.goesBy P:=by
 unfold OpenClaim.goesBy Program.goesAt Program.goesFrom
 have h1:∀o:Option FuncId,o.any P.goes=false:=fun o=>by cases o<;>simp[goes_no h]
 have h2:P.inits.toList.any P.goes=false:=by rw[List.any_eq_false];intro g _;simp[goes_no h]
 rw[h1,h2]
 cases c.start<;>rfl
end Go.Proofs.YtbkkchhimhlhcaaGreatDoor
