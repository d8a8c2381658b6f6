/- Part 9 of the proof that identitylaw12.SearchChecks returns true for every data that it may be called with: proof: the package variables hold what the program lays; nothing else is asked. -/
import Derived.Test.YtbkkchhimhlhcaaGreatDoorSrk08
import Derived.Deep.RegionHeld3
set_option linter.unusedVariables false
set_option linter.unusedSimpArgs false
set_option maxRecDepth 100000
set_option maxHeartbeats 16000000
/- The program's maps: list, all, addClass. -/
namespace Go.Proofs.YtbkkchhimhlhcaaGreatDoor
open Go.RowKit Go.Sort
open Idn (L B Bs drop_L take_L size_L)
theorem Below.lay {w W:World} (h:Below w.heap.size w W) (o:Obj):Below w.heap.size w (W.alloc o):=h.alloc h.size o
theorem Below.on {w W W':World} (h:Below w.heap.size w W) (h':Below W.heap.size W W'):Below w.heap.size w W':=h.trans (h'.mono h.size)
theorem three_new {W w1 : World} {a b c : Value} {t : TypeId} (h : Below (W.alloc (.cells #[a, b, c] t)).drew.heap.size (W.alloc (.cells #[a, b, c] t)).drew w1) :
  (w1.cell? ⟨W.heap.size,0,none⟩=some a∧w1.cell? ⟨W.heap.size,1,none⟩=some b∧w1.cell? ⟨W.heap.size,2,none⟩=some c)∧
  (w1.frozen? ⟨W.heap.size,0,none⟩=false∧w1.frozen? ⟨W.heap.size,1,none⟩=false∧w1.frozen? ⟨W.heap.size,2,none⟩=false):=by
 have e:w1.heap[W.heap.size]?=some (.cells #[a,b,c] t (0,0)):=(h.block _ (by simp[World.drew])).trans (heap_alloc_new W _)
 refine ⟨⟨?_,?_,?_⟩,⟨Lib.frozen_of_heap e 0,Lib.frozen_of_heap e 1,Lib.frozen_of_heap e 2⟩⟩
 ·rw[cell_of_row _ W.heap.size 0 _ _ (0,0) e];rfl
 ·rw[cell_of_row _ W.heap.size 1 _ _ (0,0) e];rfl
 ·rw[cell_of_row _ W.heap.size 2 _ _ (0,0) e];rfl
theorem lk_sh {l:List Idn.AT} {n:Bs}:∃a b c,(lk (tyE l) (Idn.lower n)).getD (.agg #[.string ⟨#[]⟩,.int .i64 0,.bool false])=.agg #[.string a,.int .i64 b,.bool c]:=by
 cases h:Idn.ixT l n with
 |none=>rw[lk_ty_none h];exact ⟨_,_,_,rfl⟩
 |some k=>obtain ⟨t',_,h2⟩:=lk_ty_some h;rw[h2];exact ⟨_,_,_,rfl⟩
theorem lk_is {l:List Idn.AT} {n:Bs}:(lk (tyE l) (Idn.lower n)).isSome=(Idn.ixT l n).isSome:=by
 cases h:Idn.ixT l n with
 |none=>rw[lk_ty_none h];rfl
 |some k=>obtain ⟨t',_,h2⟩:=lk_ty_some h;rw[h2];rfl
theorem all1_any (bk : Nat) (mv : Value) (l : List Idn.AT) (x : Bs) (w : World) (hbk : bk < w.heap.size) (hc : w.cell? ⟨bk, 0, none⟩ = some mv) (hm : MapV w mv (tyE l)) (hx : x.length ≤ 1000000000) :
  Calls Tryz.prog 294 #[.string (B x),.pointer (some ⟨bk,0,none⟩)] w fun e w'=>e=.returned (.bool (Idn.ixT l x).isNone)∧Below w.heap.size w w':=by
 have hl:=fun W=>lower_any (B x) W (by rw[Idn.size_B];omega)
 rw[Idn.L_B]at hl
 obtain ⟨va,vb,vc,hva⟩:=lk_sh (l:=l) (n:=x)
 have hsome:=lk_is (l:=l) (n:=x)
 have hS:∀W,Below w.heap.size w W→W.cell? ⟨bk,0,none⟩=some mv∧(Instr.lookup 166 mv (.string (B (Idn.lower x))) true).run Tryz.prog W=.ok (.tuple #[.agg #[.string va,.int .i64 vb,.bool vc],.bool (Idn.ixT l x).isSome]) W∧Below w.heap.size w W:=fun W hW=>by
  refine ⟨(hW.cell hbk).trans hc,?_,hW⟩
  have:=(hm.keep hW).run (P:=Tryz.prog) Tryz.underlying9 Tryz.underlying166 (zeroAT _) (B (Idn.lower x))
  rw[Idn.L_B,hva,hsome]at this
  exact this
 have hneg:(Idn.ixT l x).isNone=!(Idn.ixT l x).isSome:=by cases Idn.ixT l x<;>rfl
 generalize (Idn.ixT l x).isSome=c at *
 generalize (Idn.ixT l x).isNone=d at *
 subst hneg
 clear hva hsome hm
 have hw0:=Below.refl w.heap.size w
 go_enter Tryz.func294,Tryz.ntmps294
 go_wp2
 go_region_held3 (fun W=>W.cell? ⟨bk,0,none⟩=some mv∧(Instr.lookup 166 mv (.string (B (Idn.lower x))) true).run Tryz.prog W=.ok (.tuple #[.agg #[.string va,.int .i64 vb,.bool vc],.bool c]) W∧Below w.heap.size w W)
  (first|(refine hS _ ?_;repeat (first|with_reducible exact Below.refl _ _|with_reducible apply Below.drew|with_reducible refine Below.lay ?_ _|with_reducible refine Below.setCell ?_ (by simp) _|with_reducible refine Below.on ?_ hb1)))
  (first|(go_at_call 125;refine (hl _).mono ?_;rintro e w1 ⟨rfl,hb1⟩;first|have hn:=three_new hb1|skip))
 all_goals
  go_wp2
  go_ret
  refine ⟨rfl,?_⟩
  repeat (first|with_reducible exact Below.refl _ _|with_reducible apply Below.drew|with_reducible refine Below.lay ?_ _|with_reducible refine Below.setCell ?_ (by simp) _|with_reducible refine Below.on ?_ hb1)
theorem fn_all1:FnB 294:=by intro a w;kernel_rfl
theorem all_any (mv mv2 : Value) (types : List Idn.AT) (v : Value) (l : List Bs) (w : World) (h1 : MapV w mv (tyE types)) (hone : mv.oneCell' = true) (hone2 : mv2.oneCell' = true) (hv : StrsV w w.heap.size v l) (hs : Sm l) :
  Calls Tryz.prog 237 #[.agg #[mv,mv2],v] w fun e w'=>e=.returned (.bool (!Idn.lacks types l))∧Below w.heap.size w w':=by
 obtain ⟨A,ca,rfl,hca⟩:=SlV.shape hv
 have hlk:Hid (Idn.lacks types l=l.any fun n=>(Idn.ixT types n).isNone):=rfl
 have hH : ∀ W, Below w.heap.size w W → W.heap.size = w.heap.size + 1 → W.cell? ⟨w.heap.size, 0, none⟩ = some mv →
   Calls Tryz.prog 208 #[.slice A l.length ca,.func (.func 294) #[] #[.pointer (some ⟨w.heap.size,0,none⟩)]] W fun e w'=>e=.returned (.bool (l.any fun n=>(Idn.ixT types n).isNone))∧Below W.heap.size W w':=fun W hW hsz hc=>
  hasF_any 294 #[.pointer (some ⟨w.heap.size,0,none⟩)] fn_all1 _ _ l W (SlV.mono (SlV.keep hv hW) (by omega)) hs.1 fun W' x hx hb=>
   all1_any w.heap.size mv types x W' (by have:=hb.size;omega) ((hb.cell (p:=⟨w.heap.size,0,none⟩) (by show w.heap.size<_;omega)).trans hc) ((h1.keep hW).keep hb) (hs.2 x hx)
 generalize l.any (fun n=>(Idn.ixT types n).isNone)=r at *
 go_enter Tryz.func237,Tryz.ntmps237
 go_wp2_with fail
 with_reducible refine gen1 (R:=fun W=>Calls Tryz.prog 208 _ W _) ?_
 intro W hbW hszW hc1 _
 refine (hH W hbW hszW (hc1 0 _ rfl)).mono ?_
 rintro e w1 ⟨rfl,hb1⟩
 clear hH hc1
 go_wp2
 go_ret
 exact ⟨ret_bool (by rw[hlk.out]),hbW.trans (hb1.mono hbW.size)⟩
theorem list_any (mv mv2 : Value) (A : Option Addr) (n c : Nat) (w : World) :
  Calls Tryz.prog 236 #[.agg #[mv,mv2],.slice A n c] w fun e w'=>e=.returned (.int .i64 (if decide (64<n)then 3 else 0))∧Below w.heap.size w w':=by
 by_cases h:64<n
 ·have h':(64:Int)<(n:Int):=by omega
  rw[if_pos (decide_eq_true h)]
  clear h
  go_enter Tryz.func236,Tryz.ntmps236
  go_wp2
  go_ret
  exact ⟨rfl,(Below.refl _ _).alloc (Nat.le_refl _) _⟩
 ·have h':(n:Int)≤(64:Int):=by omega
  rw[if_neg (by simpa using h)]
  clear h
  go_enter Tryz.func236,Tryz.ntmps236
  go_wp2
  go_ret
  exact ⟨rfl,(Below.refl _ _).alloc (Nat.le_refl _) _⟩
end Go.Proofs.YtbkkchhimhlhcaaGreatDoor
/- The program's maps: addClass. -/
namespace Go.Proofs.YtbkkchhimhlhcaaGreatDoor
open Go.RowKit Go.Sort
open Idn (L B Bs drop_L take_L size_L)
def ClK (es:List (Bs×Value)) (l:List Idn.Cl):Prop:=es.map (·.1)=l.map fun c=>Idn.lower c.name
def ClSh (es:List (Bs×Value)):Prop:=∀p∈es,∃a b A n c A' n' c',p.2=.agg #[.string a,.string b,.slice A n c,.slice A' n' c']
theorem findIdx_map {α β:Type} (f:α→β) (p:β→Bool) (l:List α):(l.map f).findIdx? p=l.findIdx? (fun x=>p (f x)):=by
 induction l with
 |nil=>rfl
 |cons x l ih=>simp only[List.map_cons,List.findIdx?_cons,ih]
theorem ClK.idx {es:List (Bs×Value)} {l:List Idn.Cl} (h:ClK es l) (n:Bs):es.findIdx? (fun p=>decide (p.1=Idn.lower n))=Idn.ixC l n:=by
 have h1:=findIdx_map (·.1) (fun k=>decide (k=Idn.lower n)) es
 have h2:=findIdx_map (fun c:Idn.Cl=>Idn.lower c.name) (fun k=>decide (k=Idn.lower n)) l
 rw[←h1,h,h2];rfl
theorem ClK.lk {es:List (Bs×Value)} {l:List Idn.Cl} (h:ClK es l) (n:Bs):(lk es (Idn.lower n)).isSome=(Idn.ixC l n).isSome:=by
 rw[←h.idx,Go.Proofs.YtbkkchhimhlhcaaGreatDoor.lk,find_ix]
 cases hx:es.findIdx? _ with
 |none=>rfl
 |some k=>
  have:=(List.findIdx?_eq_some_iff_getElem.1 hx).1
  simp[this]
theorem ClSh.lk {es:List (Bs×Value)} (h:ClSh es) (n:Bs):∃a b A k c A' k' c',(lk es n).getD (.agg #[.string ⟨#[]⟩,.string ⟨#[]⟩,.slice none 0 0,.slice none 0 0])=.agg #[.string a,.string b,.slice A k c,.slice A' k' c']:=by
 unfold Go.Proofs.YtbkkchhimhlhcaaGreatDoor.lk
 cases hx:es.find? _ with
 |none=>exact ⟨_,_,_,_,_,_,_,_,rfl⟩
 |some p=>
  obtain ⟨a,b,A,k,c,A',k',c',h'⟩:=h p (List.mem_of_find?_eq_some hx)
  exact ⟨a,b,A,k,c,A',k',c',h'⟩
theorem genB {R:World→Prop} {lo:Nat} {w w':World} (h:∀W,Below lo w W→R W) (hb:Below lo w w'):R w':=h w' hb
theorem four_new {W w1 : World} {a b c d : Value} {t : TypeId} (h : Below (W.alloc (.cells #[a, b, c, d] t)).drew.heap.size (W.alloc (.cells #[a, b, c, d] t)).drew w1) :
  (w1.cell? ⟨W.heap.size,0,none⟩=some a∧w1.cell? ⟨W.heap.size,1,none⟩=some b∧w1.cell? ⟨W.heap.size,2,none⟩=some c∧w1.cell? ⟨W.heap.size,3,none⟩=some d)∧
  (w1.frozen? ⟨W.heap.size,0,none⟩=false∧w1.frozen? ⟨W.heap.size,1,none⟩=false∧w1.frozen? ⟨W.heap.size,2,none⟩=false∧w1.frozen? ⟨W.heap.size,3,none⟩=false):=by
 have e:w1.heap[W.heap.size]?=some (.cells #[a,b,c,d] t (0,0)):=(h.block _ (by simp[World.drew])).trans (heap_alloc_new W _)
 refine ⟨⟨?_,?_,?_,?_⟩,⟨Lib.frozen_of_heap e 0,Lib.frozen_of_heap e 1,Lib.frozen_of_heap e 2,Lib.frozen_of_heap e 3⟩⟩
 ·rw[cell_of_row _ W.heap.size 0 _ _ (0,0) e];rfl
 ·rw[cell_of_row _ W.heap.size 1 _ _ (0,0) e];rfl
 ·rw[cell_of_row _ W.heap.size 2 _ _ (0,0) e];rfl
 ·rw[cell_of_row _ W.heap.size 3 _ _ (0,0) e];rfl
theorem addClass_any (b1 b2 : Nat) (types : List Idn.AT) (es : List (Bs × Value)) (prev : List Idn.Cl) (c : Idn.Cl) (Am : Option Addr) (cm : Nat) (An : Option Addr) (cn : Nat) (w : World)
  (hm1:MapIs w b1 (tyE types)) (hm2:MapIs w b2 es) (hne:b1≠b2) (hK:ClK es prev) (hsh:ClSh es) (hv:StrsV w w.heap.size (.slice Am c.must.length cm) c.must) (hu:StrsV w w.heap.size (.slice An c.may.length cn) c.may)
  (hs1:c.name.length≤1000000000) (hs2:c.super.length≤1000000000) (hsm:Sm c.must) (hsn:Sm c.may) :
  Calls Tryz.prog 189 #[.agg #[.map (some b1),.map (some b2)],.agg #[.string (B c.name),.string (B c.super),.slice Am c.must.length cm,.slice An c.may.length cn]] w
   fun e w'=>e=.returned (.int .i64 (Idn.clErr types prev c))∧But b2 w w'∧(Idn.clErr types prev c=0→MapIs w' b2 (es++[(Idn.lower c.name,.agg #[.string (B c.name),.string (B c.super),.slice Am c.must.length cm,.slice An c.may.length cn])])):=by
 have hl:=fun W=>lower_any (B c.name) W (by rw[Idn.size_B];omega)
 have hl2:=fun W=>lower_any (B c.super) W (by rw[Idn.size_B];omega)
 have hN:=fun W=>name_any (B c.name) W (by rw[Idn.size_B];omega)
 rw[Idn.L_B]at hN hl hl2
 obtain ⟨va,vb,A1,k1,c1,A2,k2,c2,hva⟩:=hsh.lk (L (B (Idn.lower c.name)))
 have hsome:(lk es (L (B (Idn.lower c.name)))).isSome=(Idn.ixC prev c.name).isSome:=by rw[Idn.L_B];exact hK.lk _
 obtain ⟨ua,ub,A3,k3,c3,A4,k4,c4,hua⟩:=hsh.lk (L (B (Idn.lower c.super)))
 have hsup:(lk es (L (B (Idn.lower c.super)))).isSome=(Idn.ixC prev c.super).isSome:=by rw[Idn.L_B];exact hK.lk _
 generalize hrr:Idn.clErr types prev c=r
 have hR0:Hid _:=hrr
 clear hrr
 go_enter Tryz.func189,Tryz.ntmps189
 go_wp2_with fail
 with_reducible refine gen2 (R:=fun W=>Calls Tryz.prog 125 _ W _) ?_
 intro W hbW hszW hc1 hc2
 refine (hl W).mono ?_
 rintro e w1 ⟨rfl,hb1⟩
 have b0:=cell_later hb1 (hc1 0 _ rfl)
 have b1':=cell_later hb1 (hc1 1 _ rfl)
 have d0:=cell_later hb1 (hc2 0 _ rfl)
 have d1:=cell_later hb1 (hc2 1 _ rfl)
 have d2:=cell_later hb1 (hc2 2 _ rfl)
 have d3:=cell_later hb1 (hc2 3 _ rfl)
 clear hc1 hc2 hl
 have hm21:MapIs w1 b2 es:=(hm2.keep hbW).keep hb1
 have hbw1:Below w.heap.size w w1:=hbW.trans (hb1.mono hbW.size)
 have hsz1:w.heap.size+2≤w1.heap.size:=by have:=hb1.size;omega
 go_wp2_with (at_lookup;refine wpList_look w1 rfl _ _ 167 rfl 9 91 Tryz.underlying9 Tryz.underlying167 (zeroCL _) hm21.v rfl _ rfl hva hsome ?_)
 with_reducible refine gen1 (R:=fun W=>Code.wp Tryz.prog _ _ _ W) ?_
 intro W2 hbW2 hszW2 _ _
 replace b0:=cell_later hbW2 b0
 replace b1':=cell_later hbW2 b1'
 replace d0:=cell_later hbW2 d0
 replace d1:=cell_later hbW2 d1
 replace d2:=cell_later hbW2 d2
 replace d3:=cell_later hbW2 d3
 have hm22:MapIs W2 b2 es:=hm21.keep hbW2
 have hbw2:Below w.heap.size w W2:=hbw1.trans (hbW2.mono hbw1.size)
 have hsz2:w.heap.size+2≤W2.heap.size:=by omega
 have hS:∀W',Below W2.heap.size W2 W'→W'.cell? ⟨w.heap.size,1,none⟩=some (.map (some b2))∧W'.cell? ⟨w.heap.size+1,1,none⟩=some (.string (B c.super))∧(Instr.lookup 167 (.map (some b2)) (.string (B (Idn.lower c.super))) true).run Tryz.prog W'=.ok (.tuple #[.agg #[.string ua,.string ub,.slice A3 k3 c3,.slice A4 k4 c4],.bool (Idn.ixC prev c.super).isSome]) W'∧Below W2.heap.size W2 W':=fun W' hW=>by
  refine ⟨cell_later hW b1',cell_later hW d1,?_,hW⟩
  have:=(hm22.v.keep hW).run (P:=Tryz.prog) Tryz.underlying9 Tryz.underlying167 (zeroCL _) (B (Idn.lower c.super))
  rw[hua,hsup]at this
  exact this
 clear hva hsome
 generalize hsb:(Idn.ixC prev c.super).isSome=sb at *
 have hSB:=Lib.hid hsb
 clear hsb
 have hw0:=Below.refl W2.heap.size W2
 clear hszW hszW2
 have hlow:w.heap.size≤W2.heap.size:=by omega
 go_region_held3 (fun W'=>W'.cell? ⟨w.heap.size,1,none⟩=some (.map (some b2))∧W'.cell? ⟨w.heap.size+1,1,none⟩=some (.string (B c.super))∧(Instr.lookup 167 (.map (some b2)) (.string (B (Idn.lower c.super))) true).run Tryz.prog W'=.ok (.tuple #[.agg #[.string ua,.string ub,.slice A3 k3 c3,.slice A4 k4 c4],.bool sb]) W'∧Below W2.heap.size W2 W')
  (first|(refine hS _ ?_;repeat (first|with_reducible exact Below.refl _ _|with_reducible apply Below.drew|with_reducible refine Below.lay ?_ _|with_reducible refine Below.setCell ?_ (by simp) _|with_reducible refine Below.on ?_ hb3)))
  (first|(go_at_call 125;refine (hl2 _).mono ?_;rintro e w3 ⟨rfl,hb3⟩;first|have hn:=four_new hb3|skip))
 all_goals
  with_reducible refine genB (R:=fun W=>Exit.then _ _ _ _ W) (lo:=W2.heap.size) (w:=W2) ?_ (by repeat (first|with_reducible exact Below.refl _ _|with_reducible apply Below.drew|with_reducible refine Below.lay ?_ _|with_reducible refine Below.setCell ?_ (by simp) _|with_reducible refine Below.on ?_ hb3))
  intro W4 hb4
  try clear hn
  try clear hb3
  replace b0:=cell_later hb4 b0
  replace b1':=cell_later hb4 b1'
  replace d0:=cell_later hb4 d0
  replace d1:=cell_later hb4 d1
  replace d2:=cell_later hb4 d2
  replace d3:=cell_later hb4 d3
  have hbw:=Below.on hbw2 hb4
  clear hb4 hw0 hS
  cases n0:Idn.name c.name
  ·have HF:Hid (r=5):=by show _=_;rw[←hR0.out,Idn.clErr,n0];rfl
   rw[n0]at hN
   go_wp2_with (go_at_call 82;refine (hN _).mono ?_;rintro e w5 ⟨rfl,rfl⟩)
   go_ret
   exact ⟨ret_int (by rw[HF.out]),But.of_below hbw _,fun h=>by rw[HF.out]at h;cases h⟩
  rw[n0]at hN
  cases n1:(Idn.ixC prev c.name).isSome
  case true=>
   have HF:Hid (r=7):=by show _=_;rw[←hR0.out,Idn.clErr,n0,n1];rfl
   go_wp2_with (go_at_call 82;refine (hN _).mono ?_;rintro e w5 ⟨rfl,rfl⟩)
   go_ret
   exact ⟨ret_int (by rw[HF.out]),But.of_below hbw _,fun h=>by rw[HF.out]at h;cases h⟩
  have hnone:lk es (L (B (Idn.lower c.name)))=none:=by
   have:=hK.lk c.name
   rw[n1]at this
   rw[Idn.L_B]
   exact Option.isNone_iff_eq_none.1 (Option.isSome_eq_false_iff.1 this)
  by_cases n2:(!c.super.isEmpty&&!sb)=true
  case pos=>
   have HF:Hid (r=6):=by show _=_;rw[←hR0.out,Idn.clErr,n0,n1];rw[show (Idn.ixC prev c.super).isNone=!sb by rw[←hSB.out];cases Idn.ixC prev c.super<;>rfl,n2];rfl
   rw[Bool.and_eq_true]at n2
   have n2a:(B c.super).toList.isEmpty=false:=by rw[toList_L,Idn.L_B];simpa using n2.1
   have n2b:sb=false:=by simpa using n2.2
   subst n2b
   clear n2
   go_wp2_with (go_at_call 82;refine (hN _).mono ?_;rintro e w5 ⟨rfl,rfl⟩)
   go_ret
   exact ⟨ret_int (by rw[HF.out]),But.of_below hbw _,fun h=>by rw[HF.out]at h;cases h⟩
  have n2c:((B c.super).toList.isEmpty=true∨((B c.super).toList.isEmpty=false∧sb=true)):=by
   rw[toList_L,Idn.L_B]
   cases h:c.super.isEmpty
   ·right;rw[h]at n2;exact ⟨rfl,by simpa using n2⟩
   ·exact .inl rfl
  have hR1:Hid (r=if decide (64<c.must.length)||decide (64<c.may.length)then 3 else if Idn.lacks types c.must||Idn.lacks types c.may then 6 else 0):=by
   show _=_;rw[←hR0.out,Idn.clErr,n0,n1]
   rw[show (Idn.ixC prev c.super).isNone=!sb by rw[←hSB.out];cases Idn.ixC prev c.super<;>rfl]
   rw[show (!c.super.isEmpty&&!sb)=false by simpa using n2];rfl
  have hLm:=fun W=>list_any (.map (some b1)) (.map (some b2)) Am c.must.length cm W
  have hLn:=fun W=>list_any (.map (some b1)) (.map (some b2)) An c.may.length cn W
  have hAm:=fun W' (hW':Below w.heap.size w W')=>all_any (.map (some b1)) (.map (some b2)) types _ c.must W' (hm1.keep hW').v rfl rfl (SlV.mono (SlV.keep hv hW') hW'.size) hsm
  have hAn:=fun W' (hW':Below w.heap.size w W')=>all_any (.map (some b1)) (.map (some b2)) types _ c.may W' (hm1.keep hW').v rfl rfl (SlV.mono (SlV.keep hu hW') hW'.size) hsn
  clear n2 hSB
  rcases n2c with n2a|⟨n2a,rfl⟩
  all_goals
   by_cases n3:64<c.must.length
   case pos=>
    have HF:Hid (r=3):=by show _=_;rw[hR1.out,decide_eq_true n3];rfl
    rw[if_pos (decide_eq_true n3)]at hLm
    clear hAm hAn hLn n3
    go_wp2_with (first|(go_at_call 82;refine (hN _).mono ?_;rintro e w5 ⟨rfl,rfl⟩)|(go_at_call 236;(first|with_reducible refine (hLm _).mono ?_|with_reducible refine (hLn _).mono ?_);rintro e w5 ⟨rfl,hb5⟩;replace b0:=cell_later hb5 b0;replace b1':=cell_later hb5 b1';replace d0:=cell_later hb5 d0;replace d1:=cell_later hb5 d1;replace d2:=cell_later hb5 d2;replace d3:=cell_later hb5 d3;replace hbw:=Below.on hbw hb5))
    go_ret
    exact ⟨ret_int (by rw[HF.out]),But.of_below hbw _,fun h=>by rw[HF.out]at h;cases h⟩
   rw[if_neg (by simpa using n3)]at hLm
   by_cases n4:64<c.may.length
   case pos=>
    have HF:Hid (r=3):=by show _=_;rw[hR1.out,decide_eq_true n4,Bool.or_true];rfl
    rw[if_pos (decide_eq_true n4)]at hLn
    clear hAm hAn n3 n4
    go_wp2_with (first|(go_at_call 82;refine (hN _).mono ?_;rintro e w5 ⟨rfl,rfl⟩)|(go_at_call 236;(first|with_reducible refine (hLm _).mono ?_|with_reducible refine (hLn _).mono ?_);rintro e w5 ⟨rfl,hb5⟩;replace b0:=cell_later hb5 b0;replace b1':=cell_later hb5 b1';replace d0:=cell_later hb5 d0;replace d1:=cell_later hb5 d1;replace d2:=cell_later hb5 d2;replace d3:=cell_later hb5 d3;replace hbw:=Below.on hbw hb5))
    go_ret
    exact ⟨ret_int (by rw[HF.out]),But.of_below hbw _,fun h=>by rw[HF.out]at h;cases h⟩
   rw[if_neg (by simpa using n4)]at hLn
   have hR2:Hid (r=if Idn.lacks types c.must||Idn.lacks types c.may then 6 else 0):=by show _=_;rw[hR1.out,decide_eq_false n3,decide_eq_false n4];rfl
   clear n3 n4
   cases n5:Idn.lacks types c.must
   case true=>
    have HF:Hid (r=6):=by show _=_;rw[hR2.out,n5];rfl
    rw[n5]at hAm
    go_wp2_with (first|(go_at_call 82;refine (hN _).mono ?_;rintro e w5 ⟨rfl,rfl⟩)|(go_at_call 236;(first|with_reducible refine (hLm _).mono ?_|with_reducible refine (hLn _).mono ?_);rintro e w5 ⟨rfl,hb5⟩;replace b0:=cell_later hb5 b0;replace b1':=cell_later hb5 b1';replace d0:=cell_later hb5 d0;replace d1:=cell_later hb5 d1;replace d2:=cell_later hb5 d2;replace d3:=cell_later hb5 d3;replace hbw:=Below.on hbw hb5)|(go_at_call 237;(first|with_reducible refine (hAm _ hbw).mono ?_|with_reducible refine (hAn _ hbw).mono ?_);rintro e w5 ⟨rfl,hb5⟩;replace b0:=cell_later hb5 b0;replace b1':=cell_later hb5 b1';replace d0:=cell_later hb5 d0;replace d1:=cell_later hb5 d1;replace d2:=cell_later hb5 d2;replace d3:=cell_later hb5 d3;replace hbw:=Below.on hbw hb5))
    go_ret
    exact ⟨ret_int (by rw[HF.out]),But.of_below hbw _,fun h=>by rw[HF.out]at h;cases h⟩
   rw[n5]at hAm
   cases n6:Idn.lacks types c.may
   case true=>
    have HF:Hid (r=6):=by show _=_;rw[hR2.out,n5,n6];rfl
    rw[n6]at hAn
    go_wp2_with (first|(go_at_call 82;refine (hN _).mono ?_;rintro e w5 ⟨rfl,rfl⟩)|(go_at_call 236;(first|with_reducible refine (hLm _).mono ?_|with_reducible refine (hLn _).mono ?_);rintro e w5 ⟨rfl,hb5⟩;replace b0:=cell_later hb5 b0;replace b1':=cell_later hb5 b1';replace d0:=cell_later hb5 d0;replace d1:=cell_later hb5 d1;replace d2:=cell_later hb5 d2;replace d3:=cell_later hb5 d3;replace hbw:=Below.on hbw hb5)|(go_at_call 237;(first|with_reducible refine (hAm _ hbw).mono ?_|with_reducible refine (hAn _ hbw).mono ?_);rintro e w5 ⟨rfl,hb5⟩;replace b0:=cell_later hb5 b0;replace b1':=cell_later hb5 b1';replace d0:=cell_later hb5 d0;replace d1:=cell_later hb5 d1;replace d2:=cell_later hb5 d2;replace d3:=cell_later hb5 d3;replace hbw:=Below.on hbw hb5))
    go_ret
    exact ⟨ret_int (by rw[HF.out]),But.of_below hbw _,fun h=>by rw[HF.out]at h;cases h⟩
   rw[n6]at hAn
   have HF:Hid (r=0):=by show _=_;rw[hR2.out,n5,n6];rfl
   go_wp2_with (first|(go_at_call 82;refine (hN _).mono ?_;rintro e w5 ⟨rfl,rfl⟩)|(go_at_call 236;(first|with_reducible refine (hLm _).mono ?_|with_reducible refine (hLn _).mono ?_);rintro e w5 ⟨rfl,hb5⟩;replace b0:=cell_later hb5 b0;replace b1':=cell_later hb5 b1';replace d0:=cell_later hb5 d0;replace d1:=cell_later hb5 d1;replace d2:=cell_later hb5 d2;replace d3:=cell_later hb5 d3;replace hbw:=Below.on hbw hb5)|(go_at_call 237;(first|with_reducible refine (hAm _ hbw).mono ?_|with_reducible refine (hAn _ hbw).mono ?_);rintro e w5 ⟨rfl,hb5⟩;replace b0:=cell_later hb5 b0;replace b1':=cell_later hb5 b1';replace d0:=cell_later hb5 d0;replace d1:=cell_later hb5 d1;replace d2:=cell_later hb5 d2;replace d3:=cell_later hb5 d3;replace hbw:=Below.on hbw hb5)|(at_mapUpdate;refine wpList_put _ rfl _ _ _ 167 rfl 9 91 Tryz.underlying9 Tryz.underlying167 b2 rfl (hm2.keep hbw) _ rfl _ rfl hnone ?_;intro w9 hm9 hbut9))
   go_ret
   exact ⟨ret_int (by rw[HF.out]),(But.of_below hbw _).trans hbut9,fun _=>hm9⟩
end Go.Proofs.YtbkkchhimhlhcaaGreatDoor
/- schema: word, orNone, typeLine, classLine. -/
namespace Go.Proofs.YtbkkchhimhlhcaaGreatDoor
open Go.RowKit Go.Sort
open Idn (L B Bs drop_L take_L size_L)
theorem L_app (s t:ByteArray):L (s++t)=L s++L t:=by
 show (s++t).data.toList=_
 rw[ByteArray.data_append];simp[L]
theorem B_app (a b:Bs):B a++B b=B (a++b):=by
 apply Idn.L_inj;rw[L_app];rfl
theorem run_add {P:Program} {a b:Bs} {s t:ByteArray} (hs:s=B a) (ht:t=B b) (h:a.length+b.length≤9223372036854775807) (w:World):(Op.stringOp .add s t).run P w=.ok (.string (B (a++b))) w:=by
 subst hs ht
 rw[run_string_add_sum w _ _ (by rw[Idn.size_B,Idn.size_B];exact h),B_app]
end Go.Proofs.YtbkkchhimhlhcaaGreatDoor
/- schema: classLine. -/
namespace Go.Proofs.YtbkkchhimhlhcaaGreatDoor
open Go.RowKit Go.Sort
open Idn (L B Bs drop_L take_L size_L)
end Go.Proofs.YtbkkchhimhlhcaaGreatDoor
/- examine. -/
namespace Go.Proofs.YtbkkchhimhlhcaaGreatDoor
open Go.RowKit Go.Sort
open Idn (L B Bs drop_L take_L size_L)
theorem But.cell {b:Nat} {w w':World} (h:But b w w') {p i:Nat} {v:Value} (hc:w.cell? ⟨p,i,none⟩=some v) (hp:p<w.heap.size) (hne:p≠b):w'.cell? ⟨p,i,none⟩=some v:=
 (World.cell?_of_block (w:=w) (a:=⟨p,i,none⟩) (h.block p hp hne)).trans hc
theorem But.frozen {b:Nat} {w w':World} (h:But b w w') {p i:Nat} {v:Bool} (hc:w.frozen? ⟨p,i,none⟩=v) (hp:p<w.heap.size) (hne:p≠b):w'.frozen? ⟨p,i,none⟩=v:=
 (World.frozen?_of_block (w:=w) (a:=⟨p,i,none⟩) (h.block p hp hne)).trans hc
theorem gen5 {R : World → Prop} {w : World} {C1 C2 C5 : Array Value} {t1 t2 t5 : TypeId}
  (h:∀W,Below w.heap.size w W→W.heap.size=w.heap.size+5→(∀(i:Nat) (v:Value),C1[i]?=some v→W.cell? ⟨w.heap.size,i,none⟩=some v)→(∀(i:Nat) (v:Value),C2[i]?=some v→W.cell? ⟨w.heap.size+1,i,none⟩=some v)→
   (∀i,W.frozen? ⟨w.heap.size+1,i,none⟩=false)→MapIs W (w.heap.size+1+1) []→MapIs W (w.heap.size+1+1+1) []→(∀(i:Nat) (v:Value),C5[i]?=some v→W.cell? ⟨w.heap.size+1+1+1+1,i,none⟩=some v)→R W) :
  R (((((w.alloc (.cells C1 t1)).alloc (.cells C2 t2)).alloc (.map #[] 0)).alloc (.map #[] 0)).alloc (.cells C5 t5)):=by
 have z1:(w.alloc (.cells C1 t1)).heap.size=w.heap.size+1:=by simp
 have z2:((w.alloc (.cells C1 t1)).alloc (.cells C2 t2)).heap.size=w.heap.size+2:=by simp
 have z3:(((w.alloc (.cells C1 t1)).alloc (.cells C2 t2)).alloc (.map #[] 0)).heap.size=w.heap.size+3:=by simp
 have z4:((((w.alloc (.cells C1 t1)).alloc (.cells C2 t2)).alloc (.map #[] 0)).alloc (.map #[] 0)).heap.size=w.heap.size+4:=by simp
 have e1:(((((w.alloc (.cells C1 t1)).alloc (.cells C2 t2)).alloc (.map #[] 0)).alloc (.map #[] 0)).alloc (.cells C5 t5)).heap[w.heap.size]?=some (.cells C1 t1 (0,0)):=by
  rw[Below.heap_alloc _ _ _ (by omega),Below.heap_alloc _ _ _ (by omega),Below.heap_alloc _ _ _ (by omega),Below.heap_alloc _ _ _ (by omega)];exact heap_alloc_new w _
 have e2:(((((w.alloc (.cells C1 t1)).alloc (.cells C2 t2)).alloc (.map #[] 0)).alloc (.map #[] 0)).alloc (.cells C5 t5)).heap[w.heap.size+1]?=some (.cells C2 t2 (0,0)):=by
  rw[Below.heap_alloc _ _ _ (by omega),Below.heap_alloc _ _ _ (by omega),Below.heap_alloc _ _ _ (by omega),←z1];exact heap_alloc_new _ _
 have e3:(((((w.alloc (.cells C1 t1)).alloc (.cells C2 t2)).alloc (.map #[] 0)).alloc (.map #[] 0)).alloc (.cells C5 t5)).heap[w.heap.size+2]?=some (.map #[] 0):=by
  rw[Below.heap_alloc _ _ _ (by omega),Below.heap_alloc _ _ _ (by omega),←z2];exact heap_alloc_new _ _
 have e4:(((((w.alloc (.cells C1 t1)).alloc (.cells C2 t2)).alloc (.map #[] 0)).alloc (.map #[] 0)).alloc (.cells C5 t5)).heap[w.heap.size+3]?=some (.map #[] 0):=by
  rw[Below.heap_alloc _ _ _ (by omega),←z3];exact heap_alloc_new _ _
 have e5:(((((w.alloc (.cells C1 t1)).alloc (.cells C2 t2)).alloc (.map #[] 0)).alloc (.map #[] 0)).alloc (.cells C5 t5)).heap[w.heap.size+4]?=some (.cells C5 t5 (0,0)):=by
  rw[←z4];exact heap_alloc_new _ _
 refine h _ (((((Below.refl _ _).alloc (Nat.le_refl _) _).alloc (by omega) _).alloc (by omega) _).alloc (by omega) _ |>.alloc (by omega) _) (by simp) (fun i v hv=>?_) (fun i v hv=>?_) (fun i=>Lib.frozen_of_heap e2 i) ⟨#[],0,e3,rfl⟩ ⟨#[],0,e4,rfl⟩ (fun i v hv=>?_)
 ·rw[cell_of_row _ _ i _ _ (0,0) e1];exact hv
 ·rw[cell_of_row _ _ i _ _ (0,0) e2];exact hv
 ·rw[cell_of_row _ _ i _ _ (0,0) e5];exact hv
def ClsIs (w:World) (hi:Nat) (es:List (Bs×Value)) (l:List Idn.Cl):Prop:=
 es.length=l.length∧∀(i:Nat) (c:Idn.Cl),l[i]?=some c→∃v u,es[i]?=some (Idn.lower c.name,.agg #[.string (B c.name),.string (B c.super),v,u])∧StrsV w hi v c.must∧StrsV w hi u c.may
theorem ClsIs.K {w:World} {hi:Nat} {es:List (Bs×Value)} {l:List Idn.Cl} (h:ClsIs w hi es l):ClK es l:=by
 unfold ClK
 apply List.ext_getElem (by simp[h.1])
 intro i h1 h2
 simp only[List.length_map]at h1 h2
 obtain ⟨v,u,he,_⟩:=h.2 i l[i] (List.getElem?_eq_getElem h2)
 rw[List.getElem?_eq_getElem h1]at he
 injection he with he
 simp[he]
theorem ClsIs.Sh {w:World} {hi:Nat} {es:List (Bs×Value)} {l:List Idn.Cl} (h:ClsIs w hi es l):ClSh es:=by
 intro p hp
 obtain ⟨i,hi1,rfl⟩:=List.getElem_of_mem hp
 obtain ⟨v,u,he,hv,hu⟩:=h.2 i (l[i]'(by rw[←h.1];exact hi1)) (List.getElem?_eq_getElem (by rw[←h.1];exact hi1))
 rw[List.getElem?_eq_getElem hi1]at he
 injection he with he
 obtain ⟨A,c,rfl,_⟩:=SlV.shape hv
 obtain ⟨A',c',rfl,_⟩:=SlV.shape hu
 exact ⟨_,_,_,_,_,_,_,_,by rw[he]⟩
theorem ClsIs.push {w : World} {hi : Nat} {es : List (Bs × Value)} {l : List Idn.Cl} (h : ClsIs w hi es l) (c : Idn.Cl) {v u : Value} (hv : StrsV w hi v c.must) (hu : StrsV w hi u c.may) :
  ClsIs w hi (es++[(Idn.lower c.name,.agg #[.string (B c.name),.string (B c.super),v,u])]) (l++[c]):=by
 refine ⟨by simp[h.1],fun i c' hc=>?_⟩
 by_cases hi':i<l.length
 ·rw[List.getElem?_append_left hi']at hc
  obtain ⟨v',u',h1,h2,h3⟩:=h.2 i c' hc
  exact ⟨v',u',by rw[List.getElem?_append_left (by rw[h.1];exact hi')];exact h1,h2,h3⟩
 ·rw[List.getElem?_append_right (by omega)]at hc
  have hi0:i-l.length=0:=by
   have:=(List.getElem?_eq_some_iff.1 hc).1
   simp at this
   omega
  rw[hi0]at hc
  simp at hc
  subst hc
  exact ⟨v,u,by rw[List.getElem?_append_right (by rw[h.1];omega),h.1,hi0];rfl,hv,hu⟩
theorem ClsIs.keep {w w':World} {hi:Nat} {es:List (Bs×Value)} {l:List Idn.Cl} (h:ClsIs w hi es l) (hb:Below hi w w'):ClsIs w' hi es l:=
 ⟨h.1,fun i c hc=>by
  obtain ⟨v,u,h1,h2,h3⟩:=h.2 i c hc
  exact ⟨v,u,h1,SlV.keep h2 hb,SlV.keep h3 hb⟩⟩
theorem MapIs.ne {w:World} {b:Nat} {l:List (Bs×Value)} (h:MapIs w b l) {p i:Nat} {v:Value} (hc:w.cell? ⟨p,i,none⟩=some v):b≠p:=by
 obtain ⟨es,c,hb,_⟩:=h
 rintro rfl
 simp[World.cell?,hb]at hc
theorem MapIs.set {w:World} {b:Nat} {l:List (Bs×Value)} (h:MapIs w b l) {p i:Nat} (v:Value) (hp:b≠p):MapIs (w.setCell ⟨p,i,none⟩ v) b l:=
 h.block (Below.heap_setCell w ⟨p,i,none⟩ v b hp)
theorem ClsIs.whole {w:World} {hi:Nat} {es:List (Bs×Value)} {l:List Idn.Cl} {k:Nat} (h:ClsIs w hi es (l.take k)) (hk:l.length≤k):ClsIs w hi es l:=by rw[List.take_of_length_le hk]at h;exact h
def KnV (w:World) (hi:Nat) (m1 m2:Value) (s:Idn.Sch):Prop:=MapV w m1 (tyE s.types)∧∃es,MapV w m2 es∧ClsIs w hi es s.classes
def sound (s:Idn.Sch):Idn.Sch:=if Idn.sCheck s=0 then s else ⟨[],[]⟩
theorem KnV.empty (w:World) (hi:Nat):KnV w hi (.map none) (.map none) ⟨[],[]⟩:=⟨.inl ⟨rfl,rfl⟩,[],.inl ⟨rfl,rfl⟩,rfl,fun i c h=>by simp at h⟩
theorem examine_any (v : Value) (s : Idn.Sch) (w : World) (hi : Nat) (hhi : hi ≤ w.heap.size) (hv0 : SchV w hi v s) (hs : SSm s) :
    Calls Tryz.prog 120 #[v] w fun e w'=>∃m1 m2,e=.returned (.tuple #[.agg #[m1,m2],.int .i64 (Idn.sCheck s)])∧Below w.heap.size w w'∧KnV w' hi m1 m2 (sound s):=by
 obtain ⟨a,b,rfl,hT0,hC0⟩:=hv0
 obtain ⟨A,ca,rfl,hca⟩:=SlV.shape hT0
 obtain ⟨A',cb,rfl,hcb⟩:=SlV.shape hC0
 have hT:TypesV w w.heap.size (.slice A s.types.length ca) s.types:=SlV.mono hT0 hhi
 clear hT0
 have hcl:=hs.2.1
 have htl:=hs.1.1
 generalize hrr:Idn.sCheck s=r
 have hR0:Hid _:=hrr
 have hrr0:Hid _:=hrr
 have hz:r≠0→sound s=⟨[],[]⟩:=fun h=>if_neg (by rw[hrr];exact h)
 clear hrr
 by_cases h1:64<s.types.length
 ·have h1':(64:Int)<(s.types.length:Int):=by omega
  have hR:Hid (r=3):=by show _=_;rw[←hR0.out];unfold Idn.sCheck;rw[decide_eq_true h1];rfl
  have hzz:Hid (sound s=⟨[],[]⟩):=hz (by rw[hR.out];decide)
  clear hR0 hz
  have hmm:=@run_makeMap Tryz.prog
  go_enter Tryz.func120,Tryz.ntmps120
  go_wp2
  exact bodyPost_ret (v:=.tuple #[.agg #[.map none,.map none],.int .i64 3]) (by simp[results,Tryz.results120,go_sem]) rfl ⟨_,_,by rw[hR.out],(((((Below.refl _ _).alloc (Nat.le_refl _) _).alloc (by simp) _).alloc (by simp;omega) _).alloc (by simp;omega) _ |>.alloc (by simp;omega) _),by rw[hzz.out];exact KnV.empty _ _⟩
 by_cases h2:32<s.classes.length
 ·have h1':(s.types.length:Int)≤(64:Int):=by omega
  have h2':(32:Int)<(s.classes.length:Int):=by omega
  have hR:Hid (r=3):=by show _=_;rw[←hR0.out];unfold Idn.sCheck;rw[decide_eq_true h2,Bool.or_true];rfl
  have hzz:Hid (sound s=⟨[],[]⟩):=hz (by rw[hR.out];decide)
  clear hR0 hz
  have hmm:=@run_makeMap Tryz.prog
  go_enter Tryz.func120,Tryz.ntmps120
  go_wp2
  exact bodyPost_ret (v:=.tuple #[.agg #[.map none,.map none],.int .i64 3]) (by simp[results,Tryz.results120,go_sem]) rfl ⟨_,_,by rw[hR.out],(((((Below.refl _ _).alloc (Nat.le_refl _) _).alloc (by simp) _).alloc (by simp;omega) _).alloc (by simp;omega) _ |>.alloc (by simp;omega) _),by rw[hzz.out];exact KnV.empty _ _⟩
 have h1':(s.types.length:Int)≤(64:Int):=by omega
 have h2':(s.classes.length:Int)≤(32:Int):=by omega
 have hR:Hid (r=if Idn.tysErr [] s.types !=0 then Idn.tysErr [] s.types else if Idn.clsErr s.types [] s.classes !=0 then Idn.clsErr s.types [] s.classes else Idn.mainErr s.types):=by
  show _=_;rw[←hR0.out];unfold Idn.sCheck;rw[decide_eq_false h1,decide_eq_false h2];rfl
 clear hR0 h1 h2
 have hmm:=@run_makeMap Tryz.prog
 go_enter Tryz.func120,Tryz.ntmps120
 go_wp2
 clear hmm
 with_reducible refine gen5 (R:=fun W=>Code.wp Tryz.prog _ _ _ W) ?_
 intro W hbW hszW hc1 hc2 f2 hm1 hm2 hc5
 have a0:=hc1 0 _ rfl
 have a1:=hc1 1 _ rfl
 have r0:=hc2 0 _ rfl
 have r1:=hc2 1 _ rfl
 have g0:=f2 0
 have g1:=f2 1
 have k0:=hc5 0 _ rfl
 have k1:=hc5 1 _ rfl
 clear hc1 hc2 f2 hc5 h1' h2'
 go_loopw [30] (fun i wr=>∃k:Nat,k≤s.types.length∧i=.int .i64 k∧But (w.heap.size+1+1) W wr∧MapIs wr (w.heap.size+1+1) (tyE (s.types.take k))∧Hid (Idn.tysErr [] s.types=Idn.tysErr (s.types.take k) (s.types.drop k))) (fun i _=>s.types.length-(intOf i).toNat)
 case atStart=>exact ⟨0,Nat.zero_le _,rfl,But.refl _ _,by simpa[tyE]using hm1,by show _=_;simp⟩
 case round=>
  obtain ⟨k,hk,rfl,hbt,hmk,hinv⟩:=hrel
  have hbw:Below w.heap.size w wr:=hbW.trans (hbt.below (by omega) (by omega))
  by_cases hlt:k<s.types.length
  ·obtain ⟨b,off,rfl,hbl,c0,c1,c2⟩:=TypesV.cell (SlV.keep hT hbw) hlt
   have hmem:=hs.1.2 s.types[k] (List.getElem_mem hlt)
   have hltI:(k:Int)<(s.types.length:Int):=by omega
   have hstep:=Idn.tys_step s.types k hlt _ hinv.out
   clear hinv
   replace k0:=hbt.cell k0 (by omega) (by omega)
   replace k1:=hbt.cell k1 (by omega) (by omega)
   have ba:=(Below.refl wr.heap.size wr).alloc (Nat.le_refl _) (.cells #[.string (B s.types[k].name),.int .i64 s.types[k].syn,.bool s.types[k].single] 89)
   have K0:=cell_later ba k0
   have K1:=cell_later ba k1
   clear ba
   go_wp2_with fail
   with_reducible refine gen1 (R:=fun W=>Calls Tryz.prog 188 _ W _) ?_
   intro W1 hbW1 hszW1 _ _
   refine (addType_any (w.heap.size+1+1) (w.heap.size+1+1+1) _ s.types[k] W1 (hmk.keep hbW1) hmem).mono ?_
   rintro e w6 ⟨rfl,hbt6,hm6⟩
   have hbt':But (w.heap.size+1+1) W w6:=hbt.trans ((But.of_below hbW1 _).trans hbt6)
   have hbw6:Below w.heap.size w w6:=hbW.trans (hbt'.below (by omega) (by omega))
   clear c0 c1 c2 hbW1 hszW1 hmk K0 K1
   by_cases he:Idn.tyErr (s.types.take k) s.types[k]=0
   ·have HF:Hid (Idn.tysErr [] s.types=Idn.tysErr (s.types.take (k+1)) (s.types.drop (k+1))):=hstep.2 he
    have hm7:=hm6 he
    rw[←List.take_succ_eq_append_getElem hlt]at hm7
    rw[he]
    clear hstep he hm6
    go_wp2
    go_roundw
    case rel=>exact ⟨k+1,by omega,by go_num,hbt',hm7,HF⟩
    case measure=>simp[intOf];omega
   ·have h0:=hstep.1 he
    have HF:Hid (r=Idn.tyErr (s.types.take k) s.types[k]):=by show _=_;rw[hR.out,h0,if_pos (by simpa using he)]
    have hzz:Hid (sound s=⟨[],[]⟩):=hz (by rw[HF.out];exact he)
    clear hstep h0 hm6 hz
    generalize Idn.tyErr (s.types.take k) s.types[k]=x at *
    have he1:(x==0)=false:=by simpa using he
    have he2:(x !=0)=true:=by simpa using he
    replace r0:=hbt'.cell r0 (by omega) (by omega)
    replace r1:=hbt'.cell r1 (by omega) (by omega)
    replace g0:=hbt'.frozen g0 (by omega) (by omega)
    replace g1:=hbt'.frozen g1 (by omega) (by omega)
    go_wp2
    exact bodyPost_ret (v:=.tuple #[.agg #[.map none,.map none],.int .i64 x]) (by simp[results,Tryz.results120,go_sem,r0,r1,g0,g1]) rfl ⟨_,_,by rw[HF.out],((hbw6.setCell (by simp) _).setCell (by simp) _),by rw[hzz.out];exact KnV.empty _ _⟩
  ·have hA:Hid (Idn.tysErr [] s.types=0):=by show _=_;rw[hinv.out,List.drop_eq_nil_of_le (by omega)];rfl
   have hmx:¬((k:Int)<(s.types.length:Int)):=by omega
   have hR2:Hid (r=if Idn.clsErr s.types [] s.classes !=0 then Idn.clsErr s.types [] s.classes else Idn.mainErr s.types):=by
    show _=_;rw[hR.out,hA.out];rfl
   have hm1':MapIs wr (w.heap.size+1+1) (tyE s.types):=by rw[List.take_of_length_le (by omega)]at hmk;exact hmk
   have hm2':MapIs wr (w.heap.size+1+1+1) []:=hm2.but hbt (by omega)
   have hszr:w.heap.size+5≤wr.heap.size:=by have:=hbt.size;omega
   replace a0:=hbt.cell a0 (by omega) (by omega)
   replace a1:=hbt.cell a1 (by omega) (by omega)
   replace k0:=hbt.cell k0 (by omega) (by omega)
   replace k1:=hbt.cell k1 (by omega) (by omega)
   replace r0:=hbt.cell r0 (by omega) (by omega)
   replace r1:=hbt.cell r1 (by omega) (by omega)
   replace g0:=hbt.frozen g0 (by omega) (by omega)
   replace g1:=hbt.frozen g1 (by omega) (by omega)
   clear hinv hlt hR hA hmk hm1 hm2 hbt hszW hbW
   obtain ⟨W5,hW5⟩:∃W5,W5=wr:=⟨_,rfl⟩
   subst hW5
   go_wp2
   clear hmx
   go_loopw [45] (fun i wr=>∃(k:Nat) (es:List (Bs×Value)),k≤s.classes.length∧i=.int .i64 k∧But (w.heap.size+1+1+1) W5 wr∧MapIs wr (w.heap.size+1+1+1) es∧ClsIs w hi es (s.classes.take k)∧Hid (Idn.clsErr s.types [] s.classes=Idn.clsErr s.types (s.classes.take k) (s.classes.drop k))) (fun i _=>s.classes.length-(intOf i).toNat)
   case atStart=>exact ⟨0,[],Nat.zero_le _,rfl,But.refl _ _,hm2',⟨rfl,fun i c h=>by simp at h⟩,by show _=_;simp⟩
   case round=>
    obtain ⟨k,es,hk,rfl,hbt,hmk,hcl',hinv⟩:=hrel
    have hbw':Below w.heap.size w wr:=hbw.trans (hbt.below (by omega) (by omega))
    by_cases hlt:k<s.classes.length
    ·obtain ⟨b,off,vm,vn,rfl,hbl,c0,c1,c2,c3,hm,hn⟩:=ClassesV.cell hC0 hlt
     obtain ⟨Am,cm,rfl,hcm⟩:=SlV.shape hm
     obtain ⟨An,cn,rfl,hcn⟩:=SlV.shape hn
     obtain ⟨hs1,hs2,hsm,hsn⟩:=hs.2.2 s.classes[k] (List.getElem_mem hlt)
     replace c0:=cell_later hbw' c0
     replace c1:=cell_later hbw' c1
     replace c2:=cell_later hbw' c2
     replace c3:=cell_later hbw' c3
     have hltI:(k:Int)<(s.classes.length:Int):=by omega
     have hstep:=Idn.cls_step s.types s.classes k hlt _ hinv.out
     clear hinv
     replace k0:=hbt.cell k0 (by omega) (by omega)
     replace k1:=hbt.cell k1 (by omega) (by omega)
     have ba:=(Below.refl wr.heap.size wr).alloc (Nat.le_refl _) (.cells #[.string (B s.classes[k].name),.string (B s.classes[k].super),.slice Am s.classes[k].must.length cm,.slice An s.classes[k].may.length cn] 91)
     have K0:=cell_later ba k0
     have K1:=cell_later ba k1
     clear ba
     go_wp2_with fail
     with_reducible refine gen1 (R:=fun W=>Calls Tryz.prog 189 _ W _) ?_
     intro W1 hbW1 hszW1 _ _
     have hbw1:=hbw'.trans (hbW1.mono hbw'.size)
     refine (addClass_any (w.heap.size+1+1) (w.heap.size+1+1+1) s.types es (s.classes.take k) s.classes[k] Am cm An cn W1 ((hm1'.but hbt (by omega)).keep hbW1) (hmk.keep hbW1) (by omega) hcl'.K hcl'.Sh (SlV.mono (SlV.keep (SlV.mono hm hhi) hbw1) hbw1.size) (SlV.mono (SlV.keep (SlV.mono hn hhi) hbw1) hbw1.size) hs1 hs2 hsm hsn).mono ?_
     rintro e w6 ⟨rfl,hbt6,hm6⟩
     have hbt':But (w.heap.size+1+1+1) W5 w6:=hbt.trans ((But.of_below hbW1 _).trans hbt6)
     have hbw6:Below w.heap.size w w6:=hbw.trans (hbt'.below (by omega) (by omega))
     clear c0 c1 c2 c3 hbW1 hszW1 hmk K0 K1 hbw1
     by_cases he:Idn.clErr s.types (s.classes.take k) s.classes[k]=0
     ·have HF:Hid (Idn.clsErr s.types [] s.classes=Idn.clsErr s.types (s.classes.take (k+1)) (s.classes.drop (k+1))):=hstep.2 he
      have hm7:=hm6 he
      have hc7:=hcl'.push s.classes[k] hm hn
      rw[←List.take_succ_eq_append_getElem hlt]at hc7
      rw[he]
      clear hstep he hm6
      go_wp2
      go_roundw
      case rel=>exact ⟨k+1,_,by omega,by go_num,hbt',hm7,hc7,HF⟩
      case measure=>simp[intOf];omega
     ·have h0:=hstep.1 he
      have HF:Hid (r=Idn.clErr s.types (s.classes.take k) s.classes[k]):=by show _=_;rw[hR2.out,h0,if_pos (by simpa using he)]
      have hzz:Hid (sound s=⟨[],[]⟩):=hz (by rw[HF.out];exact he)
      clear hstep h0 hm6 hz
      generalize Idn.clErr s.types (s.classes.take k) s.classes[k]=x at *
      have he1:(x==0)=false:=by simpa using he
      have he2:(x !=0)=true:=by simpa using he
      replace r0:=hbt'.cell r0 (by omega) (by omega)
      replace r1:=hbt'.cell r1 (by omega) (by omega)
      replace g0:=hbt'.frozen g0 (by omega) (by omega)
      replace g1:=hbt'.frozen g1 (by omega) (by omega)
      go_wp2
      exact bodyPost_ret (v:=.tuple #[.agg #[.map none,.map none],.int .i64 x]) (by simp[results,Tryz.results120,go_sem,r0,r1,g0,g1]) rfl ⟨_,_,by rw[HF.out],((hbw6.setCell (by simp) _).setCell (by simp) _),by rw[hzz.out];exact KnV.empty _ _⟩
    ·have hA:Hid (r=Idn.mainErr s.types):=by show _=_;rw[hR2.out,hinv.out,List.drop_eq_nil_of_le (by omega)];rfl
     have hmx:¬((k:Int)<(s.classes.length:Int)):=by omega
     have hm1r:MapIs wr (w.heap.size+1+1) (tyE s.types):=hm1'.but hbt (by omega)
     have hcl2:=hcl'.whole (by omega)
     replace k0:=hbt.cell k0 (by omega) (by omega)
     replace k1:=hbt.cell k1 (by omega) (by omega)
     replace r0:=hbt.cell r0 (by omega) (by omega)
     replace r1:=hbt.cell r1 (by omega) (by omega)
     replace g0:=hbt.frozen g0 (by omega) (by omega)
     replace g1:=hbt.frozen g1 (by omega) (by omega)
     have hszr':w.heap.size+5≤wr.heap.size:=by have:=hbt.size;omega
     have ec:L ⟨#[99,108,97,115,115]⟩=Idn.lower Idn.mainN:=by decide
     clear hinv hlt hcl' hbt hm1' hbw
     cases hx:Idn.ixT s.types Idn.mainN with
     |none=>
      have HF:Hid (r=6):=by show _=_;rw[hA.out,Idn.mainErr,hx]
      have hzz:Hid (sound s=⟨[],[]⟩):=hz (by rw[HF.out];decide)
      have hva:(lk (tyE s.types) (L ⟨#[99,108,97,115,115]⟩)).getD (.agg #[.string ⟨#[]⟩,.int .i64 0,.bool false])=.agg #[.string ⟨#[]⟩,.int .i64 0,.bool false]:=by rw[ec,lk_ty_none hx];rfl
      have hsome:(lk (tyE s.types) (L ⟨#[99,108,97,115,115]⟩)).isSome=false:=by rw[ec,lk_ty_none hx];rfl
      have ba:=(Below.refl wr.heap.size wr).alloc (Nat.le_refl _) (.cells #[.string ⟨#[]⟩,.int .i64 0,.bool false] 89)
      have R0:=cell_later ba r0
      have R1:=cell_later ba r1
      have G0:=(ba.frozen (p:=⟨w.heap.size+1,0,none⟩) (by show w.heap.size+1<_;omega)).trans g0
      have G1:=(ba.frozen (p:=⟨w.heap.size+1,1,none⟩) (by show w.heap.size+1<_;omega)).trans g1
      have hbwa:=hbw'.trans (ba.mono hbw'.size)
      clear ba hx ec hz
      go_wp2_with (at_lookup;refine wpList_look wr rfl _ _ 166 rfl 9 89 Tryz.underlying9 Tryz.underlying166 (zeroAT _) hm1r.v rfl ⟨#[99,108,97,115,115]⟩ rfl hva hsome ?_)
      exact bodyPost_ret (v:=.tuple #[.agg #[.map none,.map none],.int .i64 6]) (by simp[results,Tryz.results120,go_sem,R0,R1,G0,G1]) rfl ⟨_,_,by rw[HF.out],((hbwa.setCell (by simp) _).setCell (by simp) _),by rw[hzz.out];exact KnV.empty _ _⟩
     |some j=>
      have hjl:=Idn.ixT_lt _ _ _ hx
      obtain ⟨t,ht,hlk⟩:=lk_ty_some hx
      have HF:Hid (r=if t.syn !=1 then 8 else 0):=by show _=_;rw[hA.out,Idn.mainErr,hx];simp only[ht]
      have hva:(lk (tyE s.types) (L ⟨#[99,108,97,115,115]⟩)).getD (.agg #[.string ⟨#[]⟩,.int .i64 0,.bool false])=.agg #[.string (B t.name),.int .i64 t.syn,.bool t.single]:=by rw[ec,hlk];rfl
      have hsome:(lk (tyE s.types) (L ⟨#[99,108,97,115,115]⟩)).isSome=true:=by rw[ec,hlk];rfl
      have ba:=(Below.refl wr.heap.size wr).alloc (Nat.le_refl _) (.cells #[.string (B t.name),.int .i64 t.syn,.bool t.single] 89)
      have R0:=cell_later ba r0
      have R1:=cell_later ba r1
      have K0:=cell_later ba k0
      have K1:=cell_later ba k1
      have G0:=(ba.frozen (p:=⟨w.heap.size+1,0,none⟩) (by show w.heap.size+1<_;omega)).trans g0
      have G1:=(ba.frozen (p:=⟨w.heap.size+1,1,none⟩) (by show w.heap.size+1<_;omega)).trans g1
      have hbwa:=hbw'.trans (ba.mono hbw'.size)
      have hM1:=hm1r.keep ba
      have hM2:=hmk.keep ba
      clear ba hx ec
      by_cases he:t.syn=1
      ·have he1:(t.syn==1)=true:=by simpa using he
       have HG:Hid (r=0):=by show _=_;rw[HF.out,he];rfl
       have hss:Hid (sound s=s):=if_pos (by rw[hrr0.out,HG.out])
       clear HF he hz
       go_wp2_with (at_lookup;refine wpList_look wr rfl _ _ 166 rfl 9 89 Tryz.underlying9 Tryz.underlying166 (zeroAT _) hm1r.v rfl ⟨#[99,108,97,115,115]⟩ rfl hva hsome ?_)
       exact bodyPost_ret (v:=.tuple #[.agg #[.map (some (w.heap.size+1+1)),.map (some (w.heap.size+1+1+1))],.int .i64 0]) (by simp[results,Tryz.results120,go_sem,R0,R1,G0,G1]) rfl ⟨_,_,by rw[HG.out],((hbwa.setCell (by simp) _).setCell (by simp) _),by
        rw[hss.out]
        exact ⟨((hM1.set _ (by omega)).set _ (by omega)).v,es,((hM2.set _ (by omega)).set _ (by omega)).v,hcl2.keep (((hbwa.setCell (by simp) _).setCell (by simp) _).mono hhi)⟩⟩
      ·have he1:(t.syn==1)=false:=by simpa using he
       have HG:Hid (r=8):=by show _=_;rw[HF.out,if_pos (by simpa using he)]
       have hzz:Hid (sound s=⟨[],[]⟩):=hz (by rw[HG.out];decide)
       clear HF he hz
       go_wp2_with (at_lookup;refine wpList_look wr rfl _ _ 166 rfl 9 89 Tryz.underlying9 Tryz.underlying166 (zeroAT _) hm1r.v rfl ⟨#[99,108,97,115,115]⟩ rfl hva hsome ?_)
       exact bodyPost_ret (v:=.tuple #[.agg #[.map none,.map none],.int .i64 8]) (by simp[results,Tryz.results120,go_sem,R0,R1,G0,G1]) rfl ⟨_,_,by rw[HG.out],((hbwa.setCell (by simp) _).setCell (by simp) _),by rw[hzz.out];exact KnV.empty _ _⟩
end Go.Proofs.YtbkkchhimhlhcaaGreatDoor
/- Check, look, Type. -/
namespace Go.Proofs.YtbkkchhimhlhcaaGreatDoor
open Go.RowKit Go.Sort
open Idn (L B Bs drop_L take_L size_L)
theorem gen2f {R : World → Prop} {w : World} {C1 C2 : Array Value} {t1 t2 : TypeId}
  (h:∀W,Below w.heap.size w W→W.heap.size=w.heap.size+2→(∀(i:Nat) (v:Value),C1[i]?=some v→W.cell? ⟨w.heap.size,i,none⟩=some v)→(∀(i:Nat) (v:Value),C2[i]?=some v→W.cell? ⟨w.heap.size+1,i,none⟩=some v)→(∀i,W.frozen? ⟨w.heap.size+1,i,none⟩=false)→R W):R ((w.alloc (.cells C1 t1)).alloc (.cells C2 t2)):=by
 have e1:(w.alloc (.cells C1 t1)).heap.size=w.heap.size+1:=by simp
 have hnew:((w.alloc (.cells C1 t1)).alloc (.cells C2 t2)).heap[w.heap.size+1]?=some (.cells C2 t2 (0,0)):=by
  rw[←e1];exact heap_alloc_new _ _
 refine gen2 (R:=fun W=>W=((w.alloc (.cells C1 t1)).alloc (.cells C2 t2))→R W) (fun W a b c d e=>?_) rfl
 subst e
 exact h _ a b c d (fun i=>Lib.frozen_of_heap hnew i)
theorem MapV.one {w:World} {v:Value} {l:List (Bs×Value)} (h:MapV w v l):v.oneCell'=true:=by
 rcases h with ⟨rfl,_⟩|⟨b,rfl,_⟩<;>rfl
theorem MapV.shape {w:World} {v:Value} {l:List (Bs×Value)} (h:MapV w v l):∃o,v=.map o:=by
 rcases h with ⟨rfl,_⟩|⟨b,rfl,_⟩<;>exact ⟨_,rfl⟩
theorem KnV.shape {w:World} {hi:Nat} {m1 m2:Value} {s:Idn.Sch} (h:KnV w hi m1 m2 s):∃o1 o2,m1=.map o1∧m2=.map o2:=by
 obtain ⟨o1,h1⟩:=h.1.shape
 obtain ⟨es,h2,_⟩:=h.2
 obtain ⟨o2,h2⟩:=h2.shape
 exact ⟨o1,o2,h1,h2⟩
theorem MapV.set2 {w:World} {m:Value} {l:List (Bs×Value)} (h:MapV w m l) {p i:Nat} {x:Value} (hc:w.cell? ⟨p,i,none⟩=some x) (v u:Value) {j k:Nat}:MapV ((w.setCell ⟨p,j,none⟩ v).setCell ⟨p,k,none⟩ u) m l:=by
 rcases h with h|⟨b,h1,h2⟩
 ·exact .inl h
 ·exact .inr ⟨b,h1,(h2.set v (h2.ne hc)).set u (h2.ne hc)⟩
theorem KnV.set2 {w:World} {hi:Nat} {m1 m2:Value} {s:Idn.Sch} (h:KnV w hi m1 m2 s) {p i:Nat} {x:Value} (hc:w.cell? ⟨p,i,none⟩=some x) (v u:Value) {j k:Nat} (hp:hi≤p):KnV ((w.setCell ⟨p,j,none⟩ v).setCell ⟨p,k,none⟩ u) hi m1 m2 s:=by
 obtain ⟨h1,es,h2,h3⟩:=h
 exact ⟨h1.set2 hc v u,es,h2.set2 hc v u,h3.keep ⟨rfl,rfl,rfl,by simp,fun q hq=>by
  rw[Below.heap_setCell _ _ _ _ (by show q≠p;omega),Below.heap_setCell _ _ _ _ (by show q≠p;omega)]⟩⟩
theorem KnV.keep {w w':World} {hi:Nat} {m1 m2:Value} {s:Idn.Sch} (h:KnV w hi m1 m2 s) (hb:Below w.heap.size w w') (hh:hi≤w.heap.size):KnV w' hi m1 m2 s:=by
 obtain ⟨h1,es,h2,h3⟩:=h
 exact ⟨h1.keep hb,es,h2.keep hb,h3.keep (hb.mono hh)⟩
theorem schCheck_any (v : Value) (s : Idn.Sch) (w : World) (hv : SchV w w.heap.size v s) (hs : SSm s) :
  Calls Tryz.prog 50 #[v] w fun e w'=>e=.returned (.int .i64 (Idn.sCheck s))∧Below w.heap.size w w':=by
 have hE:=fun W (hW:Below w.heap.size w W)=>examine_any v s W w.heap.size hW.size (SchV.keep hv hW) hs
 obtain ⟨a,b,rfl,hT,hC⟩:=hv
 obtain ⟨A,ca,rfl,hca⟩:=SlV.shape hT
 obtain ⟨A',cb,rfl,hcb⟩:=SlV.shape hC
 clear hT hC
 generalize hrr:Idn.sCheck s=r at *
 have hR0:=Lib.hid hrr
 clear hrr
 go_enter Tryz.func50,Tryz.ntmps50
 go_wp2_with fail
 with_reducible refine gen1 (R:=fun W=>Calls Tryz.prog 120 _ W _) ?_
 intro W hbW _ _ _
 refine (hE W hbW).mono ?_
 rintro e w1 ⟨m1,m2,rfl,hb1,hk⟩
 obtain ⟨o1,o2,rfl,rfl⟩:=hk.shape
 clear hk hE
 have hbw1:=hbW.trans (hb1.mono hbW.size)
 go_wp2
 go_ret
 exact ⟨rfl,hbw1.alloc hbw1.size _⟩
theorem look_any (v : Value) (s : Idn.Sch) (w : World) (hv : SchV w w.heap.size v s) (hs : SSm s) :
  Calls Tryz.prog 124 #[v] w fun e w'=>∃m1 m2,e=.returned (.agg #[m1,m2])∧Below w.heap.size w w'∧KnV w' w.heap.size m1 m2 (sound s):=by
 have hE:=fun W (hW:Below w.heap.size w W)=>examine_any v s W w.heap.size hW.size (SchV.keep hv hW) hs
 have hv0:=hv
 obtain ⟨a,b,rfl,hT,hC⟩:=hv
 obtain ⟨A,ca,rfl,hca⟩:=SlV.shape hT
 obtain ⟨A',cb,rfl,hcb⟩:=SlV.shape hC
 clear hT hC hv0
 go_enter Tryz.func124,Tryz.ntmps124
 go_wp2_with fail
 with_reducible refine gen2f (R:=fun W=>Calls Tryz.prog 120 _ W _) ?_
 intro W hbW hszW _ hc2 hf2
 have r0:=hc2 0 _ rfl
 have r1:=hc2 1 _ rfl
 have hf:W.frozen? ⟨w.heap.size+1,0,none⟩=false∧W.frozen? ⟨w.heap.size+1,1,none⟩=false:=⟨hf2 0,hf2 1⟩
 clear hc2 hf2
 refine (hE W hbW).mono ?_
 rintro e w1 ⟨m1,m2,rfl,hb1,hk⟩
 obtain ⟨o1,o2,rfl,rfl⟩:=hk.shape
 have hbw1:=hbW.trans (hb1.mono hbW.size)
 have ba:=hb1.alloc hb1.size (.cells #[.map o1,.map o2] 169)
 have R0:=cell_later ba r0
 have R1:=cell_later ba r1
 have G0:=(ba.frozen (p:=⟨w.heap.size+1,0,none⟩) (by show w.heap.size+1<_;omega)).trans hf.1
 have G1:=(ba.frozen (p:=⟨w.heap.size+1,1,none⟩) (by show w.heap.size+1<_;omega)).trans hf.2
 have hbwa:=hbW.trans (ba.mono hbW.size)
 have hk':=hk.keep ((Below.refl w1.heap.size w1).alloc (Nat.le_refl _) (.cells #[.map o1,.map o2] 169)) (Nat.le_trans hbW.size hb1.size)
 clear ba hf r0 r1 hE
 have hz:w.heap.size+1<w.heap.size+2:=by omega
 go_wp2
 exact bodyPost_ret (v:=.agg #[.map o1,.map o2]) (by simp[results,Tryz.results124,go_sem,R0,R1,G0,G1]) rfl ⟨_,_,rfl,(hbwa.setCell (by simp) _).setCell (by simp) _,hk'.set2 R0 _ _ (by omega)⟩
end Go.Proofs.YtbkkchhimhlhcaaGreatDoor
/- schema.Type. -/
namespace Go.Proofs.YtbkkchhimhlhcaaGreatDoor
open Go.RowKit Go.Sort
open Idn (L B Bs drop_L take_L size_L)
def tyLook (s:Idn.Sch) (n:Bs):Idn.AT×Bool:=
 match Idn.ixT s.types n with
 |none=>(⟨[],0,false⟩,false)
 |some k=>match s.types[k]? with
  |none=>(⟨[],0,false⟩,false)
  |some t=>(t,true)
theorem tyLook_lk (s:Idn.Sch) (n:Bs):(lk (tyE s.types) (Idn.lower n)).getD (.agg #[.string ⟨#[]⟩,.int .i64 0,.bool false])=tyV (tyLook s n).1∧(lk (tyE s.types) (Idn.lower n)).isSome=(tyLook s n).2:=by
 unfold tyLook
 cases h:Idn.ixT s.types n with
 |none=>rw[lk_ty_none h];exact ⟨rfl,rfl⟩
 |some k=>
  obtain ⟨t,ht,h2⟩:=lk_ty_some h
  rw[h2]
  simp only[ht]
  exact ⟨rfl,rfl⟩
theorem field_known (o1 o2:Option Nat) (w:World):(Instr.field 169 (.agg #[.map o1,.map o2]) 0).run Tryz.prog w=.ok (.map o1) w:=by kernel_rfl
theorem type_any (v : Value) (s : Idn.Sch) (n : ByteArray) (w : World) (hv : SchV w w.heap.size v s) (hs : SSm s) (hn : n.size ≤ 1000000000) :
  Calls Tryz.prog 52 #[v,.string n] w fun e w'=>e=.returned (.tuple #[tyV (tyLook (sound s) (L n)).1,.bool (tyLook (sound s) (L n)).2])∧Below w.heap.size w w':=by
 have hE:=fun W (hW:Below w.heap.size w W)=>look_any v s W (SchV.mono (SchV.keep hv hW) hW.size) hs
 have hl:=fun W=>lower_any n W (by omega)
 obtain ⟨hva,hsome⟩:=tyLook_lk (sound s) (L n)
 generalize tyLook (sound s) (L n)=rr at *
 obtain ⟨⟨ta,tb,tc⟩,td⟩:=rr
 unfold tyV at hva⊢
 simp only[sv]at hva⊢
 obtain ⟨a,b,rfl,hT,hC⟩:=hv
 obtain ⟨A,ca,rfl,hca⟩:=SlV.shape hT
 obtain ⟨A',cb,rfl,hcb⟩:=SlV.shape hC
 clear hT hC
 go_enter Tryz.func52,Tryz.ntmps52
 go_wp2_with fail
 with_reducible refine gen2f (R:=fun W=>Calls Tryz.prog 124 _ W _) ?_
 intro W hbW hszW _ hc2 hf2
 have r0:=hc2 0 _ rfl
 have r1:=hc2 1 _ rfl
 have r2:=hc2 2 _ rfl
 have hf:W.frozen? ⟨w.heap.size+1,0,none⟩=false∧W.frozen? ⟨w.heap.size+1,1,none⟩=false∧W.frozen? ⟨w.heap.size+1,2,none⟩=false:=⟨hf2 0,hf2 1,hf2 2⟩
 clear hc2 hf2
 refine (hE W hbW).mono ?_
 rintro e w1 ⟨m1,m2,rfl,hb1,hk⟩
 obtain ⟨o1,o2,rfl,rfl⟩:=hk.shape
 have hfd:=field_known o1 o2 w1
 go_wp2_with fail
 refine (hl w1).mono ?_
 rintro e w2 ⟨rfl,hb2⟩
 have hk2:=hk.1.keep hb2
 have hb12:Below W.heap.size W w2:=hb1.trans (hb2.mono hb1.size)
 have ba:=hb12.alloc hb12.size (.cells #[.string (B ta),.int .i64 tb,.bool tc] 89)
 have R0:=cell_later ba r0
 have R1:=cell_later ba r1
 have R2:=cell_later ba r2
 have G0:=(ba.frozen (p:=⟨w.heap.size+1,0,none⟩) (by show w.heap.size+1<_;omega)).trans hf.1
 have G1:=(ba.frozen (p:=⟨w.heap.size+1,1,none⟩) (by show w.heap.size+1<_;omega)).trans hf.2.1
 have G2:=(ba.frozen (p:=⟨w.heap.size+1,2,none⟩) (by show w.heap.size+1<_;omega)).trans hf.2.2
 have hbwa:=hbW.trans (ba.mono hbW.size)
 have hne:w.heap.size+1≠w2.heap.size:=by have:=hb12.size;omega
 clear ba hf r0 r1 r2 hE hl
 rw[←Idn.L_B (Idn.lower (L n))]at hva hsome
 go_wp2_with (at_lookup;refine wpList_look w2 rfl _ _ 166 rfl 9 89 Tryz.underlying9 Tryz.underlying166 (zeroAT _) hk2 rfl (B (Idn.lower (L n))) rfl hva hsome ?_)
 exact bodyPost_ret (v:=.tuple #[.agg #[.string (B ta),.int .i64 tb,.bool tc],.bool td]) (by simp[results,Tryz.results52,go_sem,R0,R1,R2,G0,G1,G2,hne]) rfl ⟨rfl,((hbwa.setCell (by simp) _).setCell (by simp) _).setCell (by simp) _⟩
end Go.Proofs.YtbkkchhimhlhcaaGreatDoor
/- lineage: what the maps hand over. -/
namespace Go.Proofs.YtbkkchhimhlhcaaGreatDoor
open Go.RowKit Go.Sort
open Idn (L B Bs drop_L take_L size_L)
def zCl:Value:=.agg #[.string ⟨#[]⟩,.string ⟨#[]⟩,.slice none 0 0,.slice none 0 0]
def valAt (es:List (Bs×Value)) (o:Option Nat):Value:=((o.bind fun k=>es[k]?).map (·.2)).getD zCl
theorem ClSh.val {es:List (Bs×Value)} (h:ClSh es) (o:Option Nat):∃a b A k c A' k' c',valAt es o=.agg #[.string a,.string b,.slice A k c,.slice A' k' c']:=by
 unfold valAt
 cases o with
 |none=>exact ⟨_,_,_,_,_,_,_,_,rfl⟩
 |some k=>
  simp only[Option.bind_some]
  cases hx:es[k]? with
  |none=>exact ⟨_,_,_,_,_,_,_,_,rfl⟩
  |some p=>
   obtain ⟨a,b,A,k,c,A',k',c',h'⟩:=h p (List.mem_of_getElem? hx)
   exact ⟨a,b,A,k,c,A',k',c',by simp[h']⟩
def cellsAt (es:List (Bs×Value)) (k:Nat):List Value:=match valAt es (some k)with|.agg cs=>cs.toList|_=>[]
theorem ClsIs.val {w : World} {hi : Nat} {es : List (Bs × Value)} {l : List Idn.Cl} (h : ClsIs w hi es l) {k : Nat} (hk : k < l.length) :
  ∃v u,valAt es (some k)=.agg #[.string (B l[k].name),.string (B l[k].super),v,u]∧cellsAt es k=[sv l[k].name,sv l[k].super,v,u]∧StrsV w hi v l[k].must∧StrsV w hi u l[k].may:=by
 obtain ⟨v,u,h1,h2,h3⟩:=h.2 k l[k] (List.getElem?_eq_getElem hk)
 have e:valAt es (some k)=.agg #[.string (B l[k].name),.string (B l[k].super),v,u]:=by simp[valAt,h1]
 exact ⟨v,u,e,by rw[cellsAt,e];rfl,h2,h3⟩
end Go.Proofs.YtbkkchhimhlhcaaGreatDoor
/- lineage: the walk. -/
namespace Go.Proofs.YtbkkchhimhlhcaaGreatDoor
open Go.RowKit Go.Sort
open Idn (L B Bs drop_L take_L size_L)
theorem info_cl:(Tryz.prog.info? 91).map (fun i=>(i.zero,i.size,i.bytes))=some (some zCl,4,80):=by kernel_rfl
def FourAt (X:World) (p:Nat) (a b c d:Value):Prop:=
 (X.cell? ⟨p,0,none⟩=some a∧X.cell? ⟨p,1,none⟩=some b∧X.cell? ⟨p,2,none⟩=some c∧X.cell? ⟨p,3,none⟩=some d)∧
 (X.frozen? ⟨p,0,none⟩=false∧X.frozen? ⟨p,1,none⟩=false∧X.frozen? ⟨p,2,none⟩=false∧X.frozen? ⟨p,3,none⟩=false)∧p<X.heap.size
theorem But.own {p:Nat} {w w1 w2:World} (h:But p w w1) (hb:Below w.heap.size w1 w2):But p w w2:=
 ⟨hb.os.trans h.os,hb.tape.trans h.tape,hb.output.trans h.output,Nat.le_trans h.size hb.size,fun k hk hp=>(hb.block k hk).trans (h.block k hk hp)⟩
theorem But.drew {p:Nat} {w w1:World} (h:But p w w1):But p w w1.drew:=⟨h.os,h.tape,h.output,h.size,h.block⟩
theorem But.put {p i:Nat} {w w1:World} (h:But p w w1) (v:Value):But p w (w1.setCell ⟨p,i,none⟩ v):=
 ⟨h.os,h.tape,h.output,by simpa using h.size,fun k hk hp=>by rw[Below.heap_setCell _ _ _ _ hp];exact h.block k hk hp⟩
theorem But.on {p:Nat} {w w1 w2:World} (h:But p w w1) (hb:Below w1.heap.size w1 w2):But p w w2:=h.own (hb.mono h.size)
theorem FourAt.keep {X Y:World} {p:Nat} {a b c d:Value} (h:FourAt X p a b c d) {lo:Nat} (hb:Below lo X Y) (hp:p<lo):FourAt Y p a b c d:=by
 obtain ⟨⟨h0,h1,h2,h3⟩,⟨g0,g1,g2,g3⟩,hl⟩:=h
 exact ⟨⟨(hb.cell (p:=⟨p,0,none⟩) hp).trans h0,(hb.cell (p:=⟨p,1,none⟩) hp).trans h1,(hb.cell (p:=⟨p,2,none⟩) hp).trans h2,(hb.cell (p:=⟨p,3,none⟩) hp).trans h3⟩,
  ⟨(hb.frozen (p:=⟨p,0,none⟩) hp).trans g0,(hb.frozen (p:=⟨p,1,none⟩) hp).trans g1,(hb.frozen (p:=⟨p,2,none⟩) hp).trans g2,(hb.frozen (p:=⟨p,3,none⟩) hp).trans g3⟩,Nat.lt_of_lt_of_le hl hb.size⟩
def LinV (w:World) (base hi:Nat) (v:Value) (l:List Idn.Cl):Prop:=
 ∃xs,w.ownsRow base 91 4 v l.length xs∧∀(i:Nat) (x:Idn.Cl),l[i]?=some x→∃cs:List Value,cs.length=4∧EC w hi x cs∧∀(j:Nat) (u:Value),cs[j]?=some u→xs[i*4+j]?=some u
theorem own_base {w:World} {base base':Nat} {e:TypeId} {size:Nat} {v:Value} {n:Nat} {xs:List Value} (h:w.ownsRow base e size v n xs) (hb:base'≤base):w.ownsRow base' e size v n xs:=by
 refine ⟨h.1,?_⟩
 rcases h.2 with hn|⟨g,cap,cur,rfl,hb',rest⟩
 ·exact .inl hn
 ·exact .inr ⟨g,cap,cur,rfl,by omega,rest⟩
theorem LinV.base {w:World} {base base' hi:Nat} {v:Value} {l:List Idn.Cl} (h:LinV w base hi v l) (hb:base'≤base):LinV w base' hi v l:=by
 obtain ⟨xs,h1,h2⟩:=h
 exact ⟨xs,own_base h1 hb,h2⟩
end Go.Proofs.YtbkkchhimhlhcaaGreatDoor
/- schema: Parse at the chapter's example. -/
namespace Go.Proofs.YtbkkchhimhlhcaaGreatDoor
open Go.RowKit Go.Sort
open Idn (L B Bs drop_L take_L size_L)
theorem info_at:(Tryz.prog.info? 89).map (fun i=>(i.zero,i.size,i.bytes))=some (some (.agg #[.string ⟨#[]⟩,.int .i64 0,.bool false]),3,32):=by kernel_rfl
end Go.Proofs.YtbkkchhimhlhcaaGreatDoor
/- law07: few. -/
namespace Go.Proofs.YtbkkchhimhlhcaaGreatDoor
open Go.RowKit Go.Sort
open Idn (L B Bs drop_L take_L size_L)
def fewC (c:Idn.Cl):Bool:=decide (c.name.length≤70)&&(decide (c.super.length≤70)&&(short c.must&&short c.may))
def few (s:Idn.Sch):Bool:=s.types.all (fun t=>decide (t.name.length≤70))&&(s.classes.all fewC&&(decide (s.types.length≤70)&&decide (s.classes.length≤40)))
end Go.Proofs.YtbkkchhimhlhcaaGreatDoor
/- Walks of the reference of layer 7: sound. -/
namespace Go.Proofs.YtbkkchhimhlhcaaGreatDoor
open Go.RowKit Go.Sort
open Idn (L B Bs drop_L take_L size_L)
end Go.Proofs.YtbkkchhimhlhcaaGreatDoor
/- Walks of the reference of layer 7: Type. -/
namespace Go.Proofs.YtbkkchhimhlhcaaGreatDoor
open Go.RowKit Go.Sort
open Idn (L B Bs drop_L take_L size_L)
end Go.Proofs.YtbkkchhimhlhcaaGreatDoor
