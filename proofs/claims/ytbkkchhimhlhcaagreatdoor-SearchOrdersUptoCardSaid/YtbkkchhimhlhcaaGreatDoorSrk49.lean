/- Part 49 of the proof that identitylaw12.SearchChecks returns true for every data that it may be called with: proof: the package variables hold what the program lays; nothing else is asked. -/
import Derived.Test.YtbkkchhimhlhcaaGreatDoorSrk48
set_option linter.unusedVariables false
set_option linter.unusedSimpArgs false
set_option maxRecDepth 100000
set_option maxHeartbeats 16000000
/- The program's tree: New. -/
namespace Go.Proofs.YtbkkchhimhlhcaaGreatDoor
open Go.RowKit Go.Sort
open Idn (L B Bs drop_L take_L size_L)
def noG:Bs→Value:=fun _=>.slice none 0 0
theorem treF_nil:treF [] noG=fun _=>none:=by funext n;rfl
theorem treF_put0 {es:List IxE} (h:OkE es) {s:Bs} (hs:validN s=true):(fun y=>if y=s then some (.slice none 0 0)else treF es noG y)=treF (insE s [] es) noG:=by
 rw[treF_put h hs [] _]
 congr 1
 funext y
 unfold noG
 split<;>rfl
def RetTN (w:World) (roots:List Bs) (e:Ending) (w':World):Prop:=
 Below w.heap.size w w'∧(((trNew roots).1=0∧∃pt mb,e=.returned (.tuple #[.pointer (some ⟨pt,0,none⟩),.int .i64 0])∧∀lo,lo≤w'.heap.size→TrV w' w.heap.size lo pt (trNew roots).2 mb noG)∨((trNew roots).1≠0∧e=.returned (.tuple #[.pointer none,.int .i64 (trNew roots).1])))
section
variable {w w':World} {pt:Nat} {es:List IxE} {mb:Nat}
structure TrR (w:World) (hs pt:Nat) (es:List IxE) (mb:Nat):Prop where
 c0:w.cell? ⟨pt,0,none⟩=some (.map (some mb))
 ent:MapF w mb (treF es noG)
 nil:∀e∈es,e.2=[]
 ok:OkE es
 hsp:hs≤pt
 hsm:hs≤mb
 hsz:hs≤w.heap.size
theorem TrR.tree {hs:Nat} (h:TrR w hs pt es mb) {lo:Nat} (hl:lo≤w.heap.size):TrV w hs lo pt es mb noG where
 c0:=h.c0
 ent:=h.ent
 att:=fun e he=>⟨[],AttOwn.nil _ _,by rw[h.nil e he];rfl⟩
 hsz:=h.hsz
 hsp:=h.hsp
 hsm:=h.hsm
 loz:=hl
theorem TrR.keep {hs:Nat} (h:TrR w hs pt es mb) (hb:Below w.heap.size w w'):TrR w' hs pt es mb:=
 { h with c0:=cell_later hb h.c0,ent:=h.ent.keep hb,hsz:=Nat.le_trans h.hsz hb.size }
theorem trNew_any (v : Value) (roots : List Bs) (w : World) (hv : StrsV w w.heap.size v roots) (hl : roots.length ≤ 1000000000) (hx : ∀ s ∈ roots, s.length ≤ 1000000000) :
    Calls Tryz.prog 29 #[v] w (RetTN w roots):=by
 obtain ⟨A,c,rfl,_⟩:=SlV.shape hv
 have hR:trNew roots=if roots.length=0 then (6,[])else if 256<roots.length then (3,[])else trRoots roots []:=rfl
 have HR:=Lib.hid hR
 clear hR
 have hno:∀r W,trNew roots=(r,[])→r≠0→Below w.heap.size w W→RetTN w roots (.returned (.tuple #[.pointer none,.int .i64 r])) W:=fun r W h1 h2 hb=>⟨hb,.inr ⟨by rw[h1];exact h2,by rw[h1]⟩⟩
 have HN:=Lib.hid hno
 clear hno
 by_cases h0:roots.length=0
 ·have HF:Hid (trNew roots=(6,[])):=by show _=_;rw[HR.out,if_pos h0]
  have h0I:((roots.length:Int)==0)=true:=by simp[h0]
  have h0':(roots.length:Int)=0:=by omega
  clear HR
  go_enter Tryz.func29,Tryz.ntmps29
  go_wp2
  go_ret2
  exact HN.out 6 w HF.out (by decide) (Below.refl _ _)
 by_cases h1:256<roots.length
 ·have HF:Hid (trNew roots=(3,[])):=by show _=_;rw[HR.out,if_neg h0,if_pos h1]
  have h0I:¬(roots.length:Int)=0:=by omega
  have h1I:(256:Int)<(roots.length:Int):=by omega
  clear HR
  go_enter Tryz.func29,Tryz.ntmps29
  go_wp2
  go_ret2
  exact HN.out 3 w HF.out (by decide) (Below.refl _ _)
 have HR2:Hid (trNew roots=trRoots roots []):=by show _=_;rw[HR.out,if_neg h0,if_neg h1]
 have h0I:¬(roots.length:Int)=0:=by omega
 have h1I:¬(256:Int)<(roots.length:Int):=by omega
 have hmm:=@run_makeMap Tryz.prog
 clear HR h0
 go_enter Tryz.func29,Tryz.ntmps29
 go_upto_region 6 with fail
 with_reducible refine genW (R:=fun W=>Code.wp Tryz.prog _ _ _ W) (Q:=fun W=>TrR W w.heap.size (w.heap.size+1) [] w.heap.size∧Below w.heap.size w W) ?_ ?_
 ·have hb1:Below w.heap.size w (w.alloc (.map #[] 0)):=(Below.refl _ w).alloc (Nat.le_refl _) _
  have hs1:(w.alloc (.map #[] 0)).heap.size=w.heap.size+1:=by simp
  have hb2:∀o,Below (w.alloc (.map #[] 0)).heap.size (w.alloc (.map #[] 0)) ((w.alloc (.map #[] 0)).alloc o):=fun o=>(Below.refl _ _).alloc (Nat.le_refl _) _
  refine ⟨⟨?_,?_,by simp,OkE.nil,by omega,Nat.le_refl _,by simp;omega⟩,hb1.trans ((hb2 _).mono hb1.size)⟩
  ·rw[←hs1,cell_of_row _ _ 0 _ _ (0,0) (heap_alloc_new _ _)];rfl
  ·rw[treF_nil]
   exact (MapF.made w).keep (hb2 _)
 rintro W ⟨hT,hbW⟩
 go_wp2_with fail
 go_loopw [18] (fun i wr=>∃(k:Nat) (es:List IxE),k≤roots.length∧i=.int .i64 k∧TrR wr w.heap.size (w.heap.size+1) es w.heap.size∧Below w.heap.size w wr∧es.length≤k∧Hid (trRoots (roots.drop k) es=trRoots roots [])) (fun i _=>roots.length-(intOf i).toNat)
 case atStart=>exact ⟨0,[],Nat.zero_le _,rfl,hT,hbW,Nat.le_refl _,rfl⟩
 case round=>
  obtain ⟨k,es,hk,rfl,hTr,hb,hel,hinv⟩:=hrel
  clear hT hbW
  by_cases hlt:k<roots.length
  ·have hltI:(k:Int)<(roots.length:Int):=by omega
   obtain ⟨b,off,rfl,hbl,q0⟩:=StrsV.cell (SlV.keep hv hb) hlt
   have hxl:=hx _ (List.getElem_mem hlt)
   have hrd:roots.drop k=roots[k] :: roots.drop (k+1):=List.drop_eq_getElem_cons hlt
   have hinv2:Hid (trNew roots=if !validN roots[k]||decide (nmDep roots[k]≠1)then (5,[])else if hasE es roots[k]then (7,[])else trRoots (roots.drop (k+1)) (insE roots[k] [] es)):=by
    show _=_
    rw[HR2.out,←hinv.out,hrd,trRoots]
   have hVn:=nm_valid_any (B roots[k]) wr (by rw[Idn.size_B];omega)
   have hDn:=fun W=>nm_depth_any (B roots[k]) W (by rw[Idn.size_B];omega)
   have hHn:=fun W (hW:Below wr.heap.size wr W)=>trHas_any ((hTr.keep hW).tree (Nat.zero_le _)) roots[k] hxl
   have hstep:=hinv.out
   rw[hrd]at hstep
   simp only[Idn.L_B]at hVn hDn
   have hinv3:validN roots[k]=true→nmDep roots[k]=1→hasE es roots[k]=false→Hid (trRoots (roots.drop (k+1)) (insE roots[k] [] es)=trRoots roots []):=fun a1 a2 a3=>by
    show _=_
    rw[←hstep,trRoots,a1,a2,a3];rfl
   clear hrd hinv hstep hx
   generalize roots[k]=s at *
   cases hvn:validN s with
   |false=>
    have HF:Hid (trNew roots=(5,[])):=by show _=_;rw[hinv2.out,hvn];rfl
    rw[hvn]at hVn
    clear hinv2 hinv3 hDn hHn
    go_wp2_with (go_at_call 58;refine hVn.mono ?_;rintro e w1 ⟨rfl,hb1⟩)
    go_ret2
    exact HN.out 5 _ HF.out (by decide) (hb.trans (hb1.mono hb.size))
   |true=>
   rw[hvn]at hVn
   by_cases hd1:nmDep s=1
   case neg=>
    have HF:Hid (trNew roots=(5,[])):=by show _=_;rw[hinv2.out,decide_eq_true hd1,Bool.or_true];rfl
    have hdI:¬(nmDep s:Int)=1:=by omega
    clear hinv2 hinv3 hHn hd1
    generalize nmDep s=dd at *
    go_wp2_with (first
     |(go_at_call 58;refine hVn.mono ?_;rintro e w1 ⟨rfl,hb1⟩)
     |(go_at_call 92;refine (hDn _).mono ?_;rintro e w2 ⟨rfl,hb2⟩))
    go_ret2
    exact HN.out 5 _ HF.out (by decide) ((hb.trans (hb1.mono hb.size)).trans (hb2.mono (hb.trans (hb1.mono hb.size)).size))
   rw[hd1]at hDn
   cases hh:hasE es s with
   |true=>
    have HF:Hid (trNew roots=(7,[])):=by show _=_;rw[hinv2.out,hvn,hd1,hh];rfl
    rw[hh]at hHn
    clear hinv2 hinv3
    go_wp2_with (first
     |(go_at_call 58;refine hVn.mono ?_;rintro e w1 ⟨rfl,hb1⟩)
     |(go_at_call 92;refine (hDn _).mono ?_;rintro e w2 ⟨rfl,hb2⟩)
     |(go_at_call 93;refine (hHn _ (Below.on hb1 hb2)).mono ?_;rintro e w3 ⟨rfl,rfl⟩))
    go_ret2
    exact HN.out 7 _ HF.out (by decide) ((hb.trans (hb1.mono hb.size)).trans (hb2.mono (hb.trans (hb1.mono hb.size)).size))
   |false=>
    have hinv4:=hinv3 hvn hd1 hh
    rw[hh]at hHn
    clear hinv2 hinv3
    go_upto_region 13 with (first
     |(go_at_call 58;refine hVn.mono ?_;rintro e w1 ⟨rfl,hb1⟩)
     |(go_at_call 92;refine (hDn _).mono ?_;rintro e w2 ⟨rfl,hb2⟩)
     |(go_at_call 93;refine (hHn _ (Below.on hb1 hb2)).mono ?_;rintro e w3 ⟨rfl,rfl⟩))
    have hb12:=Below.on hb1 hb2
    have hT2:=hTr.keep hb12
    have hbw2:=hb.trans (hb12.mono hb.size)
    have c0:=hT2.c0
    have hent:=hT2.ent
    clear hVn hDn hHn hb1 hb2 q0
    go_wp2_with (at_mapUpdate;refine wpList_putF _ rfl _ _ _ 137 rfl Tryz.underlying137 rfl hent (l:=namesE es) (fun y hy=>treF_some.1 hy) (by unfold namesE;rw[List.length_map];omega) s rfl (by unfold maxLen;omega) (.slice none 0 0) rfl ?_;intro w5 hm5 hv5;go_frame)
    rw[treF_put0 hT2.ok hvn]at hm5
    have hall:AllMap w2 (·=w.heap.size):=fun k hk=>by
     have e:k=w.heap.size:=hk
     rw[e];exact hent.isMap
    have hb5:Below w.heap.size w2 w5:=hv5.below (fun j hj=>Nat.le_of_eq (Eq.symm hj)) hT2.hsz
    have hT5 : TrR w5 w.heap.size (w.heap.size + 1) (insE s [] es) w.heap.size := ⟨hv5.cell hall c0, hm5, fun e he => by
        rcases (insE_mem hvn hT2.ok e).1 he with rfl|⟨h1,_⟩
        ·rfl
        ·exact hT2.nil e h1,insE_ok hvn hT2.ok,hT2.hsp,hT2.hsm,Nat.le_trans hT2.hsz hv5.size⟩
    have hl5:(insE s [] es).length≤k+1:=by
     rw[insE_len hvn hT2.ok,hh]
     simp;omega
    go_roundw
    case rel=>exact ⟨k+1,_,by omega,by go_num,hT5,hbw2.trans hb5,hl5,hinv4⟩
    case measure=>simp[intOf];omega
  ·have hltI:¬(k:Int)<(roots.length:Int):=by omega
   have hfin:trNew roots=(0,es):=by
    rw[HR2.out,←hinv.out,List.drop_eq_nil_of_le (by omega)];rfl
   have HF:Hid (RetTN w roots (.returned (.tuple #[.pointer (some ⟨w.heap.size+1,0,none⟩),.int .i64 0])) wr):=⟨hb,.inl ⟨by rw[hfin],w.heap.size+1,w.heap.size,rfl,fun lo hlo=>by rw[hfin];exact hTr.tree hlo⟩⟩
   clear hinv hfin hTr
   go_wp2_with fail
   go_ret2
   exact HF.out
end
end Go.Proofs.YtbkkchhimhlhcaaGreatDoor
/- The program's tree: names, Children, Subtree. -/
namespace Go.Proofs.YtbkkchhimhlhcaaGreatDoor
open Go.RowKit Go.Sort
open Idn (L B Bs drop_L take_L size_L)
theorem own_iter {w w':World} {r base:Nat} {e:TypeId} {size:Nat} {v:Value} {n:Nat} {xs:List Value} (h:w.ownsRow base e size v n xs) (hm:Mv (·=r) w w') (hr:∃m s sn c,w.heap[r]?=some (.mapIter m s sn c)):w'.ownsRow base e size v n xs:=by
 refine ⟨h.1,?_⟩
 rcases h.2 with hn|⟨g,cap,cur,hv,hb,hgg,rest⟩
 ·exact .inl hn
 ·refine .inr ⟨g,cap,cur,hv,hb,(hm.block g (Array.getElem?_eq_some_iff.1 hgg).1 fun hk=>?_).trans hgg,rest⟩
  obtain ⟨m,s,sn,c,e⟩:=hr
  have hk':g=r:=hk
  rw[hk',e]at hgg
  cases hgg
theorem own_noIter {w:World} {r base:Nat} {e:TypeId} {size:Nat} {v:Value} {n:Nat} {xs:List Value} (h:w.ownsRow base e size v n xs) (hr:∃m s sn c,w.heap[r]?=some (.mapIter m s sn c)):v.ownBlock≠some r:=by
 obtain ⟨m,s,sn,c,e0⟩:=hr
 rcases h.2 with ⟨rfl,_⟩|⟨g,cap,cur,rfl,_,hg,_⟩
 ·intro e;cases e
 ·intro e1
  have e2:g=r:=by
   have:(some g:Option Nat)=some r:=e1
   exact Option.some.inj this
  subst e2
  rw[e0]at hg
  cases hg
section
variable {w w':World} {hs lo pt:Nat} {es es':List IxE} {mb:Nat} {g g':Bs→Value}
theorem TrV.below {w0:World} (h:TrV w hs lo pt es mb g) (hb:Below hs w w') (hm:MapF w' mb (treF es g)):mb<w'.heap.size:=hm.lt
theorem trNames_any (fid : Nat) (lb : Array Value) (eg : FnB fid) (h : TrV w hs lo pt es mb g) (hG : GdT es) (p : Bs → Bool) (hp : ∀ W n, Below w.heap.size w W → validN n = true → Calls Tryz.prog fid (#[.string (B n)] ++ lb) W fun e w' => e = .returned (.bool (p n)) ∧ Below W.heap.size W w') :
    Calls Tryz.prog 106 #[.pointer (some ⟨pt,0,none⟩),.func (.func fid) #[] lb] w fun e w'=>∃v,e=.returned v∧w'.ownsRow w.heap.size 9 1 v ((es.filter fun e=>p e.1).map (·.1)).length (((es.filter fun e=>p e.1).map (·.1)).map sv)∧Below w.heap.size w w':=by
 unfold FnB at eg
 have c0:=h.c0
 have hent:=h.ent
 have hmlt:=h.lt
 have hdom:∀x,treF es g x≠none→x∈namesE es:=fun x hx=>treF_some.1 hx
 have hel:(namesE es).length≤256:=by have:=hG.len;unfold namesE;rw[List.length_map];exact this
 have hvl:∀x∈namesE es,validN x=true:=fun x hx=>hG.ok.valN x hx
 obtain ⟨N,hN⟩:∃N,N=(es.filter fun e=>p e.1).map (·.1):=⟨_,rfl⟩
 rw[←hN]
 go_enter Tryz.func106,Tryz.ntmps106
 go_wp2_with (first
  |(at_range;refine wpList_rangeF _ rfl _ 137 rfl Tryz.underlying137 rfl hent ?_;intro w0 hr0 hb0 hs0)
  |go_in)
 go_frame
 go_loopw [5] (fun ov wr=>∃(left:Bs→Bool) (ks:List Bs),RangeF wr mb w.heap.size (treF es g) left∧ks.Nodup∧(∀x,x∈ks↔(x∈namesE es∧left x=false∧p x=true))∧wr.ownsRow (w.heap.size+1) 9 1 ov ks.length (ks.map sv)∧Below w.heap.size w wr∧w.heap.size<wr.heap.size) (fun _ wr=>wr.rangeLeft mb w.heap.size)
 case atStart=>
  refine ⟨_,[],hr0,List.nodup_nil,fun x=>?_,World.ownsRow_nil _ _ _ _,hb0,by omega⟩
  constructor
  ·intro hx;cases hx
  ·rintro ⟨h1,h2,_⟩
   have h3:(treF es g x).isSome=true:=by rw[treF_dom];exact mem_names.1 h1
   rw[h3]at h2;cases h2
 case round=>
  obtain ⟨left,ks,hr,hnd,hks,hown,hb,hlw⟩:=hrel
  have hkl:ks.length≤256:=Nat.le_trans (nodup_lenS hnd fun x hx=>((hks x).1 hx).1) hel
  obtain ⟨Ak,ck,hsh⟩:=own_shape hown
  subst hsh
  go_wp2_with (first
   |(at_next;refine wpList_nextF _ rfl _ rfl rfl hr ?_ ?_)
   |go_in)
  ·intro hl0
   have hS:=sortN_any _ _ ks wr hown hlw (by omega) hnd (fun x hx=>hvl x ((hks x).1 hx).1) (fun x hx=>by have:=valid_len (hvl x ((hks x).1 hx).1);omega)
   go_wp2_with (go_at_call 180;refine hS.mono ?_;rintro e w3 ⟨rfl,ts,hpm,hsr,hown3,hb3⟩)
   have hl:ts=N:=by
    rw[hN]
    exact sorted_is hG.ok _ hsr fun n=>by
     rw[hpm.mem_iff,hks]
     constructor
     ·rintro ⟨h1,_,h3⟩
      obtain ⟨e,he,rfl⟩:=List.mem_map.1 h1
      exact List.mem_map.2 ⟨e,List.mem_filter.2 ⟨he,h3⟩,rfl⟩
     ·intro hn
      obtain ⟨e,he,rfl⟩:=List.mem_map.1 hn
      obtain ⟨h1,h2⟩:=List.mem_filter.1 he
      exact ⟨List.mem_map.2 ⟨e,h1,rfl⟩,hl0 _,h2⟩
   rw[hl]at hown3
   have hlen:ks.length=N.length:=by rw[←hl,hpm.length_eq]
   have HF:Hid (∃v,(Ending.returned (Value.slice Ak ks.length ck))=.returned v∧w3.ownsRow w.heap.size 9 1 v N.length (N.map sv)∧Below w.heap.size w w3):=⟨_,rfl,own_lower hown3 (Nat.le_succ _),hb.trans (hb3.mono (Nat.le_succ _))⟩
   clear hl hlen hown3 hpm hsr hks hnd hown
   go_wp2_with fail
   go_ret
   exact HF.out
  ·intro x c w2 hxl hlx hfx hr2 hlt2 hm2 hsz2 hen
   have hxn:x∈namesE es:=hdom x (by rw[hfx];simp)
   have hit:=hr.iter
   have hown2:=own_iter hown hm2 hit
   have hb2:Below w.heap.size w w2:=hb.trans (hm2.below (fun j hj=>Nat.le_of_eq (Eq.symm hj)) hb.size)
   have hlw2:w.heap.size<w2.heap.size:=Nat.lt_of_lt_of_le hlw hm2.size
   have hP:=hp w2 x hb2 (hvl x hxn)
   have hnk:x∉ks:=fun hx=>by
    have:=((hks x).1 hx).2.1
    rw[hlx]at this;cases this
   have hst0:∀pb,p x=pb→∀y,(y∈(if pb then ks++[x]else ks))↔(y∈namesE es∧(left y&&decide (y≠x))=false∧p y=true):=fun pb hpb y=>by
    by_cases hyx:y=x
    ·subst hyx
     cases pb
     ·rw[if_neg (by decide)]
      exact ⟨fun h=>absurd h hnk,fun h=>by rw[hpb]at h;exact absurd h.2.2 (by decide)⟩
     ·rw[if_pos rfl]
      exact ⟨fun _=>⟨hxn,by simp,hpb⟩,fun _=>by simp⟩
    ·have e1 : (y ∈ (if pb then ks ++ [x] else ks)) ↔ y ∈ ks := by
       cases pb
       ·rw[if_neg (by decide)]
       ·rw[if_pos rfl];simp[hyx]
     rw[e1,hks]
     simp[hyx]
   have hst:=hst0 _ rfl
   generalize p x=pb at *
   clear hst0 hsz2 hfx hks
   cases pb with
   |false=>
    have HST:=Lib.hid hst
    clear hst
    go_wp2_with fail
    refine hP.mono ?_
    rintro e w3 ⟨rfl,hb3⟩
    have hr3:=hr2.keepB hb3
    have hlt3:w3.rangeLeft mb w.heap.size<wr.rangeLeft mb w.heap.size:=by rw[hr2.leftB hb3];exact hlt2
    go_wp2_with fail
    go_roundw
    case rel=>exact ⟨_,ks,hr3,hnd,fun y=>(by have h:=HST.out y;simpa using h),own_below hown2 hb3,hb2.trans (hb3.mono hb2.size),Nat.lt_of_lt_of_le hlw2 hb3.size⟩
    case measure=>exact hlt3
   |true=>
    have HST:=Lib.hid hst
    clear hst
    go_wp2_with fail
    refine hP.mono ?_
    rintro e w3 ⟨rfl,hb3⟩
    have hr3:=hr2.keepB hb3
    have hlt3:w3.rangeLeft mb w.heap.size<wr.rangeLeft mb w.heap.size:=by rw[hr2.leftB hb3];exact hlt2
    have hown3:=own_below hown2 hb3
    have hbw3:=hb2.trans (hb3.mono hb2.size)
    have hlw3:=Nat.lt_of_lt_of_le hlw2 hb3.size
    clear hown hown2 hP hr hr2 hm2 hlt2 hb hb2 hb3
    go_wp2_with (at_builtin;refine wpList_push w3 rfl _ _ 26 rfl (w.heap.size+1) 9 (.string ⟨#[]⟩) 1 16 Tryz.underlying26 info_str rfl (by decide) _ ks.length _ hown3 rfl [.string (B x)] rfl rfl (by intro u hu;simp at hu;subst hu;rfl) (by omega) hlw3 ?_ rfl)
    intro v' w4 hown4 hg4 hat4 hb4 _
    have hmv:=Mv.of_grown (S:=fun k=>(Value.slice Ak ks.length ck).ownBlock=some k) hg4 fun j hj=>hj
    have hn1:¬(Value.slice Ak ks.length ck).ownBlock=some mb:=fun e=>by
     have:=hown3.lt mb e
     omega
    have hn2:¬(Value.slice Ak ks.length ck).ownBlock=some w.heap.size:=own_noIter hown3 hr3.iter
    have hr4:=hr3.mv hmv hn1 hn2
    have hlt4:w4.rangeLeft mb w.heap.size<wr.rangeLeft mb w.heap.size:=by rw[hr3.left_mv hmv hn1 hn2];exact hlt3
    have hb4':Below w.heap.size w w4:=hbw3.trans (hb4.mono (Nat.le_succ _))
    have hnd4:(ks++[x]).Nodup:=by
     rw[List.nodup_append]
     refine ⟨hnd,by simp,fun a ha b hb e=>?_⟩
     rw[List.mem_singleton]at hb
     subst hb e
     exact hnk ha
    have hown5:w4.ownsRow (w.heap.size+1) 9 1 v' (ks++[x]).length ((ks++[x]).map sv):=by
     rw[List.length_append,List.map_append];exact hown4
    have hlw4:=Nat.lt_of_lt_of_le hlw3 hmv.size
    clear hmv hg4 hat4 hown4 hown3 hn1 hn2 hr3 hlt3
    go_wp2_with fail
    go_roundw
    case rel=>exact ⟨_,ks++[x],hr4,hnd4,fun y=>(by have h:=HST.out y;simpa using h),hown5,hb4',hlw4⟩
    case measure=>exact hlt4
theorem fn_sub1:FnB 107:=by intro a w;kernel_rfl
theorem sub1_any (n : Bs) (q : Nat) (b : Bs) (w : World) (hn : n.length ≤ 1000000) (hb : b.length ≤ 1000000) (hq : w.cell? ⟨q, 0, none⟩ = some (.string (B b))) :
  Calls Tryz.prog 107 #[.string (B n),.pointer (some ⟨q,0,none⟩)] w fun e w'=>e=.returned (.bool (nmUnd n b))∧Below w.heap.size w w':=by
 have hU:=nm_under_any (B n) (B b) w (by rw[Idn.size_B];omega) (by rw[Idn.size_B];omega)
 simp only[Idn.L_B]at hU
 go_enter Tryz.func107,Tryz.ntmps107
 go_wp2_with (go_at_call 86;refine hU.mono ?_;rintro e w1 ⟨rfl,hb1⟩)
 go_ret
 exact ⟨rfl,hb1⟩
theorem hasE_und {es:List IxE} {b:Bs} {e:IxE} (he:e∈subE es b):e∈es:=(List.mem_filter.1 he).1
theorem trSub_any (h : TrV w hs lo pt es mb g) (hG : GdT es) (b : Bs) (hb : b.length ≤ 1000000) :
    Calls Tryz.prog 40 #[.pointer (some ⟨pt,0,none⟩),.string (B b)] w fun e w'=>∃v qs,e=.returned v∧EntRow w' w.heap.size v qs∧qs.map (·.1)=trSub es b∧Below w.heap.size w w':=by
 have c0:=h.c0
 have hM:=fun W (hW:Below w.heap.size w W)=>trMade_any (cell_later hW c0)
 have hH:=fun W (hW:Below w.heap.size w W)=>trHas_any (h.keep hW) b (by omega)
 have HR:Hid (trSub es b=if !b.isEmpty&&!hasE es b then []else subE es b):=rfl
 generalize trSub es b=r at *
 have hgo:∀W,Below w.heap.size w W→W.cell? ⟨w.heap.size,0,none⟩=some (.string (B b))→Calls Tryz.prog 106 #[.pointer (some ⟨pt,0,none⟩),.func (.func 107) #[] #[.pointer (some ⟨w.heap.size,0,none⟩)]] W fun e w'=>∃v,e=.returned v∧w'.ownsRow W.heap.size 9 1 v ((subE es b).map (·.1)).length (((subE es b).map (·.1)).map sv)∧Below W.heap.size W w':=
  fun W hW hq=>trNames_any 107 #[.pointer (some ⟨w.heap.size,0,none⟩)] fn_sub1 (h.keep hW) hG (fun n=>nmUnd n b) fun V n hV hv=>sub1_any n _ b V (by have:=valid_len hv;omega) hb (cell_later hV hq)
 have hCp:=fun (e:IxE) (he:e∈subE es b) W (hW:Below w.heap.size w W)=>trCopied_any (n:=e.1) (A:=e.2) (h.keep hW) hG (hasE_und he)
 have hsl:(subE es b).length≤256:=Nat.le_trans (List.length_filter_le _ _) hG.len
 by_cases hno:b.isEmpty=false∧hasE es b=false
 ·obtain ⟨hie,hh⟩:=hno
  have hbe:(B b).toList.isEmpty=false:=by rw[toList_L,Idn.L_B];exact hie
  have HF:Hid (r=[]):=by show _=_;rw[HR.out,hie,hh];rfl
  rw[hh]at hH
  clear HR hgo hie hCp
  go_enter Tryz.func40,Tryz.ntmps40
  go_upto_region 1 with fail
  with_reducible refine gen1 (R:=fun W=>Code.wp Tryz.prog _ _ _ W) ?_
  intro W hbW hszW hc hfz
  have q0:W.cell? ⟨w.heap.size,0,none⟩=some (.string (B b)):=hc 0 _ rfl
  clear hc hfz hszW
  go_wp2_with (first
   |(go_at_call 94;refine (hM _ hbW).mono ?_;rintro e w1 ⟨rfl,rfl⟩)
   |(go_at_call 93;refine (hH _ hbW).mono ?_;rintro e w2 ⟨rfl,rfl⟩))
  go_ret
  exact ⟨_,[],rfl,EntRow.nil _ _,by rw[HF.out];rfl,hbW⟩
 have HF:Hid (r=subE es b):=by
  show _=_
  rw[HR.out,if_neg]
  intro hc
  rw[Bool.and_eq_true,Bool.not_eq_true',Bool.not_eq_true']at hc
  exact hno hc
 have hcase:(B b).toList.isEmpty=true∨((B b).toList.isEmpty=false∧hasE es b=true):=by
  rw[toList_L,Idn.L_B]
  cases h1:b.isEmpty with
  |true=>exact .inl rfl
  |false=>
   cases h2:hasE es b with
   |true=>exact .inr ⟨rfl,rfl⟩
   |false=>exact absurd ⟨h1,h2⟩ hno
 clear HR hno
 generalize hSE:subE es b=S at *
 clear hSE
 go_enter Tryz.func40,Tryz.ntmps40
 go_upto_region 1 with fail
 with_reducible refine gen1 (R:=fun W=>Code.wp Tryz.prog _ _ _ W) ?_
 intro W hbW hszW hc hfz
 have q0:W.cell? ⟨w.heap.size,0,none⟩=some (.string (B b)):=hc 0 _ rfl
 clear hc hfz hszW
 have hgoW:=hgo W hbW q0
 have hMW:=hM W hbW
 have hHW:=hH W hbW
 clear hgo hM hH
 have hmain:∀a:Act,True:=fun _=>trivial
 clear hmain
 rcases hcase with hbe|⟨hbe,hh⟩
 all_goals
  (try rw[hh]at hHW)
  go_upto_region 4 with (first
   |(go_at_call 94;refine hMW.mono ?_;rintro e w1 ⟨rfl,rfl⟩)
   |(go_at_call 93;refine hHW.mono ?_;rintro e w2 ⟨rfl,rfl⟩))
  go_wp2_with (go_at_call 106;refine hgoW.mono ?_;rintro e w3 ⟨v3,rfl,hown3,hb3⟩;obtain ⟨A3,c3,hsh⟩:=own_shape hown3;subst hsh)
  have hS3:StrsV w3 w3.heap.size (.slice A3 (S.map (·.1)).length c3) (S.map (·.1)):=StrsV.of_own hown3
  have hbw3:=hbW.trans (hb3.mono hbW.size)
  have hml:(S.map (·.1)).length=S.length:=List.length_map ..
  rw[hml]at hS3
  try simp only[hml]
  clear hgoW hMW hHW hown3 q0
  go_loopw [25,5] (fun i ov wr=>∃(k:Nat) (qs:List (EntP×Value)),k≤S.length∧i=.int .i64 k∧EntRow wr w3.heap.size ov qs∧qs.length=k∧Hid (qs.map (·.1)=S.take k)∧Below w3.heap.size w3 wr) (fun i _ _=>S.length-(intOf i).toNat)
  case atStart=>exact ⟨0,[],Nat.zero_le _,rfl,EntRow.nil _ _,rfl,rfl,Below.refl _ _⟩
  case round=>
   obtain ⟨k,qs,hk,rfl,hrow,hql,hinv,hb⟩:=hrel
   obtain ⟨Ao,co,hsh⟩:=own_shape hrow.1
   subst hsh
   rw[hql]
   by_cases hlt:k<S.length
   ·have hltI:(k:Int)<(S.length:Int):=by omega
    obtain ⟨b9,off,rfl,hbl,d0⟩:=StrsV.cell (SlV.keep hS3 hb) (k:=k) (by rw[List.length_map];exact hlt)
    rw[List.getElem_map]at d0
    have hbw:=hbw3.trans (hb.mono hbw3.size)
    have hC:=hCp S[k] (List.getElem_mem hlt) wr hbw
    have hstep:Hid (S.take (k+1)=S.take k++[S[k]]):=List.take_succ_eq_append_getElem hlt
    have hQL:=Lib.hid hql
    clear hql hCp
    generalize S[k]=x at *
    go_wp2_with (first
     |(go_at_call 108;refine hC.mono ?_;rintro e w4 ⟨k4,c4,ps,rfl,hao,hps,hb4⟩;have hrow4:=hrow.keep hb4)
     |(at_builtin;refine wpList_pushE (w:=w4) rfl _ _ rfl w3.heap.size _ qs hrow4 (by rw[hQL.out];rfl) ((x.1,x.2),.slice k4 x.2.length c4) ⟨ps,AttRow.low ⟨hao.1,hao.2.1⟩ hb.size,hps⟩ rfl (by rw[hQL.out];omega) (Nat.le_trans hb.size hb4.size) ?_ rfl;intro A5 c5 w5 hrow5 hg5 hb5))
    go_roundw
    case rel=>exact ⟨k+1,qs++[((x.1,x.2),.slice k4 x.2.length c4)],by omega,by go_num,hrow5,by simp[hQL.out],by show _=_;rw[List.map_append,hinv.out,hstep.out];rfl,(hb.trans (hb4.mono hb.size)).trans hb5⟩
    case measure=>simp[intOf];omega
   ·have hltI:¬(k:Int)<(S.length:Int):=by omega
    have HX:Hid (∃v qs,Ending.returned (Value.slice Ao k co)=.returned v∧EntRow wr w.heap.size v qs∧qs.map (·.1)=r∧Below w.heap.size w wr):=⟨_,qs,rfl,by rw[←hql];exact hrow.low hbw3.size,by rw[hinv.out,HF.out,List.take_of_length_le (by omega)],hbw3.trans (hb.mono hbw3.size)⟩
    clear hinv hql
    go_wp2_with fail
    go_ret
    obtain ⟨v,qs',h1,h2,h3,h4⟩:=HX.out
    exact ⟨v,h1,qs',h2,h3,h4⟩
end
end Go.Proofs.YtbkkchhimhlhcaaGreatDoor
/- law12: example, query, program. -/
namespace Go.Proofs.YtbkkchhimhlhcaaGreatDoor
open Go.RowKit Go.Sort
open Idn (L B Bs drop_L take_L size_L)
namespace E12
def staffN:Bs:=[111,117,61,115,116,97,102,102]
def annN:Bs:=[99,110,61,97,110,110,44,111,117,61,115,116,97,102,102]
def bobN:Bs:=[99,110,61,98,111,98,44,111,117,61,115,116,97,102,102]
def CN:Bs:=[67,78]
def sch:Idn.Sch:=⟨[⟨Idn.mainN,1,false⟩,⟨E8.cnN,1,false⟩,⟨E9.mailN,1,false⟩],[]⟩
def annL:List Idn.Att:=[⟨E8.cnN,[[97,110,110]]⟩,⟨E9.mailN,[[109]]⟩]
def bobL:List Idn.Att:=[⟨E8.cnN,[[98,111,98]]⟩]
def dat:Dat:=⟨sch,[staffN],[(annN,annL),(bobN,bobL)],[E8.cnN]⟩
end E12
def putsOk:List IxE→List IxE→Bool
 |[],_=>true
 |x :: l,es=>(ixPut es x.1 x.2).1==0&&putsOk l (ixPut es x.1 x.2).2
theorem att_one {w:World} {n x:Bs} {p q:Nat} {e1 e2:TypeId} (h1:w.ownsRow 0 e1 2 (.slice (some ⟨p,0,none⟩) 1 1) 1 [sv n,.slice (some ⟨q,0,none⟩) 1 1]) (h2:w.ownsRow 0 e2 1 (.slice (some ⟨q,0,none⟩) 1 1) 1 [sv x]):AttsV w w.heap.size (.slice (some ⟨p,0,none⟩) 1 1) [⟨n,[x]⟩]:=by
 refine SlV.own (l:=[(⟨n,[x]⟩:Idn.Att)]) h1 fun i y hy=>?_
 match i,hy with
 |0,hy=>injection hy with hy;subst hy;exact ⟨_,rfl,⟨_,rfl,oneS h2⟩,fun j u hj=>by match j,hj with|0,hj=>exact hj|1,hj=>exact hj⟩
theorem att_two {w:World} {n x n' x':Bs} {p q q':Nat} {e1 e2 e3:TypeId} (h1:w.ownsRow 0 e1 2 (.slice (some ⟨p,0,none⟩) 2 2) 2 [sv n,.slice (some ⟨q,0,none⟩) 1 1,sv n',.slice (some ⟨q',0,none⟩) 1 1]) (h2:w.ownsRow 0 e2 1 (.slice (some ⟨q,0,none⟩) 1 1) 1 [sv x]) (h3:w.ownsRow 0 e3 1 (.slice (some ⟨q',0,none⟩) 1 1) 1 [sv x']):AttsV w w.heap.size (.slice (some ⟨p,0,none⟩) 2 2) [⟨n,[x]⟩,⟨n',[x']⟩]:=by
 refine SlV.own (l:=[(⟨n,[x]⟩:Idn.Att),⟨n',[x']⟩]) h1 fun i y hy=>?_
 match i,hy with
 |0,hy=>injection hy with hy;subst hy;exact ⟨_,rfl,⟨_,rfl,oneS h2⟩,fun j u hj=>by match j,hj with|0,hj=>exact hj|1,hj=>exact hj⟩
 |1,hy=>injection hy with hy;subst hy;exact ⟨_,rfl,⟨_,rfl,oneS h3⟩,fun j u hj=>by match j,hj with|0,hj=>exact hj|1,hj=>exact hj⟩
theorem ent_two {w:World} {n n':Bs} {v v':Value} {A A':List Idn.Att} {p:Nat} {e:TypeId} (h1:w.ownsRow 0 e 2 (.slice (some ⟨p,0,none⟩) 2 2) 2 [sv n,v,sv n',v']) (h2:AttsV w w.heap.size v A) (h3:AttsV w w.heap.size v' A'):EntsV w w.heap.size (.slice (some ⟨p,0,none⟩) 2 2) [(n,A),(n',A')]:=by
 refine SlV.own (l:=[((n,A):EntP),(n',A')]) h1 fun i y hy=>?_
 match i,hy with
 |0,hy=>injection hy with hy;subst hy;exact ⟨_,rfl,⟨_,rfl,h2⟩,fun j u hj=>by match j,hj with|0,hj=>exact hj|1,hj=>exact hj⟩
 |1,hy=>injection hy with hy;subst hy;exact ⟨_,rfl,⟨_,rfl,h3⟩,fun j u hj=>by match j,hj with|0,hj=>exact hj|1,hj=>exact hj⟩
section
variable {w:World}
theorem query12_any {d : Nat} {v : Value} {f : Flt} (hF : FltV w w.heap.size d v f) (sc lim : Int) :
  Calls Tryz.prog 80 #[v,.int .i64 sc,.int .i64 lim] w fun e w'=>∃Ap cp Ak ck An cn,e=.returned (.agg #[.string (B E12.staffN),.int .i64 sc,.int .i64 f.kind,.string (B f.name),.string (B f.value),.slice Ap f.parts.length cp,.slice Ak f.kids.length ck,.slice An 1 cn,.int .i64 lim])∧QryV w' w'.heap.size d (.agg #[.string (B E12.staffN),.int .i64 sc,.int .i64 f.kind,.string (B f.name),.string (B f.value),.slice Ap f.parts.length cp,.slice Ak f.kids.length ck,.slice An 1 cn,.int .i64 lim]) ⟨E12.staffN,sc,f,[E12.CN],lim⟩∧Below w.heap.size w w':=by
 obtain ⟨Ap,cp,Ak,ck,rfl,hp,hk⟩:=hF.shape
 go_enter Tryz.func80,Tryz.ntmps80
 go_upto_region 1 with fail
 with_reducible refine gen2g (R:=fun W=>Code.wp Tryz.prog _ _ _ W) ?_
 intro W hbW hszW hc hc2 hf1 hf2
 have b0:W.cell? ⟨w.heap.size,0,none⟩=some (.int .i64 f.kind):=hc 0 _ rfl
 have b1:W.cell? ⟨w.heap.size,1,none⟩=some (.string (B f.name)):=hc 1 _ rfl
 have b2:W.cell? ⟨w.heap.size,2,none⟩=some (.string (B f.value)):=hc 2 _ rfl
 have b3:W.cell? ⟨w.heap.size,3,none⟩=some (.slice Ap f.parts.length cp):=hc 3 _ rfl
 have b4:W.cell? ⟨w.heap.size,4,none⟩=some (.slice Ak f.kids.length ck):=hc 4 _ rfl
 have z0:W.cell? ⟨w.heap.size+1,0,none⟩=some (.string ⟨#[]⟩):=hc2 0 _ rfl
 have g0:=hf2 0
 have z1:W.cell? ⟨w.heap.size+1,1,none⟩=some (.int .i64 0):=hc2 1 _ rfl
 have g1:=hf2 1
 have z2:W.cell? ⟨w.heap.size+1,2,none⟩=some (.int .i64 0):=hc2 2 _ rfl
 have g2:=hf2 2
 have z3:W.cell? ⟨w.heap.size+1,3,none⟩=some (.string ⟨#[]⟩):=hc2 3 _ rfl
 have g3:=hf2 3
 have z4:W.cell? ⟨w.heap.size+1,4,none⟩=some (.string ⟨#[]⟩):=hc2 4 _ rfl
 have g4:=hf2 4
 have z5:W.cell? ⟨w.heap.size+1,5,none⟩=some (.slice none 0 0):=hc2 5 _ rfl
 have g5:=hf2 5
 have z6:W.cell? ⟨w.heap.size+1,6,none⟩=some (.slice none 0 0):=hc2 6 _ rfl
 have g6:=hf2 6
 have z7:W.cell? ⟨w.heap.size+1,7,none⟩=some (.slice none 0 0):=hc2 7 _ rfl
 have g7:=hf2 7
 have z8:W.cell? ⟨w.heap.size+1,8,none⟩=some (.int .i64 0):=hc2 8 _ rfl
 have g8:=hf2 8
 have hzW:w.heap.size+1<W.heap.size:=by omega
 clear hc hc2 hf1 hf2 hszW
 go_wp2
 have hb1:∀X:World,Below w.heap.size w X→Below w.heap.size w (X.alloc (.cells #[.string ⟨#[67,78]⟩] 9)):=fun X h=>Below.lay h _
 have hbX:Below w.heap.size w (((((((((W.setCell ⟨w.heap.size+1,0,none⟩ (.string ⟨#[111,117,61,115,116,97,102,102]⟩)).setCell ⟨w.heap.size+1,1,none⟩ (.int .i64 sc)).setCell ⟨w.heap.size+1,2,none⟩ (.int .i64 f.kind)).setCell ⟨w.heap.size+1,3,none⟩ (.string (B f.name))).setCell ⟨w.heap.size+1,4,none⟩ (.string (B f.value))).setCell ⟨w.heap.size+1,5,none⟩ (.slice Ap f.parts.length cp)).setCell ⟨w.heap.size+1,6,none⟩ (.slice Ak f.kids.length ck)).setCell ⟨w.heap.size+1,7,none⟩ (.slice (some ⟨W.heap.size,0,none⟩) 1 1)).setCell ⟨w.heap.size+1,8,none⟩ (.int .i64 lim)):=by
  repeat (first|with_reducible exact hbW|refine Below.setCell ?_ (by simp) _)
 with_reducible refine genW (R:=fun W=>bodyPost _ _ _ _ _ W) (Q:=fun V=>(V.cell? ⟨w.heap.size+1,0,none⟩=some (.string (B E12.staffN))∧V.cell? ⟨w.heap.size+1,1,none⟩=some (.int .i64 sc)∧V.cell? ⟨w.heap.size+1,2,none⟩=some (.int .i64 f.kind)∧V.cell? ⟨w.heap.size+1,3,none⟩=some (.string (B f.name))∧V.cell? ⟨w.heap.size+1,4,none⟩=some (.string (B f.value))∧V.cell? ⟨w.heap.size+1,5,none⟩=some (.slice Ap f.parts.length cp)∧V.cell? ⟨w.heap.size+1,6,none⟩=some (.slice Ak f.kids.length ck)∧V.cell? ⟨w.heap.size+1,7,none⟩=some (.slice (some ⟨W.heap.size,0,none⟩) 1 1)∧V.cell? ⟨w.heap.size+1,8,none⟩=some (.int .i64 lim))∧QryV V V.heap.size d (.agg #[.string (B E12.staffN),.int .i64 sc,.int .i64 f.kind,.string (B f.name),.string (B f.value),.slice Ap f.parts.length cp,.slice Ak f.kids.length ck,.slice (some ⟨W.heap.size,0,none⟩) 1 1,.int .i64 lim]) ⟨E12.staffN,sc,f,[E12.CN],lim⟩∧Below w.heap.size w V) ?_ ?_
 ·refine ⟨⟨?_,?_,?_,?_,?_,?_,?_,?_,?_⟩,⟨_,_,_,rfl,hF.on (hb1 _ hbX),oneS (x:=E12.CN) (litR _ _ 1 1 _ _ (by simp) (by decide) rfl)⟩,hb1 _ hbX⟩
  ·exact cell_later (Below.lay (Below.refl _ _) _) (cell_set (i:=8) (cell_set (i:=7) (cell_set (i:=6) (cell_set (i:=5) (cell_set (i:=4) (cell_set (i:=3) (cell_set (i:=2) (cell_set (i:=1) (cell_set (i:=0) (z0))))))))))
  ·exact cell_later (Below.lay (Below.refl _ _) _) (cell_set (i:=8) (cell_set (i:=7) (cell_set (i:=6) (cell_set (i:=5) (cell_set (i:=4) (cell_set (i:=3) (cell_set (i:=2) (cell_set (i:=1) (cell_set (i:=0) (z1))))))))))
  ·exact cell_later (Below.lay (Below.refl _ _) _) (cell_set (i:=8) (cell_set (i:=7) (cell_set (i:=6) (cell_set (i:=5) (cell_set (i:=4) (cell_set (i:=3) (cell_set (i:=2) (cell_set (i:=1) (cell_set (i:=0) (z2))))))))))
  ·exact cell_later (Below.lay (Below.refl _ _) _) (cell_set (i:=8) (cell_set (i:=7) (cell_set (i:=6) (cell_set (i:=5) (cell_set (i:=4) (cell_set (i:=3) (cell_set (i:=2) (cell_set (i:=1) (cell_set (i:=0) (z3))))))))))
  ·exact cell_later (Below.lay (Below.refl _ _) _) (cell_set (i:=8) (cell_set (i:=7) (cell_set (i:=6) (cell_set (i:=5) (cell_set (i:=4) (cell_set (i:=3) (cell_set (i:=2) (cell_set (i:=1) (cell_set (i:=0) (z4))))))))))
  ·exact cell_later (Below.lay (Below.refl _ _) _) (cell_set (i:=8) (cell_set (i:=7) (cell_set (i:=6) (cell_set (i:=5) (cell_set (i:=4) (cell_set (i:=3) (cell_set (i:=2) (cell_set (i:=1) (cell_set (i:=0) (z5))))))))))
  ·exact cell_later (Below.lay (Below.refl _ _) _) (cell_set (i:=8) (cell_set (i:=7) (cell_set (i:=6) (cell_set (i:=5) (cell_set (i:=4) (cell_set (i:=3) (cell_set (i:=2) (cell_set (i:=1) (cell_set (i:=0) (z6))))))))))
  ·exact cell_later (Below.lay (Below.refl _ _) _) (cell_set (i:=8) (cell_set (i:=7) (cell_set (i:=6) (cell_set (i:=5) (cell_set (i:=4) (cell_set (i:=3) (cell_set (i:=2) (cell_set (i:=1) (cell_set (i:=0) (z7))))))))))
  ·exact cell_later (Below.lay (Below.refl _ _) _) (cell_set (i:=8) (cell_set (i:=7) (cell_set (i:=6) (cell_set (i:=5) (cell_set (i:=4) (cell_set (i:=3) (cell_set (i:=2) (cell_set (i:=1) (cell_set (i:=0) (z8))))))))))
 ·rintro V ⟨⟨k0,k1,k2,k3,k4,k5,k6,k7,k8⟩,hQ,hb⟩
  exact bodyPost_ret (by simp[results,Tryz.results80,go_sem,k0,k1,k2,k3,k4,k5,k6,k7,k8]) rfl ⟨_,_,_,_,_,_,rfl,hQ,hb⟩
theorem example12_any (w : World) :
  Calls Tryz.prog 79 #[] w fun e w'=>∃v,e=.returned v∧DatV w' w'.heap.size v E12.dat∧Below w.heap.size w w':=by
 go_enter Tryz.func79,Tryz.ntmps79
 go_wp2
 with_reducible refine genW (R:=fun W=>bodyPost _ _ _ _ _ W) (Q:=fun W=>(W.cell? ⟨w.heap.size,0,none⟩=some (.slice (some ⟨w.heap.size+1,0,none⟩) 3 3)∧W.cell? ⟨w.heap.size,1,none⟩=some (.slice none 0 0)∧W.cell? ⟨w.heap.size,2,none⟩=some (.slice (some ⟨w.heap.size+1+1+1+1+1+1+1+1+1,0,none⟩) 1 1)∧W.cell? ⟨w.heap.size,3,none⟩=some (.slice (some ⟨w.heap.size+1+1+1+1+1+1+1+1,0,none⟩) 2 2)∧W.cell? ⟨w.heap.size,4,none⟩=some (.slice (some ⟨w.heap.size+1+1+1+1+1+1+1+1+1+1,0,none⟩) 1 1))∧
  DatV W W.heap.size (.agg #[.slice (some ⟨w.heap.size+1,0,none⟩) 3 3,.slice none 0 0,.slice (some ⟨w.heap.size+1+1+1+1+1+1+1+1+1,0,none⟩) 1 1,.slice (some ⟨w.heap.size+1+1+1+1+1+1+1+1,0,none⟩) 2 2,.slice (some ⟨w.heap.size+1+1+1+1+1+1+1+1+1+1,0,none⟩) 1 1]) E12.dat∧Below w.heap.size w W) ?_ ?_
 ·refine ⟨⟨?_,?_,?_,?_,?_⟩,⟨_,_,_,_,_,rfl,⟨_,_,rfl,?_,SlV.nil _ _ _ _⟩,?_,?_,?_⟩,?_⟩
  ·refine Eq.trans (World.ownsRow.cellAt (n:=1) (size:=5) (((((((((((litR w _ 1 5 _ _ rfl (by decide) rfl).alloc _).alloc _).alloc _).alloc _).alloc _).alloc _).alloc _).alloc _).alloc _).alloc _) 0 (by decide)) ?_
   rfl
  ·refine Eq.trans (World.ownsRow.cellAt (n:=1) (size:=5) (((((((((((litR w _ 1 5 _ _ rfl (by decide) rfl).alloc _).alloc _).alloc _).alloc _).alloc _).alloc _).alloc _).alloc _).alloc _).alloc _) 1 (by decide)) ?_
   rfl
  ·refine Eq.trans (World.ownsRow.cellAt (n:=1) (size:=5) (((((((((((litR w _ 1 5 _ _ rfl (by decide) rfl).alloc _).alloc _).alloc _).alloc _).alloc _).alloc _).alloc _).alloc _).alloc _).alloc _) 2 (by decide)) ?_
   rfl
  ·refine Eq.trans (World.ownsRow.cellAt (n:=1) (size:=5) (((((((((((litR w _ 1 5 _ _ rfl (by decide) rfl).alloc _).alloc _).alloc _).alloc _).alloc _).alloc _).alloc _).alloc _).alloc _).alloc _) 3 (by decide)) ?_
   rfl
  ·refine Eq.trans (World.ownsRow.cellAt (n:=1) (size:=5) (((((((((((litR w _ 1 5 _ _ rfl (by decide) rfl).alloc _).alloc _).alloc _).alloc _).alloc _).alloc _).alloc _).alloc _).alloc _).alloc _) 4 (by decide)) ?_
   rfl
  ·refine SlV.own ((((((((((litR _ _ 3 3 _ _ (by simp) (by decide) rfl).alloc _).alloc _).alloc _).alloc _).alloc _).alloc _).alloc _).alloc _).alloc _) fun i x hx=>?_
   match i,hx with
   |0,hx=>injection hx with hx;subst hx;exact ⟨_,rfl,rfl,fun j u hj=>by match j,hj with|0,hj=>exact hj|1,hj=>exact hj|2,hj=>exact hj⟩
   |1,hx=>injection hx with hx;subst hx;exact ⟨_,rfl,rfl,fun j u hj=>by match j,hj with|0,hj=>exact hj|1,hj=>exact hj|2,hj=>exact hj⟩
   |2,hx=>injection hx with hx;subst hx;exact ⟨_,rfl,rfl,fun j u hj=>by match j,hj with|0,hj=>exact hj|1,hj=>exact hj|2,hj=>exact hj⟩
  ·exact oneS (x:=E12.staffN) ((litR _ _ 1 1 _ _ (by simp) (by decide) rfl).alloc _)
  ·exact ent_two (((litR _ _ 2 2 _ _ (by simp) (by decide) rfl).alloc _).alloc _) (att_two ((((((litR _ _ 2 2 _ _ (by simp) (by decide) rfl).alloc _).alloc _).alloc _).alloc _).alloc _) ((((((((litR _ _ 1 1 _ _ (by simp) (by decide) rfl).alloc _).alloc _).alloc _).alloc _).alloc _).alloc _).alloc _) (((((((litR _ _ 1 1 _ _ (by simp) (by decide) rfl).alloc _).alloc _).alloc _).alloc _).alloc _).alloc _)) (att_one ((((litR _ _ 1 2 _ _ (by simp) (by decide) rfl).alloc _).alloc _).alloc _) (((((litR _ _ 1 1 _ _ (by simp) (by decide) rfl).alloc _).alloc _).alloc _).alloc _))
  ·exact oneS (x:=E8.cnN) (litR _ _ 1 1 _ _ (by simp) (by decide) rfl)
  ·repeat (first|with_reducible exact Below.refl _ _|with_reducible refine Below.lay ?_ _)
 ·rintro W ⟨⟨k0,k1,k2,k3,k4⟩,hS,hb⟩
  exact bodyPost_ret (by simp[results,Tryz.results79,go_sem,k0,k1,k2,k3,k4]) rfl ⟨_,rfl,hS,hb⟩
end
end Go.Proofs.YtbkkchhimhlhcaaGreatDoor
/- law12: program. -/
namespace Go.Proofs.YtbkkchhimhlhcaaGreatDoor
open Go.RowKit Go.Sort
open Idn (L B Bs drop_L take_L size_L)
section
variable {w w':World} {hs lo px:Nat} {s:Idn.Sch} {ns:List Bs} {ix:List IxE} {ta cb:Value} {eb vb:Nat} {gx:Bs→Value} {ts:List (Bs×Nat)} {G:Bs→Bs→Option Nat} {hs' lo' pt:Nat} {es:List IxE} {mb:Nat} {g:Bs→Value}
theorem IxV.tree (h:IxV w hs lo px s ns ix ta cb eb vb gx ts G) (ht:TrV w hs' lo' pt es mb g) (hm:Mv (·=mb) w w') (hb:mb<hs):IxV w' hs lo px s ns ix ta cb eb vb gx ts G:=
 h.mv hm fun k hk=>by
  have e:k=mb:=hk
  subst e
  exact ⟨fun e=>by have:=h.hsv;omega,fun hS=>by have:=h.lowS _ hS;omega,.inl ht.mapb⟩
theorem TrV.index (ht:TrV w hs' lo' pt es mb g) (h:IxV w hs lo px s ns ix ta cb eb vb gx ts G) (hm:Mv (IxS eb ts G) w w') (hb:mb<hs):TrV w' hs' lo' pt es mb g:=
 ht.mv hm fun k hk=>⟨fun e=>by have:=h.lowS _ hk;omega,.inl (h.allMap k hk)⟩
end
def RetPr (w:World) (d:Dat) (e:Ending) (w':World):Prop:=Below w.heap.size w w'∧
 (((trNew d.roots).1=0∧nwE d.sch d.idx=0∧∃lo pt mb g px,e=.returned (.tuple #[.pointer (some ⟨pt,0,none⟩),.pointer (some ⟨px,0,none⟩),.bool (putsOk (addsE d.ents (trNew d.roots).2) [])])∧TrV w' w.heap.size lo pt (addsE d.ents (trNew d.roots).2) mb g∧GdT (addsE d.ents (trNew d.roots).2)∧
  (putsOk (addsE d.ents (trNew d.roots).2) []=true→∃hs lo' ta cb eb vb gx ts G,IxV w' hs lo' px d.sch d.idx (addsE d.ents (trNew d.roots).2) ta cb eb vb gx ts G∧GdI d.sch d.idx (addsE d.ents (trNew d.roots).2)))∨
  (¬((trNew d.roots).1=0∧nwE d.sch d.idx=0)∧e=.returned (.tuple #[.pointer none,.pointer none,.bool false])))
theorem RetPr.no {w w':World} {d:Dat} (h:¬((trNew d.roots).1=0∧nwE d.sch d.idx=0)) (hb:Below w.heap.size w w'):RetPr w d (.returned (.tuple #[.pointer none,.pointer none,.bool false])) w':=⟨hb,.inr ⟨h,rfl⟩⟩
theorem program12_any {v : Value} {d : Dat} (w : World) (hD : DatV w w.heap.size v d) (hd : DSm d) (hssm : SSm d.sch) (hE : ∀ W, Below w.heap.size w W → Env W ∧ EnvU W) :
    Calls Tryz.prog 39 #[v] w (RetPr w d):=by
 obtain ⟨A1,c1,A2,c2,A3,c3,A4,c4,A5,c5,rfl,hS,hR,hV,hX⟩:=hD.shape
 have kT:=fun W (hW:Below w.heap.size w W)=>trNew_any _ d.roots W (SlV.mono (SlV.keep hR hW) hW.size) (by have:=hd.rt.1;omega) (fun x hx=>by have:=hd.rt.2 x hx;omega)
 have kI:=fun W (hW:Below w.heap.size w W)=>ixNew_any _ _ d.sch d.idx W (SchV.mono (SchV.keep hS hW) hW.size) hssm (by have:=hd.ty;omega) (by have:=hd.cl;omega) (fun c hc=>by have:=hd.ml c hc;omega) (SlV.mono (SlV.keep hX hW) hW.size) (by have:=hd.ix.1;omega) (fun x hx=>by have:=hd.ix.2 x hx;omega)
 have hno:∀W:World,¬((trNew d.roots).1=0∧nwE d.sch d.idx=0)→Below w.heap.size w W→RetPr w d (.returned (.tuple #[.pointer none,.pointer none,.bool false])) W:=fun W h1 h2=>RetPr.no h1 h2
 have hgd:(trNew d.roots).1=0→GdT (trNew d.roots).2:=fun h=>new_gd h fun x hx=>by have:=hd.rt.2 x hx;omega
 have hgi:=fun h=>nwE_zero (s:=d.sch) (ns:=d.idx) hssm h
 have hne:=hd.en
 have hel:=hd.el
 have HP:∀e W,RetPr w d e W↔(Below w.heap.size w W∧
  (((trNew d.roots).1=0∧nwE d.sch d.idx=0∧∃lo pt mb g px,e=.returned (.tuple #[.pointer (some ⟨pt,0,none⟩),.pointer (some ⟨px,0,none⟩),.bool (putsOk (addsE d.ents (trNew d.roots).2) [])])∧TrV W w.heap.size lo pt (addsE d.ents (trNew d.roots).2) mb g∧GdT (addsE d.ents (trNew d.roots).2)∧
  (putsOk (addsE d.ents (trNew d.roots).2) []=true→∃hs lo' ta cb eb vb gx ts G,IxV W hs lo' px d.sch d.idx (addsE d.ents (trNew d.roots).2) ta cb eb vb gx ts G∧GdI d.sch d.idx (addsE d.ents (trNew d.roots).2)))∨
   (¬((trNew d.roots).1=0∧nwE d.sch d.idx=0)∧e=.returned (.tuple #[.pointer none,.pointer none,.bool false])))):=fun e W=>Iff.rfl
 have HPh:=Lib.hid HP
 have HNh:=Lib.hid hno
 clear hS hR hX hd hno HP hD
 obtain ⟨s,roots,ents,idx⟩:=d
 dsimp only at *
 go_enter Tryz.func39,Tryz.ntmps39
 go_upto_region 1 with fail
 with_reducible refine gen1 (R:=fun W=>Code.wp Tryz.prog _ _ _ W) ?_
 intro W hbW hszW hc _
 have b0:W.cell? ⟨w.heap.size,0,none⟩=some (.slice A1 s.types.length c1):=hc 0 _ rfl
 have b1:W.cell? ⟨w.heap.size,1,none⟩=some (.slice A2 s.classes.length c2):=hc 1 _ rfl
 have b2:W.cell? ⟨w.heap.size,2,none⟩=some (.slice A3 roots.length c3):=hc 2 _ rfl
 have b3:W.cell? ⟨w.heap.size,3,none⟩=some (.slice A4 ents.length c4):=hc 3 _ rfl
 have b4:W.cell? ⟨w.heap.size,4,none⟩=some (.slice A5 idx.length c5):=hc 4 _ rfl
 clear hc
 have hwW:w.heap.size<W.heap.size:=by omega
 clear hszW
 generalize hnw:nwE s idx=ec at *
 have HNW:=Lib.hid hnw
 clear hnw
 generalize htn:trNew roots=tn at *
 have HTN:=Lib.hid htn
 obtain ⟨tr,es0⟩:=tn
 dsimp only at *
 have hTT:=kT W hbW
 unfold RetTN at hTT
 rw[htn]at hTT
 clear htn kT
 go_upto_region 2 with fail
 refine hTT.mono ?_
 rintro e w1 ⟨hb1,⟨hz,pt,mb,rfl,hT⟩|⟨hz,rfl⟩⟩
 case inr=>
  have hbw1:=hbW.trans (hb1.mono hbW.size)
  replace b0:=cell_later hb1 b0
  replace b1:=cell_later hb1 b1
  replace b4:=cell_later hb1 b4
  have hzI:(tr !=0)=true:=by simpa using hz
  have HX:Hid (¬(tr=0∧ec=0)):=fun h=>hz h.1
  clear hTT hz hgd hgi HPh HTN b2 b3 hb1
  go_upto_region 3 with fail
  refine (kI w1 hbw1).mono ?_
  rintro e w2 ⟨hb2,⟨hz2,px,eb,vb,hs,ta,cb,ts,rfl,_,_⟩|⟨hz2,rfl⟩⟩
  all_goals
   have hbw2:=hbw1.trans (hb2.mono hbw1.size)
   clear kI b0 b1 b4 hz2
   go_wp2_with fail
   refine bodyPost_ret (v:=.tuple #[.pointer none,.pointer none,.bool false]) (by simp[results,Tryz.results39,go_sem]) rfl ?_
   exact HNh.out _ HX.out hbw2
 subst hz
 have hG0:=hgd rfl
 have hT0:=hT 0 (Nat.zero_le _)
 have hbw1:=hbW.trans (hb1.mono hbW.size)
 replace b0:=cell_later hb1 b0
 replace b1:=cell_later hb1 b1
 replace b3:=cell_later hb1 b3
 replace b4:=cell_later hb1 b4
 clear hTT hgd hT b2
 go_upto_region 3 with fail
 refine (kI w1 hbw1).mono ?_
 rintro e w2 ⟨hb2,⟨hz2,px,eb,vb,hs,ta,cb,ts,rfl,hhs,hI⟩|⟨hz2,rfl⟩⟩
 case inr=>
  have hbw2:=hbw1.trans (hb2.mono hbw1.size)
  have hzI:(ec !=0)=true:=by simpa using hz2
  have HX:Hid (¬((0:Int)=0∧ec=0)):=fun h=>hz2 h.2
  clear kI b0 b1 b3 b4 hz2 hgi HPh HTN hT0 hG0
  go_wp2_with fail
  refine bodyPost_ret (v:=.tuple #[.pointer none,.pointer none,.bool false]) (by simp[results,Tryz.results39,go_sem]) rfl ?_
  exact HNh.out _ HX.out hbw2
 subst hz2
 have hGI0:=Lib.hid (hgi rfl)
 have hbw2:=hbw1.trans (hb2.mono hbw1.size)
 have hbW2:Below W.heap.size W w2:=hb1.trans (hb2.mono hb1.size)
 have hT2:=hT0.keep hb2
 have hmbh:mb<hs:=Nat.lt_of_lt_of_le hT0.lt hhs
 have hWh:W.heap.size≤hs:=Nat.le_trans hb1.size hhs
 have hbk2:∀V,Below W.heap.size W V→V.heap[w.heap.size]?=w2.heap[w.heap.size]?:=fun V hV=>(hV.block _ hwW).trans (hbW2.block _ hwW).symm
 replace b3:=cell_later hb2 b3
 have HG0:=Lib.hid hG0
 clear kI b0 b1 b4 hgi hT0 hhs hb1 hb2 hbw1 hG0
 go_upto_region 5 with fail
 go_wp2_with fail
 go_loopw [43] (fun i wr=>∃(k:Nat) (g:Bs→Value),k≤ents.length∧i=.int .i64 k∧TrV wr W.heap.size 0 pt (addsE (ents.take k) es0) mb g∧IxV wr hs hs px s idx [] ta cb eb vb (fun _=>.map none) ts (fun _ _=>none)∧Hid (GdT (addsE (ents.take k) es0))∧Below W.heap.size W wr) (fun i _=>ents.length-(intOf i).toNat)
 case atStart=>exact ⟨0,noG,Nat.zero_le _,rfl,hT2,hI,HG0,hbW2⟩
 case round=>
  obtain ⟨k,g,hk,rfl,hTk,hIk,hGk,hbk⟩:=hrel
  clear hT2 hI hbW2
  replace b3:=(World.cell?_of_block (hbk2 wr hbk)).trans b3
  by_cases hlt:k<ents.length
  ·have hltI:(k:Int)<(ents.length:Int):=by omega
   have hbwk:Below w.heap.size w wr:=hbW.trans (hbk.mono hbW.size)
   obtain ⟨b,off,va,hAd,hbl,d0,d1,hva⟩:=EntsV.cell (EntsV.keep hV hbwk) hlt
   subst hAd
   obtain ⟨Av,cv,rfl,_⟩:=SlV.shape hva
   obtain ⟨hn3,hrc⟩:=hel _ (List.getElem_mem hlt)
   have hA:=trAdd_any hTk hGk.out ents[k].1 (by omega) _ ents[k].2 (AttsV.mono hva hbwk.size) hrc.sm
   have hst:(trAdd (addsE (ents.take k) es0) ents[k].1 ents[k].2).2=addsE (ents.take (k+1)) es0:=by
    rw[List.take_succ_eq_append_getElem hlt,adds_snoc]
   have hG9:Hid (GdT (addsE (ents.take (k+1)) es0)):=by
    have:=hGk.out.add (n:=ents[k].1) (A:=ents[k].2) (by omega) hrc
    rw[hst]at this
    exact this
   rw[hst]at hA
   generalize (trAdd (addsE (ents.take k) es0) ents[k].1 ents[k].2).1=r at *
   clear hst hva hrc hn3 hGk
   generalize ents[k]=x at *
   obtain ⟨xn,xa⟩:=x
   dsimp only at d0 d1 hA
   go_wp2_with (go_at_call 30;refine hA.mono ?_;rintro e w5 ⟨rfl,g5,hT5,hm5⟩)
   have hI5:=hIk.tree hTk hm5 hmbh
   have hb5:Below W.heap.size W w5:=hbk.trans (hm5.below (fun j hj=>by have e:j=mb:=hj;rw[e];exact hTk.hsm) hbk.size)
   go_roundw
   case rel=>exact ⟨k+1,g5,by omega,by go_num,hT5,hI5,hG9,hb5⟩
   case measure=>simp[intOf];omega
  ·have hltI:¬(k:Int)<(ents.length:Int):=by omega
   rw[List.take_of_length_le (by omega)]at hTk hGk
   have hSb:=trSub_any hTk hGk.out [] (by decide)
   rw[sub_all hGk.out.ok]at hSb
   have hSb':Calls Tryz.prog 40 #[.pointer (some ⟨pt,0,none⟩),.string ⟨#[]⟩] wr fun e w'=>∃v qs,e=.returned v∧EntRow w' wr.heap.size v qs∧qs.map (·.1)=addsE ents es0∧Below wr.heap.size wr w':=hSb
   generalize hES:addsE ents es0=es at *
   have HES:=Lib.hid hES
   clear hSb hES b3 hV hel
   go_upto_region 11 with (go_at_call 40;refine hSb'.mono ?_;rintro e w3 ⟨v3,ps,rfl,hrow,hps,hb3⟩;obtain ⟨A9,c9,hsh⟩:=own_shape hrow.1;subst hsh)
   have hT3:=hTk.keep hb3
   have hI3:=hIk.keep hb3
   have hbW3:=hbk.trans (hb3.mono hbk.size)
   have hpl:ps.length=es.length:=by rw[←hps,List.length_map]
   have hpl9:ps.length≤256:=by rw[hpl];exact hGk.out.len
   have HPS:=Lib.hid hps
   have HPL:=Lib.hid hpl
   have hrs:wr.heap.size≤w3.heap.size:=hb3.size
   clear hSb' hTk hIk hb3 hbk hps hpl
   go_wp2_with fail
   go_loopw [58] (fun i wi=>∃(k:Nat) (gx:Bs→Value) (G:Bs→Bs→Option Nat),k≤ps.length∧i=.int .i64 k∧TrV wi W.heap.size 0 pt es mb g∧IxV wi hs hs px s idx (es.take k) ta cb eb vb gx ts G∧EntRow wi wr.heap.size (.slice A9 ps.length c9) ps∧Hid (GdI s idx (es.take k))∧Below W.heap.size W wi∧Hid (putsOk es []=putsOk (es.drop k) (es.take k))) (fun i _=>ps.length-(intOf i).toNat)
   case atStart=>exact ⟨0,_,_,Nat.zero_le _,rfl,hT3,hI3,hrow,hGI0,hbW3,rfl⟩
   case round=>
    rename World=>wi
    obtain ⟨m,gx,Gx,hm,rfl,hTm,hIm,hrm,hGm,hbm,hinv⟩:=hrel
    clear hT3 hI3 hrow hbW3
    by_cases hlt5:m<ps.length
    ·have hltI5:(m:Int)<(ps.length:Int):=by omega
     have hltS:m<es.length:=by rw[←HPL.out];exact hlt5
     obtain ⟨g9,hA1,hcell⟩:=own_open hrm.1 (by omega)
     subst hA1
     obtain ⟨rx0,rx1⟩:=rowEn_at ps m _ (List.getElem?_eq_getElem hlt5)
     have d0:=hcell _ _ rx0
     have d1:=hcell _ _ rx1
     obtain ⟨pz,hox,hoz⟩:=hrm.2 _ (List.getElem_mem hlt5)
     have hSk:es[m]=ps[m].1:=by
      have h1:(ps.map (·.1))[m]?=es[m]?:=by rw[HPS.out]
      rw[List.getElem?_map,List.getElem?_eq_getElem hlt5,List.getElem?_eq_getElem hltS]at h1
      exact (Option.some.inj h1).symm
     have hat:=hox.atts hoz
     have hnm:=hGk.out.nam _ (List.getElem_mem hltS)
     have hsm:=hGk.out.sm (List.getElem_mem hltS)
     have hdr:es.drop m=es[m] :: es.drop (m+1):=List.drop_eq_getElem_cons hltS
     have hpn:=put_next hGk.out hltS
     have htl:(es.take m).length<256:=by rw[List.length_take];have:=hGk.out.len;omega
     have hinv2:=hinv.out
     rw[hdr,putsOk]at hinv2
     clear hcell rx0 rx1 hdr hinv hoz
     rw[hSk]at hnm hsm hpn hinv2
     generalize ps[m]=px' at *
     obtain ⟨⟨xn,xa⟩,xu⟩:=px'
     obtain ⟨Ax,cx,hxu⟩:=own_shape hox.1
     dsimp only at d0 d1 hxu hnm hsm hpn hat hinv2
     subst hxu
     unfold sv at d0
     have hP:=put11_any hIm hGm.out htl hWh W hbm (fun V hV=>hE V (hbW.trans (hV.mono hbW.size))) xn hnm _ xa hat hsm
     clear hox hat hSk
     generalize hrr:ixPut (es.take m) xn xa=rr at *
     obtain ⟨ri,re⟩:=rr
     dsimp only at hP hpn hinv2
     clear hrr
     go_wp2_with fail
     refine hP.mono ?_
     rintro e w6 ⟨rfl,g6,G6,hI6,hG6,hm6,_,hb6,_⟩
     have hT6:=hTm.index hIm hm6 hmbh
     have hr6:=hrm.mvM hm6 fun k hk=>.inr (hIm.allMap k hk)
     by_cases h0:ri=0
     ·subst h0
      have hre:=hpn rfl
      subst hre
      have HX:Hid (putsOk es []=putsOk (es.drop (m+1)) (es.take (m+1))):=by show _=_;rw[hinv2];rfl
      have HG6:=Lib.hid hG6
      clear hpn hinv2 hG6 hP hTm hIm hm6
      go_wp2_with fail
      go_roundw
      case rel=>exact ⟨m+1,g6,G6,by omega,by go_num,hT6,hI6,hr6,HG6,hb6,HX⟩
      case measure=>simp[intOf];omega
     ·have h0I:(ri !=0)=true:=by simpa using h0
      have HX:Hid (putsOk es []=false):=by
       show _=_
       rw[hinv2,beq_eq_false_iff_ne.2 h0];rfl
      have HY:Hid (RetPr w ⟨s,roots,ents,idx⟩ (.returned (.tuple #[.pointer (some ⟨pt,0,none⟩),.pointer (some ⟨px,0,none⟩),.bool false])) w6):=by
       refine (HPh.out _ _).2 ⟨hbW.trans (hb6.mono hbW.size),.inl ⟨by trivial,by trivial,0,pt,mb,g,px,?_,?_,?_,fun h=>?_⟩⟩
       ·first|rw[HES.out,HX.out]|rw[HX.out]
       ·first|(rw[HES.out];exact { hT6 with hsz:=Nat.le_trans hbW.size hT6.hsz,hsp:=Nat.le_trans hbW.size hT6.hsp,hsm:=Nat.le_trans hbW.size hT6.hsm })|exact { hT6 with hsz:=Nat.le_trans hbW.size hT6.hsz,hsp:=Nat.le_trans hbW.size hT6.hsp,hsm:=Nat.le_trans hbW.size hT6.hsm }
       ·first|(rw[HES.out];exact hGk.out)|exact hGk.out
       ·first|(rw[HES.out,HX.out]at h;cases h)|(rw[HX.out]at h;cases h)
      clear hpn hinv2 hG6 hP hTm hIm hm6 hT6 hI6 hr6 HX h0
      go_wp2_with fail
      refine bodyPost_ret (v:=.tuple #[.pointer (some ⟨pt,0,none⟩),.pointer (some ⟨px,0,none⟩),.bool false]) (by simp[results,Tryz.results39,go_sem]) rfl ?_
      exact HY.out
    ·have hltI5:¬(m:Int)<(ps.length:Int):=by omega
     have hml:es.length≤m:=by rw[←HPL.out];omega
     have hX:putsOk es []=true:=by rw[hinv.out,List.drop_eq_nil_of_le hml];rfl
     rw[List.take_of_length_le hml]at hIm hGm
     have HY:Hid (RetPr w ⟨s,roots,ents,idx⟩ (.returned (.tuple #[.pointer (some ⟨pt,0,none⟩),.pointer (some ⟨px,0,none⟩),.bool true])) wi):=by
      refine (HPh.out _ _).2 ⟨hbW.trans (hbm.mono hbW.size),.inl ⟨by trivial,by trivial,0,pt,mb,g,px,?_,?_,?_,fun _=>?_⟩⟩
      ·first|rw[HES.out,hX]|rw[hX]
      ·first|(rw[HES.out];exact { hTm with hsz:=Nat.le_trans hbW.size hTm.hsz,hsp:=Nat.le_trans hbW.size hTm.hsp,hsm:=Nat.le_trans hbW.size hTm.hsm })|exact { hTm with hsz:=Nat.le_trans hbW.size hTm.hsz,hsp:=Nat.le_trans hbW.size hTm.hsp,hsm:=Nat.le_trans hbW.size hTm.hsm }
      ·first|(rw[HES.out];exact hGk.out)|exact hGk.out
      ·first|(rw[HES.out];exact ⟨_,_,_,_,_,_,_,_,_,hIm,hGm.out⟩)|exact ⟨_,_,_,_,_,_,_,_,_,hIm,hGm.out⟩
     clear hinv hX hIm hGm hTm hrm
     go_wp2_with fail
     refine bodyPost_ret (v:=.tuple #[.pointer (some ⟨pt,0,none⟩),.pointer (some ⟨px,0,none⟩),.bool true]) (by simp[results,Tryz.results39,go_sem]) rfl ?_
     exact HY.out
end Go.Proofs.YtbkkchhimhlhcaaGreatDoor
/- search: begin, scope, found, Scan. -/
namespace Go.Proofs.YtbkkchhimhlhcaaGreatDoor
open Go.RowKit Go.Sort
open Idn (L B Bs drop_L take_L size_L)
def RetQ (w:World) (r:List IxE×Int) (e:Ending) (w':World):Prop:=∃v qs,e=.returned (.tuple #[v,.int .i64 r.2])∧EntRow w' w.heap.size v qs∧qs.map (·.1)=r.1∧Below w.heap.size w w'
theorem RetQ.no {w w':World} {r:Int} (h:Below w.heap.size w w'):RetQ w ([],r) (.returned (.tuple #[.slice none 0 0,.int .i64 r])) w':=⟨_,[],rfl,EntRow.nil _ _,rfl,h⟩
theorem RetQ.up {w W w':World} {r:List IxE×Int} {e:Ending} (h:RetQ W r e w') (hb:Below w.heap.size w W):RetQ w r e w':=by
 obtain ⟨v,qs,h1,h2,h3,h4⟩:=h
 exact ⟨v,qs,h1,h2.low hb.size,h3,hb.trans (h4.mono hb.size)⟩
def RetEs (w:World) (l:List IxE) (e:Ending) (w':World):Prop:=∃k c qs,e=.returned (.slice k l.length c)∧EntRow w' w.heap.size (.slice k l.length c) qs∧qs.map (·.1)=l∧Below w.heap.size w w'
theorem EntRow.val {w:World} {base:Nat} {v:Value} {qs:List (EntP×Value)} {l:List IxE} (h:EntRow w base v qs) (hl:qs.map (·.1)=l):∃k c,v=.slice k l.length c:=by
 obtain ⟨k,c,e⟩:=own_shape h.1
 exact ⟨k,c,by rw[e,←hl,List.length_map]⟩
section
variable {w:World} {hs lo pt:Nat} {es:List IxE} {mb:Nat} {g:Bs→Value} {d:Nat} {v:Value} {q:Qry}
theorem seFirst_any (hT : TrV w hs lo pt es mb g) (hG : GdT es) (hq : QryV w w.heap.size d v q) (hsm : QSm q) :
    Calls Tryz.prog 96 #[.pointer (some ⟨pt,0,none⟩),v] w fun e w'=>e=.returned (.int .i64 (qFirst es q))∧Below w.heap.size w w':=by
 have hD:=fun W (hW:Below w.heap.size w W)=>trDelB_any (hT.keep hW) hG
 have hC:=fun W (hW:Below w.heap.size w W)=>seCheck_any (hq.on hW) hsm
 have hGt:=fun W (hW:Below w.heap.size w W)=>trGet_any (hT.keep hW) hG q.base hsm.base
 obtain ⟨Ap,cp,Ak,ck,An,cn,rfl,_,_⟩:=hq.shape
 have HR:Hid (qFirst es q=if qChk q≠0 then qChk q else if hasE es q.base then 0 else 6):=rfl
 generalize qFirst es q=r at *
 generalize qChk q=qc at *
 generalize hh:hasE es q.base=hb at *
 clear hq hh hT
 obtain ⟨base,scope,flt,names,limit⟩:=q
 dsimp only at *
 go_enter Tryz.func96,Tryz.ntmps96
 go_upto_region 1 with fail
 with_reducible refine gen1 (R:=fun W=>Code.wp Tryz.prog _ _ _ W) ?_
 intro W hbW hszW hc _
 have b0:W.cell? ⟨w.heap.size,0,none⟩=some (.string (B base)):=hc 0 _ rfl
 have b1:W.cell? ⟨w.heap.size,1,none⟩=some (.int .i64 scope):=hc 1 _ rfl
 have b2:W.cell? ⟨w.heap.size,2,none⟩=some (.int .i64 flt.kind):=hc 2 _ rfl
 have b3:W.cell? ⟨w.heap.size,3,none⟩=some (.string (B flt.name)):=hc 3 _ rfl
 have b4:W.cell? ⟨w.heap.size,4,none⟩=some (.string (B flt.value)):=hc 4 _ rfl
 have b5:W.cell? ⟨w.heap.size,5,none⟩=some (.slice Ap flt.parts.length cp):=hc 5 _ rfl
 have b6:W.cell? ⟨w.heap.size,6,none⟩=some (.slice Ak flt.kids.length ck):=hc 6 _ rfl
 have b7:W.cell? ⟨w.heap.size,7,none⟩=some (.slice An names.length cn):=hc 7 _ rfl
 have b8:W.cell? ⟨w.heap.size,8,none⟩=some (.int .i64 limit):=hc 8 _ rfl
 clear hc hszW
 go_upto_region 4 with (first
  |(go_at_call 172;refine (hD _ hbW).mono ?_;rintro e w1 ⟨rfl,rfl⟩)
  |(go_at_call 23;refine (hC _ hbW).mono ?_;rintro e w2 ⟨rfl,hb2⟩))
 have hbw2:=hbW.trans (hb2.mono hbW.size)
 replace b0:=cell_later hb2 b0
 clear b1 b2 b3 b4 b5 b6 b7 b8 hC hD
 by_cases h0:qc=0
 case neg=>
  have hI:(qc !=0)=true:=by simpa using h0
  have HF:Hid (r=qc):=by show _=_;rw[HR.out,if_pos h0]
  clear HR
  go_wp2
  go_ret
  exact ⟨ret_int HF.out.symm,hbw2⟩
 subst h0
 have HR1:Hid (r=if hb then 0 else 6):=HR.out
 clear HR
 replace hGt:=hGt w2 hbw2
 cases hb
 ·have HF:Hid (r=6):=HR1.out
  go_wp2_with (go_at_call 173;refine hGt.mono ?_;rintro e w3 ⟨s3,k3,l3,c3,rfl,hb3⟩)
  go_ret
  exact ⟨ret_int HF.out.symm,Below.lay (hbw2.trans (hb3.mono hbw2.size)) _⟩
 ·have HF:Hid (r=0):=HR1.out
  go_wp2_with (go_at_call 173;refine hGt.mono ?_;rintro e w3 ⟨s3,k3,l3,c3,rfl,hb3⟩)
  go_ret
  exact ⟨ret_int HF.out.symm,Below.lay (hbw2.trans (hb3.mono hbw2.size)) _⟩
theorem seScope_any (hT : TrV w hs lo pt es mb g) (hG : GdT es) (hq : QryV w w.heap.size d v q) (hsm : QSm q) :
  Calls Tryz.prog 98 #[.pointer (some ⟨pt,0,none⟩),v] w (RetEs w ((trSub es q.base).filter fun e=>qIn q e.1)):=by
 have hSb:=fun W (hW:Below w.heap.size w W)=>trSub_any (hT.keep hW) hG q.base hsm.base
 have hIn:=fun (n:Bs) (hn:n.length≤1000000) W (hW:Below w.heap.size w W)=>seIn_any (hq.on hW) hsm.base n hn
 have hsl:(trSub es q.base).length≤256:=by
  unfold trSub
  split
  ·exact Nat.zero_le _
  ·exact Nat.le_trans (List.length_filter_le _ _) hG.len
 have hnm:∀e∈trSub es q.base,e.1.length≤1000000:=fun e he=>by
  unfold trSub at he
  split at he
  ·cases he
  ·exact hG.nam e (List.mem_filter.1 he).1
 obtain ⟨Ap,cp,Ak,ck,An,cn,rfl,_,_⟩:=hq.shape
 generalize trSub es q.base=S at *
 obtain ⟨M,hM⟩:∃M:Bs→Bool,M=fun n=>qIn q n:=⟨_,rfl⟩
 have hMn:=fun n=>(congrFun hM n).symm
 have hres:(S.filter fun e=>qIn q e.1)=S.filter fun e=>M e.1:=by rw[hM]
 rw[hres]
 simp only[hMn]at hIn
 clear hq hsm hT hM hMn hres
 obtain ⟨base,scope,flt,names,limit⟩:=q
 dsimp only at *
 go_enter Tryz.func98,Tryz.ntmps98
 go_upto_region 2 with fail
 with_reducible refine gen1 (R:=fun W=>Code.wp Tryz.prog _ _ _ W) ?_
 intro W hbW hszW hc _
 have b0:W.cell? ⟨w.heap.size,0,none⟩=some (.string (B base)):=hc 0 _ rfl
 have b1:W.cell? ⟨w.heap.size,1,none⟩=some (.int .i64 scope):=hc 1 _ rfl
 have b2:W.cell? ⟨w.heap.size,2,none⟩=some (.int .i64 flt.kind):=hc 2 _ rfl
 have b3:W.cell? ⟨w.heap.size,3,none⟩=some (.string (B flt.name)):=hc 3 _ rfl
 have b4:W.cell? ⟨w.heap.size,4,none⟩=some (.string (B flt.value)):=hc 4 _ rfl
 have b5:W.cell? ⟨w.heap.size,5,none⟩=some (.slice Ap flt.parts.length cp):=hc 5 _ rfl
 have b6:W.cell? ⟨w.heap.size,6,none⟩=some (.slice Ak flt.kids.length ck):=hc 6 _ rfl
 have b7:W.cell? ⟨w.heap.size,7,none⟩=some (.slice An names.length cn):=hc 7 _ rfl
 have b8:W.cell? ⟨w.heap.size,8,none⟩=some (.int .i64 limit):=hc 8 _ rfl
 clear hc hszW
 go_wp2_with (go_at_call 40;refine (hSb _ hbW).mono ?_;rintro e w1 ⟨v1,ps,rfl,hrow,hps,hb1⟩;obtain ⟨A1,c1,hv1⟩:=own_shape hrow.1;subst hv1)
 have hbw1:=hbW.trans (hb1.mono hbW.size)
 replace b0:=cell_later hb1 b0
 replace b1:=cell_later hb1 b1
 replace b2:=cell_later hb1 b2
 replace b3:=cell_later hb1 b3
 replace b4:=cell_later hb1 b4
 replace b5:=cell_later hb1 b5
 replace b6:=cell_later hb1 b6
 replace b7:=cell_later hb1 b7
 replace b8:=cell_later hb1 b8
 have hpl:ps.length=S.length:=by rw[←hps,List.length_map]
 have hpl9:ps.length≤256:=by omega
 have HPS:=Lib.hid hps
 clear hSb hpl hsl hps
 go_loopw [5,13] (fun o i wr=>∃(k:Nat) (qs:List (EntP×Value)),k≤ps.length∧i=.int .i64 k∧wr.ownsRow w1.heap.size 48 2 o qs.length (rowEn qs)∧Below w1.heap.size w1 wr∧Hid (qs=(ps.take k).filter fun p=>M p.1.1)∧qs.length≤k) (fun _ i _=>ps.length-(intOf i).toNat)
 case atStart=>exact ⟨0,[],Nat.zero_le _,rfl,World.ownsRow_nil _ _ _ _,Below.refl _ _,rfl,Nat.le_refl _⟩
 case round=>
  obtain ⟨k,qs,hk,rfl,hown,hb,hinv,hql⟩:=hrel
  obtain ⟨wo,hwo⟩:∃wo:World,wo=wr:=⟨_,rfl⟩
  subst hwo
  by_cases hlt:k<ps.length
  ·have hltI:(k:Int)<(ps.length:Int):=by omega
   obtain ⟨g9,hA1,hcell⟩:=own_open (own_below hrow.1 hb) (by omega)
   subst hA1
   obtain ⟨rx0,rx1⟩:=rowEn_at ps k _ (List.getElem?_eq_getElem hlt)
   have d0:=hcell _ _ rx0
   have d1:=hcell _ _ rx1
   have hstep:=filter_take8 (fun p:EntP×Value=>M p.1.1) ps k hlt
   obtain ⟨pz,hox,_⟩:=hrow.2 _ (List.getElem_mem hlt)
   have hxn:ps[k].1.1.length≤1000000:=hnm _ (by rw[←HPS.out];exact List.mem_map.2 ⟨_,List.getElem_mem hlt,rfl⟩)
   clear hcell rx0 rx1
   generalize ps[k]=px at *
   obtain ⟨⟨xn,xa⟩,xu⟩:=px
   obtain ⟨Ax,cx,hxu⟩:=own_shape hox.1
   dsimp only at d0 d1 hstep hxu hxn
   subst hxu
   unfold sv at d0
   replace b0:=cell_later hb b0
   replace b1:=cell_later hb b1
   replace b2:=cell_later hb b2
   replace b3:=cell_later hb b3
   replace b4:=cell_later hb b4
   replace b5:=cell_later hb b5
   replace b6:=cell_later hb b6
   replace b7:=cell_later hb b7
   replace b8:=cell_later hb b8
   go_upto_region 5 with fail
   with_reducible refine gen1 (R:=fun W=>Code.wp Tryz.prog _ _ _ W) ?_
   intro V hbV hszV hcV _
   have x0:V.cell? ⟨wo.heap.size,0,none⟩=some (.string (B xn)):=hcV 0 _ rfl
   have x1:V.cell? ⟨wo.heap.size,1,none⟩=some (.slice Ax pz.length cx):=hcV 1 _ rfl
   replace b0:=cell_later hbV b0
   replace b1:=cell_later hbV b1
   replace b2:=cell_later hbV b2
   replace b3:=cell_later hbV b3
   replace b4:=cell_later hbV b4
   replace b5:=cell_later hbV b5
   replace b6:=cell_later hbV b6
   replace b7:=cell_later hbV b7
   replace b8:=cell_later hbV b8
   have hbwV:Below w.heap.size w V:=hbw1.trans ((hb.trans (hbV.mono hb.size)).mono hbw1.size)
   have hP1:=hIn xn hxn V hbwV
   have hownV:=own_below hown hbV
   have hb1V:=hb.trans (hbV.mono hb.size)
   clear hcV hszV hIn hox hbwV d0 d1
   cases hw:M xn
   ·rw[hw]at hP1 hstep
    have HX:Hid (qs=(ps.take (k+1)).filter fun p=>M p.1.1):=by show _=_;rw[hstep,if_neg (by decide),List.append_nil,hinv.out]
    clear hstep hw hinv
    go_wp2_with (go_at_call 25;refine hP1.mono ?_;rintro e w5 ⟨rfl,hb5⟩)
    go_roundw
    case rel=>exact ⟨k+1,qs,by omega,by go_num,own_below hownV hb5,hb1V.trans (hb5.mono hb1V.size),HX,by omega⟩
    case measure=>simp[intOf];omega
   ·rw[hw]at hP1 hstep
    have HX:Hid (qs++[((xn,xa),.slice Ax pz.length cx)]=(ps.take (k+1)).filter fun p=>M p.1.1):=by show _=_;rw[hstep,if_pos rfl,hinv.out]
    clear hstep hw hinv
    go_upto_region 6 with (go_at_call 25;refine hP1.mono ?_;rintro e w5 ⟨rfl,hb5⟩)
    replace x0:=cell_later hb5 x0
    replace x1:=cell_later hb5 x1
    have hown5:=own_below hownV hb5
    have hb15:=hb1V.trans (hb5.mono hb1V.size)
    clear hownV hown hP1
    go_wp2_with (at_builtin;refine wpList_push w5 rfl _ _ 27 rfl w1.heap.size 48 (.agg #[.string ⟨#[]⟩,.slice none 0 0]) 2 40 Tryz.underlying27 info_ent rfl (by decide) _ qs.length _ hown5 rfl [.string (B xn),.slice Ax pz.length cx] rfl rfl (by intro u hu;simp at hu;rcases hu with rfl|rfl<;>rfl) (by omega) hb15.size ?_ rfl)
    intro v9 w9 hown9 _ _ hb9 _
    clear hown5
    go_wp2
    go_roundw
    case rel=>exact ⟨k+1,qs++[((xn,xa),.slice Ax pz.length cx)],by omega,by go_num,by rw[List.length_append,rowEn_app];exact hown9,hb15.trans hb9,HX,by rw[List.length_append];simp;omega⟩
    case measure=>simp[intOf];omega
  ·have hltI:¬(k:Int)<(ps.length:Int):=by omega
   have hqs:qs=ps.filter fun p=>M p.1.1:=by rw[hinv.out,List.take_of_length_le (by omega)]
   have hfin:qs.map (·.1)=S.filter fun e=>M e.1:=by
    rw[←HPS.out,hqs,List.filter_map];rfl
   have hrw:EntRow wo w.heap.size _ qs:=⟨own_base hown hbw1.size,fun p hp=>by
    rw[hqs]at hp
    obtain ⟨pz,h1,h2⟩:=hrow.2 p (List.mem_filter.1 hp).1
    exact ⟨pz,(h1.keep hb).low hbW.size,h2⟩⟩
   obtain ⟨ko,co,ho⟩:=hrw.val hfin
   subst ho
   have HX:Hid (RetEs w (S.filter fun e=>M e.1) (.returned (.slice ko (S.filter fun e=>M e.1).length co)) wo):=⟨ko,co,qs,rfl,hrw,hfin,hbw1.trans (hb.mono hbw1.size)⟩
   clear hinv hqs hfin hrw hIn hown
   go_wp2_with fail
   go_ret
   exact HX.out
theorem seFound_any (sv0 : Value) (s : Idn.Sch) (lv : Value) (l : List IxE) (hS : SchV w w.heap.size sv0 s) (hssm : SSm s) (hE : Env w) (hU : EnvU w) (hL : EntsV w w.heap.size lv l) (hll : l.length ≤ 256) (hget : ∀ e ∈ l, AGet e.2) (hq : QryV w w.heap.size d v q) (hsm : QSm q) :
    Calls Tryz.prog 97 #[sv0,lv,v] w (RetQ w (qRes s l q)):=by
 have kM:=fun (k:Nat) (hk:k<l.length) (nm:ByteArray) (av:Value) W (hW:Below w.heap.size w W) (hav:AttsV W W.heap.size av l[k].2) (fv:Value) (hf:FltV W W.heap.size d fv q.flt)=>fMatch_any d sv0 s fv q.flt nm av l[k].2 W (SchV.mono (SchV.keep hS hW) hW.size) hssm (hE.keep hW) (hU.keep hW) hav (hget _ (List.getElem_mem hk)) hf hsm.flt
 have kP:=fun (k:Nat) (hk:k<l.length) (av nv:Value) W (hav:AttsV W W.heap.size av l[k].2) (hn:StrsV W W.heap.size nv q.names)=>pick_any av l[k].2 nv q.names W hav (hget _ (List.getElem_mem hk)).1 hn hsm.len hsm.nam
 obtain ⟨Ap,cp,Ak,ck,An,cn,rfl,hF,hN⟩:=hq.shape
 obtain ⟨sa,sb,rfl,hTy,hCl⟩:=hS
 obtain ⟨A1,c1,rfl,_⟩:=SlV.shape hTy
 obtain ⟨A2,c2,rfl,_⟩:=SlV.shape hCl
 obtain ⟨A3,c3,rfl,_⟩:=SlV.shape hL
 have HR:Hid (qRes s l q=if q.limit<((l.filter fun e=>fMatch s e.2 q.flt).length:Int)then ([],3)else ((l.filter fun e=>fMatch s e.2 q.flt).map fun e=>(e.1,pickA e.2 q.names),0)):=rfl
 generalize qRes s l q=r at *
 obtain ⟨M,hM⟩:∃M:List Idn.Att→Bool,M=fun A=>fMatch s A q.flt:=⟨_,rfl⟩
 have hMn:=fun n=>(congrFun hM n).symm
 simp only[hMn]at HR kM
 clear hM hMn hq hsm hTy hCl
 obtain ⟨base,scope,flt,names,limit⟩:=q
 dsimp only at *
 go_enter Tryz.func97,Tryz.ntmps97
 go_upto_region 2 with fail
 with_reducible refine gen2 (R:=fun W=>Code.wp Tryz.prog _ _ _ W) ?_
 intro W hbW hszW hc1 hc
 have s0:W.cell? ⟨w.heap.size,0,none⟩=some (.slice A1 s.types.length c1):=hc1 0 _ rfl
 have s1:W.cell? ⟨w.heap.size,1,none⟩=some (.slice A2 s.classes.length c2):=hc1 1 _ rfl
 have b0:W.cell? ⟨w.heap.size+1,0,none⟩=some (.string (B base)):=hc 0 _ rfl
 have b1:W.cell? ⟨w.heap.size+1,1,none⟩=some (.int .i64 scope):=hc 1 _ rfl
 have b2:W.cell? ⟨w.heap.size+1,2,none⟩=some (.int .i64 flt.kind):=hc 2 _ rfl
 have b3:W.cell? ⟨w.heap.size+1,3,none⟩=some (.string (B flt.name)):=hc 3 _ rfl
 have b4:W.cell? ⟨w.heap.size+1,4,none⟩=some (.string (B flt.value)):=hc 4 _ rfl
 have b5:W.cell? ⟨w.heap.size+1,5,none⟩=some (.slice Ap flt.parts.length cp):=hc 5 _ rfl
 have b6:W.cell? ⟨w.heap.size+1,6,none⟩=some (.slice Ak flt.kids.length ck):=hc 6 _ rfl
 have b7:W.cell? ⟨w.heap.size+1,7,none⟩=some (.slice An names.length cn):=hc 7 _ rfl
 have b8:W.cell? ⟨w.heap.size+1,8,none⟩=some (.int .i64 limit):=hc 8 _ rfl
 clear hc hc1 hszW
 go_wp2_with fail
 go_loopw [8,13] (fun o i wr=>∃(k:Nat) (qs:List (EntP×Value)),k≤l.length∧i=.int .i64 k∧EntRow wr W.heap.size o qs∧Below W.heap.size W wr∧Hid (qs.map (·.1)=((l.take k).filter fun e=>M e.2).map fun e=>(e.1,pickA e.2 names))∧qs.length≤k) (fun _ i _=>l.length-(intOf i).toNat)
 case atStart=>exact ⟨0,[],Nat.zero_le _,rfl,EntRow.nil _ _,Below.refl _ _,rfl,Nat.le_refl _⟩
 case round=>
  obtain ⟨k,qs,hk,rfl,hrow,hb,hinv,hql⟩:=hrel
  obtain ⟨wo,hwo⟩:∃wo:World,wo=wr:=⟨_,rfl⟩
  subst hwo
  have hbwo:=hbW.trans (hb.mono hbW.size)
  replace s0:=cell_later hb s0
  replace s1:=cell_later hb s1
  replace b0:=cell_later hb b0
  replace b1:=cell_later hb b1
  replace b2:=cell_later hb b2
  replace b3:=cell_later hb b3
  replace b4:=cell_later hb b4
  replace b5:=cell_later hb b5
  replace b6:=cell_later hb b6
  replace b7:=cell_later hb b7
  replace b8:=cell_later hb b8
  by_cases hlt:k<l.length
  ·have hltI:(k:Int)<(l.length:Int):=by omega
   obtain ⟨b9,off,va,hA3,hbl,d0,d1,hva⟩:=EntsV.cell (EntsV.keep hL hbwo) hlt
   subst hA3
   obtain ⟨Ax,cx,rfl,_⟩:=SlV.shape hva
   have hM1:=kM k hlt
   have hP1:=kP k hlt
   have hstep:=filter_take8 (fun e:IxE=>M e.2) l k hlt
   have hvas:=AttsV.mono hva hbwo.size
   clear kM kP hva
   generalize l[k]=x at *
   obtain ⟨xn,xa⟩:=x
   dsimp only at d0 d1 hstep hM1 hP1 hvas
   go_upto_region 5 with fail
   with_reducible refine gen1 (R:=fun W=>Code.wp Tryz.prog _ _ _ W) ?_
   intro V hbV hszV hcV _
   have x0:V.cell? ⟨wo.heap.size,0,none⟩=some (.string (B xn)):=hcV 0 _ rfl
   have x1:V.cell? ⟨wo.heap.size,1,none⟩=some (.slice Ax xa.length cx):=hcV 1 _ rfl
   replace s0:=cell_later hbV s0
   replace s1:=cell_later hbV s1
   replace b0:=cell_later hbV b0
   replace b1:=cell_later hbV b1
   replace b2:=cell_later hbV b2
   replace b3:=cell_later hbV b3
   replace b4:=cell_later hbV b4
   replace b5:=cell_later hbV b5
   replace b6:=cell_later hbV b6
   replace b7:=cell_later hbV b7
   replace b8:=cell_later hbV b8
   have hbwV:=hbwo.trans (hbV.mono hbwo.size)
   have hvaV:=AttsV.mono (AttsV.keep hvas hbV) hbV.size
   have hM2:=hM1 (B xn) _ V hbwV hvaV _ (hF.on hbwV)
   have hrowV:=hrow.keep hbV
   have hbWV:=hb.trans (hbV.mono hb.size)
   clear hcV hszV hM1 d0 d1 hvas hbwo hrow
   cases hw:M xa
   ·rw[hw]at hM2 hstep
    have HX:Hid (qs.map (·.1)=((l.take (k+1)).filter fun e=>M e.2).map fun e=>(e.1,pickA e.2 names)):=by show _=_;rw[hstep,if_neg (by decide),List.append_nil,hinv.out]
    clear hstep hw hinv hP1
    go_wp2_with (go_at_call 174;refine hM2.mono ?_;rintro e w5 ⟨rfl,hb5⟩)
    go_roundw
    case rel=>exact ⟨k+1,qs,by omega,by go_num,hrowV.keep hb5,hbWV.trans (hb5.mono hbWV.size),HX,by omega⟩
    case measure=>simp[intOf];omega
   ·rw[hw]at hM2 hstep
    have HX:Hid (qs.map (·.1)++[(xn,pickA xa names)]=((l.take (k+1)).filter fun e=>M e.2).map fun e=>(e.1,pickA e.2 names)):=by show _=_;rw[hstep,if_pos rfl,List.map_append,hinv.out];rfl
    clear hstep hw hinv
    go_upto_region 6 with (go_at_call 174;refine hM2.mono ?_;rintro e w5 ⟨rfl,hb5⟩)
    have hbd:=hb5.drew
    have y0:w5.drew.cell? ⟨wo.heap.size,0,none⟩=some (.string (B xn)):=cell_later hbd x0
    have y1:w5.drew.cell? ⟨wo.heap.size,1,none⟩=some (.slice Ax xa.length cx):=cell_later hbd x1
    have y2:w5.drew.cell? ⟨w.heap.size+1,7,none⟩=some (.slice An names.length cn):=cell_later hbd b7
    have hrow5:=hrowV.keep hbd
    have hbw5:=hbwV.trans (hbd.mono hbwV.size)
    have hbW5:=hbWV.trans (hbd.mono hbWV.size)
    have hP2:=hP1 _ _ w5.drew (AttsV.mono (AttsV.keep hvaV hbd) hbd.size) (SlV.mono (SlV.keep hN hbw5) hbw5.size)
    obtain ⟨A0,c0,hsh⟩:=own_shape hrow5.1
    subst hsh
    have hs5:=hbW5.size
    clear hM2 hP1 hrowV hb5 hbd x0 x1 s0 s1 b0 b1 b2 b3 b4 b5 b6 b7 b8 hbwV hvaV hbV
    go_region_law (first
     | (go_simp
        go_at_call 175
        refine hP2.mono ?_
        rintro e w7 ⟨v7,ps7,rfl,hat7,hps7,hb7⟩
        obtain ⟨A7,c7,hsh⟩:=own_shape hat7.1
        subst hsh
        have z0:=cell_later hb7 y0
        have hrow7:=hrow5.keep hb7
        have hs7:W.heap.size≤w7.heap.size:=Nat.le_trans hs5 hb7.size
        have hat8:=hat7.low hs5
        go_wp2_with fail)
     | (refine step_pushE (w := w7) rfl _ _ rfl W.heap.size _ qs hrow7 rfl ((xn, pickA xa names), .slice A7 ps7.length c7) ⟨ps7, hat8, hps7⟩ rfl (by omega) hs7 ?_ rfl
        intro A8 c8 w8 hrow8 hg8 hb8))
    all_goals
     have hbf:=(hbW5.trans (hb7.mono hbW5.size)).trans hb8
     have HX2:Hid ((qs++[((xn,pickA xa names),Value.slice A7 ps7.length c7)]).map (·.1)=((l.take (k+1)).filter fun e=>M e.2).map fun e=>(e.1,pickA e.2 names)):=by show _=_;rw[List.map_append];exact HX.out
     have hlen8:(qs++[((xn,pickA xa names),Value.slice A7 ps7.length c7)]).length≤k+1:=by rw[List.length_append];simp;omega
     clear HX hps7 hat7 hat8 hP2
     go_wp2_with fail
     go_roundw
     case rel=>exact ⟨k+1,_,by omega,by go_num,hrow8,hbf,HX2,hlen8⟩
     case measure=>simp[intOf];omega
  ·have hltI:¬(k:Int)<(l.length:Int):=by omega
   have hfin:qs.map (·.1)=(l.filter fun e=>M e.2).map fun e=>(e.1,pickA e.2 names):=by rw[hinv.out,List.take_of_length_le (by omega)]
   have hlq:qs.length=(l.filter fun e=>M e.2).length:=by
    have:=congrArg List.length hfin
    simpa using this
   obtain ⟨A0,c0,hsh⟩:=own_shape hrow.1
   subst hsh
   rw[←hlq]at HR
   clear hinv kM kP hL hN hF
   by_cases hlim:limit<(qs.length:Int)
   ·have HF:Hid (r=([],3)):=by show _=_;rw[HR.out,if_pos hlim]
    clear HR hfin hlq
    go_wp2_with fail
    go_ret2
    rw[HF.out]
    exact RetQ.no hbwo
   ·have HF : Hid (RetQ w r (.returned (.tuple #[.slice A0 qs.length c0, .int .i64 0])) wo) := by
      rw[HR.out,if_neg hlim]
      exact ⟨_,qs,rfl,hrow.low hbW.size,hfin,hbwo⟩
    clear HR hfin hlq
    go_wp2_with fail
    go_ret2
    exact HF.out
theorem seScan_any (sv0 : Value) (s : Idn.Sch) (hS : SchV w w.heap.size sv0 s) (hssm : SSm s) (hE : Env w) (hU : EnvU w) (hT : TrV w hs lo pt es mb g) (hG : GdT es) (hq : QryV w w.heap.size d v q) (hsm : QSm q) :
    Calls Tryz.prog 31 #[sv0,.pointer (some ⟨pt,0,none⟩),v] w (RetQ w (qScan s es q)):=by
 have kB:=fun W (hW:Below w.heap.size w W)=>seFirst_any (hT.keep hW) hG (hq.on hW) hsm
 have kS:=fun W (hW:Below w.heap.size w W)=>seScope_any (hT.keep hW) hG (hq.on hW) hsm
 have hsub:∀e∈qScope es q,e∈es:=fun e he=>(List.mem_filter.1 he).1
 have kF:=fun (lv:Value) W (hW:Below w.heap.size w W) (hL:EntsV W W.heap.size lv (qScope es q))=>seFound_any sv0 s lv (qScope es q) (SchV.mono (SchV.keep hS hW) hW.size) hssm (hE.keep hW) (hU.keep hW) hL (Nat.le_trans (List.length_filter_le _ _) hG.len) (fun e he=>hG.get (hsub e he)) (hq.on hW) hsm
 obtain ⟨Ap,cp,Ak,ck,An,cn,rfl,_,_⟩:=hq.shape
 obtain ⟨sa,sb,rfl,hTy,hCl⟩:=hS
 obtain ⟨A1,c1,rfl,_⟩:=SlV.shape hTy
 obtain ⟨A2,c2,rfl,_⟩:=SlV.shape hCl
 have HR:Hid (qScan s es q=if qFirst es q≠0 then ([],qFirst es q)else qRes s (qScope es q) q):=rfl
 have hsc:qFirst es q=0→(trSub es q.base).filter (fun e=>qIn q e.1)=qScope es q:=fun h0=>by
  refine scope_sub par_law ?_
  unfold qFirst at h0
  cases hh:hasE es q.base with
  |true=>rfl
  |false=>
   rw[hh]at h0
   by_cases hc:qChk q=0
   ·rw[if_neg (by simpa using hc)]at h0;cases h0
   ·rw[if_pos hc]at h0;exact absurd h0 hc
 generalize qScan s es q=r at *
 generalize qFirst es q=f0 at *
 by_cases h0:f0=0
 case neg=>
  have HF:Hid (r=([],f0)):=by show _=_;rw[HR.out,if_pos h0]
  have hI:(f0 !=0)=true:=by simpa using h0
  clear HR kS kF hsc hsub hTy hCl hq
  obtain ⟨base,scope,flt,names,limit⟩:=q
  dsimp only at *
  go_enter Tryz.func31,Tryz.ntmps31
  go_upto_region 1 with fail
  with_reducible refine gen2 (R:=fun W=>Code.wp Tryz.prog _ _ _ W) ?_
  intro W hbW hszW hc1 hc
  have b0:W.cell? ⟨w.heap.size+1,0,none⟩=some (.string (B base)):=hc 0 _ rfl
  have b1:W.cell? ⟨w.heap.size+1,1,none⟩=some (.int .i64 scope):=hc 1 _ rfl
  have b2:W.cell? ⟨w.heap.size+1,2,none⟩=some (.int .i64 flt.kind):=hc 2 _ rfl
  have b3:W.cell? ⟨w.heap.size+1,3,none⟩=some (.string (B flt.name)):=hc 3 _ rfl
  have b4:W.cell? ⟨w.heap.size+1,4,none⟩=some (.string (B flt.value)):=hc 4 _ rfl
  have b5:W.cell? ⟨w.heap.size+1,5,none⟩=some (.slice Ap flt.parts.length cp):=hc 5 _ rfl
  have b6:W.cell? ⟨w.heap.size+1,6,none⟩=some (.slice Ak flt.kids.length ck):=hc 6 _ rfl
  have b7:W.cell? ⟨w.heap.size+1,7,none⟩=some (.slice An names.length cn):=hc 7 _ rfl
  have b8:W.cell? ⟨w.heap.size+1,8,none⟩=some (.int .i64 limit):=hc 8 _ rfl
  clear hc hc1 hszW
  go_wp2_with (go_at_call 96;refine (kB _ hbW).mono ?_;rintro e w2 ⟨rfl,hb2⟩)
  go_ret2
  rw[HF.out]
  exact RetQ.no (hbW.trans (hb2.mono hbW.size))
 subst h0
 have HF:Hid (r=qRes s (qScope es q) q):=HR.out
 rw[hsc rfl]at kS
 rw[←HF.out]at kF
 generalize qScope es q=S at *
 clear HR hsc hsub hTy hCl HF hq
 obtain ⟨base,scope,flt,names,limit⟩:=q
 dsimp only at *
 go_enter Tryz.func31,Tryz.ntmps31
 go_upto_region 1 with fail
 with_reducible refine gen2 (R:=fun W=>Code.wp Tryz.prog _ _ _ W) ?_
 intro W hbW hszW hc1 hc
 have s0:W.cell? ⟨w.heap.size,0,none⟩=some (.slice A1 s.types.length c1):=hc1 0 _ rfl
 have s1:W.cell? ⟨w.heap.size,1,none⟩=some (.slice A2 s.classes.length c2):=hc1 1 _ rfl
 have b0:W.cell? ⟨w.heap.size+1,0,none⟩=some (.string (B base)):=hc 0 _ rfl
 have b1:W.cell? ⟨w.heap.size+1,1,none⟩=some (.int .i64 scope):=hc 1 _ rfl
 have b2:W.cell? ⟨w.heap.size+1,2,none⟩=some (.int .i64 flt.kind):=hc 2 _ rfl
 have b3:W.cell? ⟨w.heap.size+1,3,none⟩=some (.string (B flt.name)):=hc 3 _ rfl
 have b4:W.cell? ⟨w.heap.size+1,4,none⟩=some (.string (B flt.value)):=hc 4 _ rfl
 have b5:W.cell? ⟨w.heap.size+1,5,none⟩=some (.slice Ap flt.parts.length cp):=hc 5 _ rfl
 have b6:W.cell? ⟨w.heap.size+1,6,none⟩=some (.slice Ak flt.kids.length ck):=hc 6 _ rfl
 have b7:W.cell? ⟨w.heap.size+1,7,none⟩=some (.slice An names.length cn):=hc 7 _ rfl
 have b8:W.cell? ⟨w.heap.size+1,8,none⟩=some (.int .i64 limit):=hc 8 _ rfl
 clear hc hc1 hszW
 go_upto_region 4 with (go_at_call 96;refine (kB _ hbW).mono ?_;rintro e w2 ⟨rfl,hb2⟩)
 have hbw2:=hbW.trans (hb2.mono hbW.size)
 replace s0:=cell_later hb2 s0
 replace s1:=cell_later hb2 s1
 replace b0:=cell_later hb2 b0
 replace b1:=cell_later hb2 b1
 replace b2:=cell_later hb2 b2
 replace b3:=cell_later hb2 b3
 replace b4:=cell_later hb2 b4
 replace b5:=cell_later hb2 b5
 replace b6:=cell_later hb2 b6
 replace b7:=cell_later hb2 b7
 replace b8:=cell_later hb2 b8
 have hSt:∀W':World,Below w2.heap.size w2 W'→(W'.cell? ⟨w.heap.size,0,none⟩=some (.slice A1 s.types.length c1)∧W'.cell? ⟨w.heap.size,1,none⟩=some (.slice A2 s.classes.length c2)∧W'.cell? ⟨w.heap.size+1,0,none⟩=some (.string (B base))∧W'.cell? ⟨w.heap.size+1,1,none⟩=some (.int .i64 scope)∧W'.cell? ⟨w.heap.size+1,2,none⟩=some (.int .i64 flt.kind)∧W'.cell? ⟨w.heap.size+1,3,none⟩=some (.string (B flt.name))∧W'.cell? ⟨w.heap.size+1,4,none⟩=some (.string (B flt.value))∧W'.cell? ⟨w.heap.size+1,5,none⟩=some (.slice Ap flt.parts.length cp)∧W'.cell? ⟨w.heap.size+1,6,none⟩=some (.slice Ak flt.kids.length ck)∧W'.cell? ⟨w.heap.size+1,7,none⟩=some (.slice An names.length cn)∧W'.cell? ⟨w.heap.size+1,8,none⟩=some (.int .i64 limit)∧Below w2.heap.size w2 W'):=fun W' h=>⟨cell_later h s0,cell_later h s1,cell_later h b0,cell_later h b1,cell_later h b2,cell_later h b3,cell_later h b4,cell_later h b5,cell_later h b6,cell_later h b7,cell_later h b8,h⟩
 have kS2:=fun W (hW:Below w2.heap.size w2 W)=>kS W (hbw2.trans (hW.mono hbw2.size))
 have kF2:=fun lv W (hW:Below w2.heap.size w2 W) hL=>(kF lv W (hbw2.trans (hW.mono hbw2.size)) hL).mono (R':=fun e w'=>RetQ w r e w'∧Below w2.heap.size w2 w') fun e w' h=>⟨h.up (hbw2.trans (hW.mono hbw2.size)),by obtain ⟨_,_,_,_,_,h4⟩:=h;exact hW.trans (h4.mono hW.size)⟩
 clear kB kS kF hT hE hU hbW hb2
 go_region_held3 (fun W'=>W'.cell? ⟨w.heap.size,0,none⟩=some (.slice A1 s.types.length c1)∧W'.cell? ⟨w.heap.size,1,none⟩=some (.slice A2 s.classes.length c2)∧W'.cell? ⟨w.heap.size+1,0,none⟩=some (.string (B base))∧W'.cell? ⟨w.heap.size+1,1,none⟩=some (.int .i64 scope)∧W'.cell? ⟨w.heap.size+1,2,none⟩=some (.int .i64 flt.kind)∧W'.cell? ⟨w.heap.size+1,3,none⟩=some (.string (B flt.name))∧W'.cell? ⟨w.heap.size+1,4,none⟩=some (.string (B flt.value))∧W'.cell? ⟨w.heap.size+1,5,none⟩=some (.slice Ap flt.parts.length cp)∧W'.cell? ⟨w.heap.size+1,6,none⟩=some (.slice Ak flt.kids.length ck)∧W'.cell? ⟨w.heap.size+1,7,none⟩=some (.slice An names.length cn)∧W'.cell? ⟨w.heap.size+1,8,none⟩=some (.int .i64 limit)∧Below w2.heap.size w2 W')
  (first|(refine hSt _ ?_;repeat (first|with_reducible exact Below.refl _ _|with_reducible apply Below.drew|with_reducible exact hb6|with_reducible refine Below.on ?_ hb5)))
  (first
   |(go_at_call 97;refine (kF2 _ _ (by repeat (first|with_reducible exact Below.refl _ _|with_reducible apply Below.drew|with_reducible refine Below.on ?_ hb5)) (hL5 _ (by repeat (first|with_reducible exact Below.refl _ _|with_reducible apply Below.drew)))).mono ?_;rintro e w6 ⟨⟨v6,qs6,rfl,hrow6,hqs6,hbw6⟩,hb6⟩;obtain ⟨k6,c6,hsh6⟩:=own_shape hrow6.1;subst hsh6)
   |(go_at_call 98;refine (kS2 _ (by repeat (first|with_reducible exact Below.refl _ _|with_reducible apply Below.drew))).mono ?_;rintro e w5 ⟨k5,c5,qs5,rfl,hrow5,hps5,hb5⟩;have hL5:=fun V (hV:Below w5.heap.size w5 V)=>EntsV.mono (EntsV.keep (hrow5.ents hps5) hV) hV.size))
 go_wp2_with fail
 go_ret2
 exact ⟨_,qs6,rfl,hrow6,hqs6,hbw6⟩
end
end Go.Proofs.YtbkkchhimhlhcaaGreatDoor
/- The values of the small case of identitylaw12, reckoned. -/
namespace Go.Proofs.YtbkkchhimhlhcaaGreatDoor
open Go.RowKit Go.Sort
open Idn (L B Bs)
namespace E12
def idx:List Bs:=[E8.cnN]
def es:List IxE:=[(staffN,[]),(annN,annL),(bobN,bobL)]
def fAll:Flt:=.mk 1 [] [] [] []
def fAnn:Flt:=.mk 4 E8.cnN [65,110,110] [] []
def qry (f:Flt) (sc lim:Int):Qry:=⟨staffN,sc,f,[CN],lim⟩
theorem ssm:SSm sch:=by unfold SSm TSm CSm Sm sch;decide
theorem ev_tn:trNew [staffN]=(0,[(staffN,[])]):=by kernel_rfl
theorem ev_es:addsE [(annN,annL),(bobN,bobL)] [(staffN,[])]=es:=by kernel_rfl
theorem ev_nw:nwE sch [E8.cnN]=0:=by kernel_rfl
theorem ev_ok:putsOk es []=true:=by kernel_rfl
theorem ev_idx:[E8.cnN].map Idn.lower=idx:=by kernel_rfl
theorem ev_s1:qScan sch es (qry fAll 3 5)=([(staffN,[]),(annN,[⟨E8.cnN,[[97,110,110]]⟩]),(bobN,bobL)],0):=by kernel_rfl
theorem ev_cd:ixCand sch idx es fAnn=([annN],true):=by kernel_rfl
theorem ev_r2:qRun sch es (qry fAnn 2 1) ([annN],true)=([(annN,[⟨E8.cnN,[[97,110,110]]⟩])],0):=by kernel_rfl
theorem ev_s3:qScan sch es (qry fAll 2 1)=([],3):=by kernel_rfl
theorem ev_x4:(if qFirst es (qry fAnn 3 1)≠0 then 0 else (qExam es (qry fAnn 3 1) ([annN],true)).length:Int)=1:=by kernel_rfl
theorem ev_c5:qChk (qry fAll 2 0)=27:=by kernel_rfl
theorem ev_i6:qIn (qry fAll 2 1) annN=true:=by kernel_rfl
theorem ev_i7:qIn (qry fAll 2 1) staffN=false:=by kernel_rfl
theorem sm (f:Flt) (hf:FSm 1000 f) (sc lim:Int):QSm (qry f sc lim):=⟨by show staffN.length≤_;decide,hf,by show [CN].length≤_;decide,fun n hn=>by
 have e:n=CN:=by simpa[qry]using hn
 rw[e];decide⟩
theorem fsAll:FSm 1000 fAll:=⟨by decide,by unfold fAll;simp[fOk,fOks]⟩
theorem fsAnn:FSm 1000 fAnn:=⟨by decide,by unfold fAnn;simp[fOk,fOks,E8.cnN]⟩
theorem dsm:DSm dat:=by
 refine ⟨by decide,by decide,⟨by decide,by decide⟩,by decide,⟨by decide,by decide⟩,?_,?_⟩
 ·intro c hc;cases hc
 ·intro e he
  have he':e=(annN,annL)∨e=(bobN,bobL):=by simpa[dat]using he
  rcases he' with rfl|rfl
  ·exact ⟨by decide,by unfold RchA annL;decide⟩
  ·exact ⟨by decide,by unfold RchA bobL;decide⟩
end E12
theorem RetQ.head {w w':World} {x:IxE} {l:List IxE} {r:Int} {e:Ending} (h:RetQ w (x :: l,r) e w'):∃g c a ca,e=.returned (.tuple #[.slice (some ⟨g,0,none⟩) (l.length+1) c,.int .i64 r])∧w'.cell? ⟨g,0,none⟩=some (.string (B x.1))∧w'.cell? ⟨g,1,none⟩=some (.slice a x.2.length ca)∧Below w.heap.size w w':=by
 obtain ⟨v,qs,rfl,hrow,hl,hb⟩:=h
 dsimp only at hl
 obtain ⟨k,c,rfl⟩:=hrow.val hl
 cases qs with
 |nil=>cases hl
 |cons q qs=>
  rw[List.map_cons]at hl
  injection hl with h1 h2
  obtain ⟨g,hA,hcell⟩:=own_open hrow.1 (by simp)
  obtain ⟨e0,e1⟩:=rowEn_at (q :: qs) 0 q rfl
  obtain ⟨ps,hp,hps⟩:=hrow.2 q List.mem_cons_self
  obtain ⟨a,ca,hq2⟩:=own_shape hp.1
  have hpl:ps.length=x.2.length:=by rw[←h1,←hps,List.length_map]
  refine ⟨g,c,a,ca,by rw[hA,List.length_cons],?_,?_,hb⟩
  ·have:=hcell _ _ e0
   rw[h1]at this
   exact this
  ·have:=hcell _ _ e1
   rw[hq2,hpl]at this
   exact this
end Go.Proofs.YtbkkchhimhlhcaaGreatDoor
