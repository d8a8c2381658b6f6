/- Part 37 of the proof that identitylaw12.SearchChecks returns true for every data that it may be called with: proof: the package variables hold what the program lays; nothing else is asked. -/
import Derived.Test.YtbkkchhimhlhcaaGreatDoorSrk35
import Derived.Test.YtbkkchhimhlhcaaGreatDoorSrk36
set_option linter.unusedVariables false
set_option linter.unusedSimpArgs false
set_option maxRecDepth 100000
set_option maxHeartbeats 16000000
/- The program's index: present, bound. -/
namespace Go.Proofs.YtbkkchhimhlhcaaGreatDoor
open Go.RowKit Go.Sort
open Idn (L B Bs drop_L take_L size_L)
theorem chk_sm {A:List Idn.Att} (h:Idn.aCheck A=0):Idn.ASm7 A:=by
 obtain ⟨hl32,hv16⟩:=aCheck_zero h
 refine ⟨by omega,fun a ha=>⟨?_,by have:=(hv16 a ha).2;omega,fun x hx=>?_⟩⟩
 ·have:=name_len ((Idn.aCheck_all h).2.2 a ha).1;omega
 ·have:=clean_len (aCheck_clean h a ha x hx);omega
theorem nodup_name {l:List IxE} (h:(l.map (·.1)).Nodup) {a b:IxE} (ha:a∈l) (hb:b∈l) (e:a.1=b.1):a=b:=by
 induction l with
 |nil=>simp at ha
 |cons x l ih=>
  rw[List.map_cons,List.nodup_cons]at h
  rcases List.mem_cons.1 ha with rfl|ha'
  ·rcases List.mem_cons.1 hb with rfl|hb'
   ·rfl
   ·exact absurd (List.mem_map.2 ⟨b,hb',e.symm⟩) h.1
  ·rcases List.mem_cons.1 hb with rfl|hb'
   ·exact absurd (List.mem_map.2 ⟨a,ha',e⟩) h.1
   ·exact ih h.2 ha' hb'
theorem any_one {es:List IxE} (h:(namesE es).Nodup) {n:Bs} {A:List Idn.Att} (hA:(n,A)∈es) (p:List Idn.Att→Bool):(es.any fun e=>e.1==n&&p e.2)=p A:=by
 refine bool_ext ?_
 rw[List.any_eq_true]
 constructor
 ·rintro ⟨e,he,hp⟩
  rw[Bool.and_eq_true,beq_iff_eq]at hp
  have:=nodup_name h he hA hp.1
  rw[this]at hp
  exact hp.2
 ·intro hp
  exact ⟨_,hA,by simp[hp]⟩
theorem any_mem {es:List IxE} {p:List Idn.Att→Bool} {n:Bs}:(es.any fun e=>e.1==n&&p e.2)=true↔n∈(es.filter fun e=>p e.2).map (·.1):=by
 rw[List.any_eq_true,List.mem_map]
 constructor
 ·rintro ⟨e,he,hp⟩
  rw[Bool.and_eq_true,beq_iff_eq]at hp
  exact ⟨e,List.mem_filter.2 ⟨he,hp.2⟩,hp.1⟩
 ·rintro ⟨e,he,rfl⟩
  obtain ⟨h1,h2⟩:=List.mem_filter.1 he
  exact ⟨e,h1,by simp[h2]⟩
section
variable {w:World} {hs lo px:Nat} {s:Idn.Sch} {ns:List Bs} {es:List IxE} {ta cb:Value} {eb vb:Nat} {g:Bs→Value} {ts:List (Bs×Nat)} {G:Bs→Bs→Option Nat}
theorem GdI.sm7 (hG:GdI s ns es) {e:IxE} (he:e∈es):Idn.ASm7 e.2:=chk_sm (hG.chk e he)
theorem present_any (hI : IxV w hs lo px s ns es ta cb eb vb g ts G) (hG : GdI s ns es) (a : ByteArray) (ha : a.size ≤ 1000000000) :
    Calls Tryz.prog 69 #[.pointer (some ⟨px,0,none⟩),.string a] w (RetC w (ixPres (ns.map Idn.lower) es (L a))):=by
 have hof:=ixOf_any hI hG a ha
 have hix:=hI.indexed hG (L a)
 have hr:ixPres (ns.map Idn.lower) es (L a)=if !(ns.map Idn.lower).contains (Idn.lower (L a))then ([],false)else ((es.filter fun e=>decide (0<(rGet e.2 (L a)).length)).map (·.1),true):=rfl
 rw[←hix]at hr
 generalize ixPres (ns.map Idn.lower) es (L a)=r at *
 cases ho:ofB ts (tyN s (L a))with
 |none=>
  rw[ho]at hof hr
  have HR:Hid (r=([],false)):=hr
  clear hr hix
  go_enter Tryz.func69,Tryz.ntmps69
  go_wp2_with fail
  refine hof.mono ?_
  rintro e w1 ⟨rfl,hb1⟩
  go_wp2
  go_ret2
  rw[HR.out]
  exact RetC.nil hb1
 |some bt=>
  rw[ho]at hof hr
  have HR:Hid (r=((es.filter fun e=>decide (0<(rGet e.2 (L a)).length)).map (·.1),true)):=hr
  clear hr hix ho
  obtain ⟨Q,hQ⟩:∃Q:Bs→Bool,∀n,Q n=es.any fun e=>e.1==n&&decide (0<(rGet e.2 (L a)).length):=⟨_,fun _=>rfl⟩
  have hQm:∀m,Q m=true↔m∈(es.filter fun e=>decide (0<(rGet e.2 (L a)).length)).map (·.1):=fun m=>by
   rw[hQ]
   exact any_mem (p:=fun A=>decide (0<(rGet A (L a)).length))
  have hQ1:∀{n A},(n,A)∈es→Q n=decide (0<(rGet A (L a)).length):=fun {n A} h=>by
   rw[hQ]
   exact any_one (names_nodup hG.ok) h fun A=>decide (0<(rGet A (L a)).length)
  have hQn:∀m,Q m=true→m∈namesE es:=fun m h=>by
   obtain ⟨e,he,rfl⟩:=List.mem_map.1 ((hQm m).1 h)
   exact List.mem_map.2 ⟨e,(List.mem_filter.1 he).1,rfl⟩
  have c2:=hI.c2
  have hen0:=hI.ent
  have hbtl:=hen0.lt
  have hatt:=hI.att
  have hmm:=@run_makeMap Tryz.prog
  have hnl:=hG.names_len
  have hS:=fun (W:World) (b:Nat) (hm:MapF W b (setF Q))=>srtNames_any b _ W hm (l:=namesE es) (fun m hm=>hQn m (setF_some.1 hm)) hnl (fun m hm=>hG.ok.valN m (hQn m (setF_some.1 hm))) (fun m hm=>by have:=hG.name_len (hQn m (setF_some.1 hm));omega)
  have hsi:=fun (l:List Bs) (h1:srtN l) (h2:∀n,n∈l↔n∈(es.filter fun e=>decide (0<(rGet e.2 (L a)).length)).map (·.1))=>sorted_is hG.ok _ h1 h2
  have hsm:∀e∈es,Idn.ASm7 e.2:=fun e he=>hG.sm7 he
  have heE:∀x c,entF es g x=some c→∃A,(x,A)∈es∧c=.agg #[sv x,g x]:=fun x c h=>by
   unfold entF at h
   cases hh:hasE es x with
   |false=>rw[hh]at h;cases h
   |true=>
    rw[hh]at h
    obtain ⟨A,hA⟩:=hasE_iff.1 hh
    exact ⟨A,hA,(Option.some.inj h).symm⟩
  have hemp:∀n,(!(entF es g n).isSome&&Q n)=false:=fun n=>by
   cases hq:Q n with
   |false=>simp
   |true=>
    have:=mem_names.1 (hQn n hq)
    unfold entF
    rw[this];rfl
  clear hQ hI hG
  go_enter Tryz.func69,Tryz.ntmps69
  go_wp2_with fail
  refine hof.mono ?_
  rintro e w1 ⟨rfl,hb1⟩
  clear hof
  have hen1:=hen0.keep hb1
  have hba:Below w1.heap.size w1 (w1.alloc (.map #[] 0)):=(Below.refl _ w1).alloc (Nat.le_refl _) _
  have hm0:=MapF.made w1
  have hen2:=hen1.keep hba
  have hsz2:(w1.alloc (.map #[] 0)).heap.size=w1.heap.size+1:=by simp
  have hlt1:eb<w1.heap.size:=hen1.lt
  have c21:=cell_later (hb1.trans (hba.mono hb1.size)) c2
  go_upto_region 5 with fail
  generalize w1.alloc (.map #[] 0)=W at *
  have hW1:w1.heap.size<W.heap.size:=by omega
  clear hsz2
  go_wp2_with (first
   |(at_range;refine wpList_rangeF _ rfl _ 102 rfl Tryz.underlying102 rfl hen2 ?_;intro w0 hr0 hb0 hs0)
   |go_in)
  go_frame
  have hb0':=hba.trans (hb0.mono hba.size)
  go_loopw [25] (fun _ wr=>∃left:Bs→Bool,RangeF wr eb W.heap.size (entF es g) left∧MapF wr w1.heap.size (setF fun n=>!left n&&Q n)∧Below w1.heap.size w1 wr) (fun _ wr=>wr.rangeLeft eb W.heap.size)
  case atStart=>
   refine ⟨_,hr0,?_,hb0'⟩
   rw[setF_none hemp]
   exact hm0.keep hb0
  case round=>
   obtain ⟨left,hr,hm,hb⟩:=hrel
   go_wp2_with (first
    |(at_next;refine wpList_nextF _ rfl _ rfl rfl hr ?_ ?_)
    |go_in)
   ·intro hl0
    have e:(fun n=>!left n&&Q n)=Q:=funext fun n=>by simp[hl0]
    rw[e]at hm
    have hS1:=hS wr _ hm
    go_wp2_with (go_at_call 117;refine hS1.mono ?_;rintro e w3 ⟨v,l,rfl,hsl,hml,hown,hb3⟩)
    have hl:=hsi l hsl fun m=>(hml m).trans (setF_some.trans (hQm m))
    have HF:Hid (r=(l,true)):=by show _=_;rw[HR.out,hl]
    have hbw:=hb1.trans ((hb.trans (hb3.mono hb.size)).mono hb1.size)
    have hws:w.heap.size≤wr.heap.size:=Nat.le_trans hb1.size hb.size
    clear hl HR hQm hQn hQ1 hS hsi heE hemp
    go_ret2
    rw[HF.out]
    exact ⟨v,rfl,own_lower hown hws,hbw⟩
   ·intro x c w2 hxl hlx hfx hr2 hlt2 hm2 hsz2 hen
    obtain ⟨A,hA,rfl⟩:=heE x c hfx
    obtain ⟨ps,hown,hps⟩:=hatt _ hA
    have hq1:=hQ1 hA
    have hA7:=hsm _ hA
    have hb2:Below w1.heap.size w1 w2:=hb.trans (hm2.below (lo:=w1.heap.size) (fun j hj=>by have:j=W.heap.size:=hj;omega) hb.size)
    have hmv:MapF w2 w1.heap.size (setF fun n=>!left n&&Q n):=hm.mv hm2 (by omega)
    have hxn:x∈namesE es:=List.mem_map.2 ⟨_,hA,rfl⟩
    have hatv:AttsV w w.heap.size (g x) A:=hown.atts hps
    obtain ⟨Ag,cg,hgx,_⟩:=SlV.shape hatv
    rw[hgx]at hatv hfx
    simp only[hgx,sv]at *
    clear hgx hown hsz2
    go_upto_region 8 with fail
    with_reducible refine gen1 (R:=fun W=>Code.wp Tryz.prog _ _ _ W) ?_
    intro W3 hbW3 hsz3 hc3 _
    have k1:W3.cell? ⟨w2.heap.size,1,none⟩=some (.slice Ag A.length cg):=hc3 1 _ rfl
    have hbw3:=hb1.trans ((hb2.trans (hbW3.mono hb2.size)).mono hb1.size)
    have hGt:=getG_any _ A a W3 (AttsV.mono (AttsV.keep hatv hbw3) hbw3.size) hA7 ha
    clear hc3 hsz3
    go_wp2_with fail
    refine hGt.mono ?_
    rintro e w4 ⟨A4,c4,rfl,hown4,hb4⟩
    clear hGt
    have hb24:=hbW3.trans (hb4.mono hbW3.size)
    have hmv4:=hmv.keep hb24
    have hr4:=hr2.keepB hb24
    have hlt4:w4.rangeLeft eb W.heap.size<wr.rangeLeft eb W.heap.size:=by rw[hr2.leftB hb24];exact hlt2
    have hb14:=hb2.trans (hb24.mono hb2.size)
    by_cases hpos:0<(((rGet A (L a)).length:Nat):Int)
    ·have hq2:Q x=true:=by rw[hq1];exact decide_eq_true (by omega)
     have hkl:∀y,setF (fun n=>!left n&&Q n) y≠none→y∈namesE es:=fun y hy=>by
      have h1:=setF_some.1 hy
      rw[Bool.and_eq_true]at h1
      exact hQn y h1.2
     have hx9:=hxl
     clear hown4
     go_wp2_with (at_mapUpdate;refine wpList_putF _ rfl _ _ _ 121 rfl Tryz.underlying121 rfl hmv4 (l:=namesE es) hkl hnl x rfl hxl (.bool true) rfl ?_;intro w5 hm5 hv5;go_frame)
     rw[setF_put]at hm5
     go_roundw
     case rel=>
      refine ⟨_,hr4.mv hv5 (by omega) (by omega),?_,hb14.trans (hv5.below (lo:=w1.heap.size) (fun j hj=>Nat.le_of_eq (Eq.symm hj)) hb14.size)⟩
      have e:(fun n=>!(left n&&!decide (n=x))&&Q n)=fun n=>if n=x then true else !left n&&Q n:=funext fun n=>by
       by_cases h:n=x
       ·subst h;simp[hq2]
       ·simp[h]
      rw[e]
      exact hm5
     case measure=>rw[hr4.left_mv hv5 (by omega) (by omega)];exact hlt4
    ·have hq2:Q x=false:=by rw[hq1];exact decide_eq_false (by omega)
     go_wp2
     go_roundw
     case rel=>
      refine ⟨_,hr4,?_,hb14⟩
      have e:(fun n=>!(left n&&!decide (n=x))&&Q n)=fun n=>!left n&&Q n:=funext fun n=>by
       by_cases h:n=x
       ·subst h;simp[hq2]
       ·simp[h]
      rw[e]
      exact hmv4
     case measure=>exact hlt4
theorem bound_unf (s:Idn.Sch) (idx:List Bs) (es:List IxE) (k:Int) (a x:Bs):ixBound s idx es k a x=if !idx.contains (Idn.lower a)then ([],false)else if x.isEmpty then ([],true)else if k=5 then ixRange s idx es a x []else ixRange s idx es a [] x:=rfl
theorem bound_any (hI : IxV w hs lo px s ns es ta cb eb vb g ts G) (hG : GdI s ns es) (hE : ∀ W, Below w.heap.size w W → Env W ∧ EnvU W) (d : Nat) (v : Value) (f : Flt) (hv : FltV w w.heap.size d v f) (hsm : FSm 1000 f) :
    Calls Tryz.prog 68 #[.pointer (some ⟨px,0,none⟩),v] w (RetC w (ixBound s (ns.map Idn.lower) es f.kind f.name f.value)):=by
 obtain ⟨o1,o2,_,_⟩:=fOk_own hsm.2
 obtain ⟨Ap,cp,Ak,ck,rfl,hp,hk⟩:=hv.shape
 have hof:=fun W (hW:Below w.heap.size w W)=>ixOf_any (hI.keep hW) hG (B f.name) (by rw[Idn.size_B];omega)
 have hix:=hI.indexed hG f.name
 have hr:=bound_unf s (ns.map Idn.lower) es f.kind f.name f.value
 have hR:=fun W (hW:Below w.heap.size w W) low hi h1 h2=>ixRange_any (hI.keep hW) hG (fun V hV=>hE V (hW.trans (hV.mono hW.size))) (B f.name) low hi (by rw[Idn.size_B];omega) h1 h2
 rw[←hix]at hr
 simp only[Idn.L_B]at hof hR
 have hRl:=fun W (hW:Below w.heap.size w W)=>hR W hW (B f.value) ⟨#[]⟩ (by rw[Idn.size_B];omega) (by decide)
 have hRh:=fun W (hW:Below w.heap.size w W)=>hR W hW ⟨#[]⟩ (B f.value) (by decide) (by rw[Idn.size_B];omega)
 simp only[Idn.L_B]at hRl hRh
 rw[show L ⟨#[]⟩=[] from rfl]at hRl hRh
 generalize ixBound s (ns.map Idn.lower) es f.kind f.name f.value=r at *
 generalize ixRange s (ns.map Idn.lower) es f.name f.value []=rl at *
 generalize ixRange s (ns.map Idn.lower) es f.name [] f.value=rh at *
 generalize ofB ts (tyN s f.name)=o at *
 generalize f.kind=kd at *
 clear hp hk hv hE hI hR hix o1
 have HR:=Lib.hid hr
 clear hr
 have hcase:(o.isSome=false∧Hid (r=([],false)))∨(o.isSome=true∧f.value=[]∧Hid (r=([],true)))∨(o.isSome=true∧f.value≠[]∧kd=5∧Hid (r=rl))∨(o.isSome=true∧f.value≠[]∧kd≠5∧Hid (r=rh)):=by
  cases ho:o.isSome with
  |false=>exact .inl ⟨rfl,by show _=_;rw[HR.out,ho];rfl⟩
  |true=>
   cases hfv:f.value with
   |nil=>exact .inr (.inl ⟨rfl,rfl,by show _=_;rw[HR.out,ho,hfv];rfl⟩)
   |cons c cs=>
    by_cases h5:kd=5
    ·exact .inr (.inr (.inl ⟨rfl,by simp,h5,by show _=_;rw[HR.out,ho,hfv,if_pos h5];rfl⟩))
    ·exact .inr (.inr (.inr ⟨rfl,by simp,h5,by show _=_;rw[HR.out,ho,hfv,if_neg h5];rfl⟩))
 clear HR
 go_enter Tryz.func68,Tryz.ntmps68
 go_upto_region 1 with fail
 with_reducible refine gen1 (R:=fun W=>Code.wp Tryz.prog _ _ _ W) ?_
 intro W hbW hszW hc _
 have b0:W.cell? ⟨w.heap.size,0,none⟩=some (.int .i64 kd):=hc 0 _ rfl
 have b1:W.cell? ⟨w.heap.size,1,none⟩=some (.string (B f.name)):=hc 1 _ rfl
 have b2:W.cell? ⟨w.heap.size,2,none⟩=some (.string (B f.value)):=hc 2 _ rfl
 clear hc hszW
 go_wp2_with fail
 refine (hof W hbW).mono ?_
 rintro e w1 ⟨rfl,hb1⟩
 replace b0:=cell_later hb1 b0
 replace b1:=cell_later hb1 b1
 replace b2:=cell_later hb1 b2
 have hb:=hbW.trans (hb1.mono hbW.size)
 clear hof hb1 hbW
 replace hRl:=hRl w1 hb
 replace hRh:=hRh w1 hb
 rcases hcase with ⟨hos,HF⟩|⟨hos,hfv,HF⟩|⟨hos,hfv,h5,HF⟩|⟨hos,hfv,h5,HF⟩
 ·rw[hos]
  clear hos
  go_wp2
  go_ret2
  rw[HF.out]
  exact RetC.nil hb
 ·rw[hos]
  clear hos
  have hbe:(B f.value).toList.isEmpty=true:=by rw[toList_L,Idn.L_B,hfv];rfl
  clear hRl hRh hfv
  go_wp2
  go_ret2
  rw[HF.out]
  exact RetC.nil hb
 ·rw[hos]
  clear hos
  have hbe:(B f.value).toList.isEmpty=false:=by rw[toList_L,Idn.L_B];cases h:f.value<;>simp_all
  subst h5
  go_wp2_with fail
  refine hRl.mono ?_
  rintro e w2 ⟨u,rfl,hown,hb2⟩
  go_wp2
  go_ret2
  rw[HF.out]
  exact ⟨u,rfl,own_lower hown hb.size,hb.trans (hb2.mono hb.size)⟩
 ·rw[hos]
  clear hos
  have hbe:(B f.value).toList.isEmpty=false:=by rw[toList_L,Idn.L_B];cases h:f.value<;>simp_all
  have h5':(kd==5)=false:=by simpa using h5
  go_wp2_with fail
  refine hRh.mono ?_
  rintro e w2 ⟨u,rfl,hown,hb2⟩
  go_wp2
  go_ret2
  rw[HF.out]
  exact ⟨u,rfl,own_lower hown hb.size,hb.trans (hb2.mono hb.size)⟩
end
end Go.Proofs.YtbkkchhimhlhcaaGreatDoor
/- The program's index: each. -/
namespace Go.Proofs.YtbkkchhimhlhcaaGreatDoor
open Go.RowKit Go.Sort
open Idn (L B Bs drop_L take_L size_L)
theorem AttsV.keepC {w w':World} {hi:Nat} {v:Value} {l:List Idn.Att} (h:AttsV w hi v l) (hc:∀b off u,b<hi→w.cell? ⟨b,off,none⟩=some u→w'.cell? ⟨b,off,none⟩=some u):AttsV w' hi v l:=
 SlV.imp (SlV.keepC h hc) fun _ _ ⟨u,e,p⟩=>⟨u,e,SlV.keepC p hc⟩
def mixM (s:Idn.Sch) (A:List Idn.Att) (n:Bs) (op:Bool) (M:Bs→Bs→Bs→Bool) (left:Bs→Bool):Bs→Bs→Bs→Bool:=
 fun t v m=>if left t=false∧m=n∧(nV s t A).contains v=true then op else M t v m
def midM (M:Bs→Bs→Bs→Bool) (t n:Bs) (op:Bool) (vs:List Bs):Bs→Bs→Bs→Bool:=
 fun t' v m=>if t'=t∧m=n∧vs.contains v=true then op else M t' v m
theorem midM_nil (M:Bs→Bs→Bs→Bool) (t n:Bs) (op:Bool):midM M t n op []=M:=by
 funext t' v m
 unfold midM
 simp
theorem midM_snoc (M:Bs→Bs→Bs→Bool) (t n:Bs) (op:Bool) (vs:List Bs) (x:Bs):midM M t n op (vs++[x])=updM (midM M t n op vs) t x n op:=by
 funext t' v m
 unfold midM updM
 by_cases h1:t'=t
 ·by_cases h2:m=n
  ·by_cases h3:v=x
   ·simp[h1,h2,h3]
   ·simp[h1,h2,h3]
  ·simp[h2]
 ·simp[h1]
theorem midM_mix (s:Idn.Sch) (A:List Idn.Att) (n:Bs) (op:Bool) (M:Bs→Bs→Bs→Bool) (left:Bs→Bool) (t:Bs):midM (mixM s A n op M left) t n op (nV s t A)=mixM s A n op M fun y=>left y&&!decide (y=t):=by
 funext t' v m
 unfold midM mixM
 by_cases h1:t'=t
 ·subst h1
  by_cases h2:m=n
  ·by_cases h3:(nV s t' A).contains v=true
   ·rw[if_pos ⟨rfl,h2,h3⟩,if_pos ⟨by simp,h2,h3⟩]
   ·rw[if_neg fun h=>h3 h.2.2,if_neg fun h=>h3 h.2.2,if_neg fun h=>h3 h.2.2]
  ·rw[if_neg fun h=>h2 h.2.1,if_neg fun h=>h2 h.2.1,if_neg fun h=>h2 h.2.1]
 ·rw[if_neg fun h=>h1 h.1]
  have e:(fun y=>left y&&!decide (y=t)) t'=left t':=by simp[h1]
  rw[e]
def MIn (ts:List (Bs×Nat)) (lv:Bs→List Bs) (ln:List Bs) (M:Bs→Bs→Bs→Bool):Prop:=∀t∈ts,∀v m,M t.1 v m=true→v∈lv t.1∧m∈ln
theorem MIn.mix {ts:List (Bs×Nat)} {lv:Bs→List Bs} {ln:List Bs} {M:Bs→Bs→Bs→Bool} (h:MIn ts lv ln M) {s:Idn.Sch} {A:List Idn.Att} (hA:∀t∈ts,∀v∈nV s t.1 A,v∈lv t.1) {n:Bs} (hn:n∈ln) (op:Bool) (left:Bs→Bool):MIn ts lv ln (mixM s A n op M left):=by
 intro t ht v m hm
 unfold mixM at hm
 split at hm
 ·rename_i hc
  obtain ⟨_,rfl,h3⟩:=hc
  exact ⟨hA t ht v (List.contains_iff_mem.1 h3),hn⟩
 ·exact h t ht v m hm
theorem MIn.mid {ts:List (Bs×Nat)} {lv:Bs→List Bs} {ln:List Bs} {M:Bs→Bs→Bs→Bool} (h:MIn ts lv ln M) {t n:Bs} {vs:List Bs} (hv:∀v∈vs,v∈lv t) (hn:n∈ln) (op:Bool):MIn ts lv ln (midM M t n op vs):=by
 intro u hu v m hm
 unfold midM at hm
 split at hm
 ·rename_i hc
  obtain ⟨h1,rfl,h3⟩:=hc
  rw[h1]
  exact ⟨hv v (List.contains_iff_mem.1 h3),hn⟩
 ·exact h u hu v m hm
def nVk (s:Idn.Sch) (t:Bs) (l:List Bs):List Bs:=l.filterMap fun v=>if (sNorm s t v).2=0 then some (sNorm s t v).1 else none
theorem nVk_step {s:Idn.Sch} {t:Bs} {l:List Bs} {k:Nat} (h:k<l.length):nVk s t (l.take (k+1))=nVk s t (l.take k)++(if (sNorm s t l[k]).2=0 then [(sNorm s t l[k]).1]else []):=by
 rw[List.take_succ_eq_append_getElem h]
 unfold nVk
 rw[List.filterMap_append]
 by_cases h0:(sNorm s t l[k]).2=0
 ·simp[h0]
 ·simp[h0]
theorem nVk_sub {s:Idn.Sch} {t:Bs} {l:List Bs} (k:Nat):∀v∈nVk s t (l.take k),v∈nVk s t l:=fun v hv=>by
 unfold nVk at *
 obtain ⟨x,hx,e⟩:=List.mem_filterMap.1 hv
 exact List.mem_filterMap.2 ⟨x,List.mem_of_mem_take hx,e⟩
section
variable {w:World} {vb:Nat} {ts:List (Bs×Nat)} {G:Bs→Bs→Option Nat} {M:Bs→Bs→Bs→Bool}
theorem VlV.notIter (h:VlV w vb ts G M) {r:Nat} (hr:∃m s sn c,w.heap[r]?=some (.mapIter m s sn c)):r≠vb∧¬VlS ts G r:=by
 obtain ⟨m,s,sn,c,e⟩:=hr
 refine ⟨fun h1=>?_,fun h1=>?_⟩
 ·obtain ⟨es,c',e'⟩:=h.top.isMap
  rw[←h1,e]at e'
  cases e'
 ·obtain ⟨es,c',e'⟩:=h.allMap r h1
  rw[e]at e'
  cases e'
theorem each_any (fid : Nat) (lb : Array Value) (eg : FnB fid) (px : Nat) (s : Idn.Sch) (ta cb : Value) (n : Bs) (gv : Value) (A : List Idn.Att) (op : Bool) (lv : Bs → List Bs) (ln : List Bs)
    (c0:w.cell? ⟨px,0,none⟩=some ta) (c1:w.cell? ⟨px,1,none⟩=some cb) (c3:w.cell? ⟨px,3,none⟩=some (.map (some vb))) (hsch:SchV w w.heap.size (.agg #[ta,cb]) s) (hsm:SSm s)
    (hV:VlV w vb ts G M) (htl:∀t∈ts,t.1.length≤1000000000) (hgv:AttsV w w.heap.size gv A) (hA7:Idn.ASm7 A) (hAx:∀a,(rGet A a).length≤1000000000∧∀x∈rGet A a,x.length≤100000000)
    (hE:∀W,Mv (VlS ts G) w W→Env W∧EnvU W) (hM0:MIn ts lv ln M) (hAl:∀t∈ts,∀v∈nV s t.1 A,v∈lv t.1) (hnl:n∈ln)
    (hdo:∀(W:World) G' M' t v,Mv (VlS ts G) w W→t∈ts→VlV W vb ts G' M'→v.length≤256→MIn ts lv ln M'→Calls Tryz.prog fid (#[.map (some t.2),.string (B v)]++lb) W fun e w'=>e=.returned (.tuple #[])∧∃G'',VlV w' vb ts G'' (updM M' t.1 v n op)∧Mv (VlS ts G') W w'∧∀k,VlS ts G'' k→VlS ts G' k∨W.heap.size≤k) :
    Calls Tryz.prog 62 #[.pointer (some ⟨px,0,none⟩),.agg #[.string (B n),gv],.func (.func fid) #[] lb] w fun e w'=>e=.returned (.tuple #[])∧∃G',VlV w' vb ts G' (mixM s A n op M fun _=>false)∧Mv (VlS ts G) w w'∧∀k,VlS ts G' k→VlS ts G k∨w.heap.size≤k:=by
 unfold FnB at eg
 obtain ⟨Ag,cg,rfl,_⟩:=SlV.shape hgv
 obtain ⟨sa,sb,e,hT,hC⟩:=hsch
 obtain ⟨A1,cc1,rfl,_⟩:=SlV.shape hT
 obtain ⟨A2,cc2,rfl,_⟩:=SlV.shape hC
 have e1:ta=.slice A1 s.types.length cc1:=by injection e with e;simp at e;exact e.1
 have e2:cb=.slice A2 s.classes.length cc2:=by injection e with e;simp at e;exact e.2
 subst e1 e2
 have hsch:SchV w w.heap.size (.agg #[.slice A1 s.types.length cc1,.slice A2 s.classes.length cc2]) s:=⟨_,_,rfl,hT,hC⟩
 clear hT hC e
 have hall:=hV.allMap
 go_enter Tryz.func62,Tryz.ntmps62
 go_upto_region 1 with fail
 with_reducible refine gen1 (R:=fun W=>Code.wp Tryz.prog _ _ _ W) ?_
 intro W0 hbW hszW hc _
 have b1:W0.cell? ⟨w.heap.size,1,none⟩=some (.slice Ag A.length cg):=hc 1 _ rfl
 have hV0:=hV.keep hbW
 have hM00:Mv (VlS ts G) w W0:=Mv.of_below hbW _
 have p0:=cell_later hbW c0
 have p1:=cell_later hbW c1
 have p3:=cell_later hbW c3
 have htop:=hV0.top
 have hvlt:=htop.lt
 clear hc hszW
 go_wp2_with (first
  |(at_range;refine wpList_rangeF _ rfl _ 103 rfl Tryz.underlying103 rfl htop ?_;intro w0 hr0 hb0 hs0)
  |go_in)
 go_frame
 go_loopw [17] (fun _ wr=>∃(left:Bs→Bool) (G':Bs→Bs→Option Nat),RangeF wr vb W0.heap.size (tsF ts) left∧VlV wr vb ts G' (mixM s A n op M left)∧Mv (VlS ts G) W0 wr∧∀k,VlS ts G' k→VlS ts G k∨W0.heap.size≤k) (fun _ wr=>wr.rangeLeft vb W0.heap.size)
 case atStart=>
  refine ⟨_,G,hr0,(hV0.keep hb0).congr fun t ht v m=>?_,Mv.of_below hb0 _,fun k hk=>.inl hk⟩
  unfold mixM
  rw[if_neg]
  rintro ⟨h1,_⟩
  dsimp only at h1
  rw[tsF_mem hV.nam ht]at h1
  cases h1
 case round=>
  obtain ⟨left,G',hr,hVr,hmr,hnew⟩:=hrel
  go_wp2_with (first
   |(at_next;refine wpList_nextF _ rfl _ rfl rfl hr ?_ ?_)
   |go_in)
  ·intro hl0
   have e:left=fun _=>false:=funext hl0
   rw[e]at hVr
   go_wp2
   go_end0
   refine ⟨rfl,G',hVr,hM00.trans hmr fun j hj=>.inl hj,fun k hk=>(hnew k hk).imp id fun h=>Nat.le_trans hbW.size h⟩
  ·intro x c w2 hxl hlx hfx hr2 hlt2 hm2 hsz2 hen
   obtain ⟨t,ht,rfl,rfl⟩:=tsF_some hfx
   obtain ⟨hnv,hnS⟩:=hVr.notIter hr.iter
   have hV2:=hVr.mv hm2 (fun h=>hnv h.symm) fun k hk=>by have e:k=W0.heap.size:=hk;rw[e];exact hnS
   have hmr2:Mv (VlS ts G) W0 w2:=hmr.trans hm2 fun j hj=>.inr (Nat.le_of_eq (Eq.symm hj))
   have hMw2:Mv (VlS ts G) w w2:=hM00.trans hmr2 fun j hj=>.inl hj
   have hall0:AllMap W0 (VlS ts G):=hV0.allMap
   replace b1:=hmr2.cell hall0 b1
   replace p0:=hmr2.cell hall0 p0
   replace p1:=hmr2.cell hall0 p1
   have hgv2:AttsV w2 w2.heap.size (.slice Ag A.length cg) A:=AttsV.mono (AttsV.keepC hgv fun b off u _ hc=>hMw2.cell hall hc) hMw2.size
   have hGt:=getG_any _ A (B t.1) w2 hgv2 hA7 (by rw[Idn.size_B];have:=htl t ht;omega)
   rw[Idn.L_B]at hGt
   obtain ⟨hgl,hgx⟩:=hAx t.1
   have htl1:=htl t ht
   have hns:nVk s t.1 (rGet A t.1)=nV s t.1 A:=rfl
   have hAl1:=hAl t ht
   rw[←hns]at hAl1
   have hmx:=midM_mix s A n op M left t.1
   rw[←hns]at hmx
   have hMi:=hM0.mix hAl hnl op left
   generalize rGet A t.1=vals at *
   clear hsz2 hns
   go_wp2_with fail
   refine hGt.mono ?_
   rintro e w3 ⟨A3,c3',rfl,hown3,hb3⟩
   clear hGt
   have hV3:=hV2.keep hb3
   have hMw3:=hMw2.then_below hb3
   have hr3:=hr2.keepB hb3
   have hlt3:w3.rangeLeft vb W0.heap.size<wr.rangeLeft vb W0.heap.size:=by rw[hr2.leftB hb3];exact hlt2
   have hmr3:=hmr2.then_below hb3
   replace p0:=cell_later hb3 p0
   replace p1:=cell_later hb3 p1
   have hS3:StrsV w3 w3.heap.size (.slice A3 vals.length vals.length) vals:=CutS.read (base:=w2.heap.size) ⟨A3,c3',_,rfl,Nat.le_refl _,hown3⟩
   have hall3:=hV3.allMap
   obtain ⟨hnv3,hnS3⟩:=hV3.notIter hr3.iter
   have hsch3:SchV w3 w3.heap.size (.agg #[.slice A1 s.types.length cc1,.slice A2 s.classes.length cc2]) s:=SchV.mono (SchV.keepC hsch fun b off u _ hc=>hMw3.cell hall hc) hMw3.size
   clear hown3 hen hfx
   go_wp2_with fail
   go_loopw [27] (fun i wi=>∃(k:Nat) (G3:Bs→Bs→Option Nat),k≤vals.length∧i=.int .i64 k∧VlV wi vb ts G3 (midM (mixM s A n op M left) t.1 n op (nVk s t.1 (vals.take k)))∧Mv (VlS ts G') w3 wi∧∀k,VlS ts G3 k→VlS ts G' k∨w3.heap.size≤k) (fun i _=>vals.length-(intOf i).toNat)
   case atStart=>
    refine ⟨0,G',Nat.zero_le _,rfl,?_,Mv.refl _ _,fun k hk=>.inl hk⟩
    rw[show nVk s t.1 (vals.take 0)=[] from rfl,midM_nil]
    exact hV3
   case round=>
    obtain ⟨k,G3,hk9,rfl,hVi,hmi,hni⟩:=hrel
    by_cases hlt:k<vals.length
    ·obtain ⟨b,off,rfl,hbl,q0⟩:=StrsV.cell (SlV.keepC hS3 fun b off u _ hc=>hmi.cell hall3 hc) hlt
     have hltI:(k:Int)<(vals.length:Int):=by omega
     have hMwi:Mv (VlS ts G) w wr:=hMw3.trans hmi fun j hj=>(hnew j hj).imp id fun h=>Nat.le_trans hbW.size h
     have hN:=schNormal_any _ s (B t.1) (B vals[k]) wr (SchV.mono (SchV.keepC hsch3 fun b off u _ hc=>hmi.cell hall3 hc) hmi.size) hsm (hE wr hMwi).1 (hE wr hMwi).2 (by rw[Idn.size_B];omega) (by rw[Idn.size_B];exact hgx _ (List.getElem_mem hlt))
     have hstep:=nVk_step (s:=s) (t:=t.1) hlt
     have hcl:=sNorm_clean (s:=s) (t:=t.1) (x:=vals[k])
     have r0:=hmi.cell hall3 p0
     have r1:=hmi.cell hall3 p1
     have hMk:=hMi.mid (t:=t.1) (n:=n) (vs:=nVk s t.1 (vals.take k)) (fun v hv=>hAl1 v (nVk_sub k v hv)) hnl op
     simp only[Idn.L_B]at hN
     generalize sNorm s t.1 vals[k]=nn at *
     obtain ⟨nv,ne⟩:=nn
     dsimp only at hN hstep hcl
     go_wp2_with fail
     refine hN.mono ?_
     rintro e w5 ⟨rfl,hb5⟩
     clear hN
     by_cases h0:ne=0
     ·subst h0
      have hV5:=hVi.keep hb5
      have hD:=hdo w5 G3 _ t nv (hMwi.then_below hb5) ht hV5 (clean_len (hcl rfl)) hMk
      go_wp2_with (refine hD.mono ?_;rintro e w6 ⟨rfl,G4,hV6,hm6,hn6⟩)
      go_roundw
      case rel=>
       refine ⟨k+1,G4,by omega,by go_num,?_,(hmi.then_below hb5).trans hm6 fun j hj=>hni j hj,fun j hj=>?_⟩
       ·rw[hstep]
        simp only[if_true,midM_snoc]
        exact hV6
       ·rcases hn6 j hj with h|h
        ·exact hni j h
        ·exact .inr (Nat.le_trans (Nat.le_trans hmi.size hb5.size) h)
      case measure=>simp[intOf];omega
     ·have hI:(ne==0)=false:=by simpa using h0
      rw[if_neg h0,List.append_nil]at hstep
      clear h0 hcl
      go_wp2_with fail
      go_roundw
      case rel=>
       refine ⟨k+1,G3,by omega,by go_num,?_,hmi.then_below hb5,hni⟩
       rw[hstep]
       exact hVi.keep hb5
      case measure=>simp[intOf];omega
    ·have hltI:¬(k:Int)<(vals.length:Int):=by omega
     rw[List.take_of_length_le (by omega),hmx]at hVi
     go_wp2_with fail
     go_roundw
     case rel=>
      refine ⟨_,G3,hr3.mv hmi (fun h=>hV3.not_vb h) hnS3,hVi,hmr3.trans hmi hnew,fun j hj=>?_⟩
      rcases hni j hj with h|h
      ·exact hnew j h
      ·exact .inr (Nat.le_trans hmr3.size h)
     case measure=>rw[hr3.left_mv hmi (fun h=>hV3.not_vb h) hnS3];exact hlt3
end
end Go.Proofs.YtbkkchhimhlhcaaGreatDoor
/- The program's index: Drop. -/
namespace Go.Proofs.YtbkkchhimhlhcaaGreatDoor
open Go.RowKit Go.Sort
open Idn (L B Bs drop_L take_L size_L)
theorem fn_put1:FnB 63:=by intro a w;kernel_rfl
theorem fn_drop1:FnB 130:=by intro a w;kernel_rfl
theorem rGet_small {A:List Idn.Att} (hA:Idn.aCheck A=0) (hs:Idn.rSorted A=A) (n:Bs):(rGet A n).length≤16∧∀x∈rGet A n,x.length≤256:=by
 unfold rGet
 rw[hs]
 split
 ·simp
 ·split
  ·simp
  ·rename_i a ha
   have hm:=List.mem_of_getElem? ha
   exact ⟨((aCheck_zero hA).2 a hm).2,fun x hx=>clean_len (aCheck_clean hA a hm x hx)⟩
theorem nV_small {s:Idn.Sch} {A:List Idn.Att} (hA:Idn.aCheck A=0) (hs:Idn.rSorted A=A) (n:Bs):(nV s n A).length≤16:=
 Nat.le_trans (List.length_filterMap_le _ _) (rGet_small hA hs n).1
theorem flatMap_le {α β:Type} (f:α→List β) (c:Nat):∀l:List α,(∀x∈l,(f x).length≤c)→(l.flatMap f).length≤l.length*c
 |[],_=>by simp
 |a :: l,h=>by
  rw[List.flatMap_cons,List.length_append,List.length_cons]
  have h1:=h a List.mem_cons_self
  have h2:=flatMap_le f c l fun x hx=>h x (List.mem_cons_of_mem _ hx)
  rw[Nat.add_mul];omega
def lvE (s:Idn.Sch) (es:List IxE) (t:Bs):List Bs:=es.flatMap fun e=>nV s t e.2
section
variable {w w':World} {hs lo px:Nat} {s:Idn.Sch} {ns:List Bs} {es es':List IxE} {ta cb:Value} {eb vb:Nat} {g g':Bs→Value} {ts:List (Bs×Nat)} {G G':Bs→Bs→Option Nat}
theorem GdI.lv_len (hG:GdI s ns es) (t:Bs):(lvE s es t).length≤4096:=by
 have:=flatMap_le (fun e:IxE=>nV s t e.2) 16 es fun e he=>nV_small (hG.chk e he) (hG.srt e he) t
 have:=hG.len
 unfold lvE
 omega
theorem GdI.mIn (s:Idn.Sch) (es:List IxE) (ts:List (Bs×Nat)):MIn ts (lvE s es) (namesE es) (atB s es):=by
 intro t _ v m h
 obtain ⟨A,h1,h2⟩:=atB_iff.1 h
 exact ⟨List.mem_flatMap.2 ⟨_,h1,h2⟩,List.mem_map.2 ⟨_,h1,rfl⟩⟩
theorem GdI.get (hG:GdI s ns es) {n:Bs} {A:List Idn.Att} (h:(n,A)∈es) (a:Bs):(rGet A a).length≤1000000000∧∀x∈rGet A a,x.length≤100000000:=by
 obtain ⟨h1,h2⟩:=rGet_small (hG.chk _ h) (hG.srt _ h) a
 exact ⟨Nat.le_trans h1 (by decide),fun x hx=>Nat.le_trans (h2 x hx) (by decide)⟩
theorem IxV.tl (hI:IxV w hs lo px s ns es ta cb eb vb g ts G) (hG:GdI s ns es):∀t∈ts,t.1.length≤1000000000:=fun t ht=>by
 have h:t.1∈ts.map (·.1):=List.mem_map.2 ⟨t,ht,rfl⟩
 rw[hI.tsn]at h
 obtain ⟨n,_,e⟩:=List.mem_map.1 h
 rw[←e]
 exact tyName_len hG.sm n
theorem IxV.turned (h : IxV w hs lo px s ns es ta cb eb vb g ts G) (hm : Mv (IxS eb ts G) w w') (hent : MapF w' eb (entF es' g')) (hatt : ∀ e ∈ es', ∃ ps, AttOwn w' lo (g' e.1) ps ∧ ps.map (·.1) = e.2)
  (hvl:VlV w' vb ts G' (atB s es')) (hn:∀k,VlS ts G' k→VlS ts G k∨w.heap.size≤k):IxV w' hs lo px s ns es' ta cb eb vb g' ts G' where
 c0:=hm.cell h.allMap h.c0
 c1:=hm.cell h.allMap h.c1
 c2:=hm.cell h.allMap h.c2
 c3:=hm.cell h.allMap h.c3
 sch:=h.sch.keepC fun b off u _ hc=>hm.cell h.allMap hc
 ent:=hent
 att:=hatt
 vl:=hvl
 tsn:=h.tsn
 ebv:=h.ebv
 ebs:=fun hk=>by
  rcases hn eb hk with h1|h1
  ·exact h.ebs h1
  ·have:=h.ent.lt;omega
 hsz:=Nat.le_trans h.hsz hm.size
 hsp:=h.hsp
 hse:=h.hse
 hsv:=h.hsv
 hss:=fun k hk=>by
  rcases hn k hk with h1|h1
  ·exact h.hss k h1
  ·exact Nat.le_trans h.hsz h1
 loz:=Nat.le_trans h.loz hm.size
theorem IxV.lowS (h:IxV w hs lo px s ns es ta cb eb vb g ts G):∀k,IxS eb ts G k→hs≤k:=by
 rintro k (rfl|hk)
 ·exact h.hse
 ·exact h.hss k hk
theorem IxV.entry (h:IxV w hs lo px s ns es ta cb eb vb g ts G) {n:Bs} {A:List Idn.Att} (hA:(n,A)∈es):AttsV w w.heap.size (g n) A:=by
 obtain ⟨ps,h1,h2⟩:=h.att _ hA
 exact h1.atts h2
theorem ixDrop_any (hI : IxV w hs lo px s ns es ta cb eb vb g ts G) (hG : GdI s ns es) (hE : ∀ W, Below hs w W → Env W ∧ EnvU W) (n : Bs) (hn : n.length ≤ 1000000) :
    Calls Tryz.prog 60 #[.pointer (some ⟨px,0,none⟩),.string (B n)] w fun e w'=>e=.returned (.tuple #[])∧∃G',IxV w' hs lo px s ns (ixDrop es n) ta cb eb vb g ts G'∧Mv (IxS eb ts G) w w'∧∀k,IxS eb ts G' k→IxS eb ts G k∨w.heap.size≤k:=by
 have c2:=hI.c2
 have hnm:n.length≤maxLen:=by unfold maxLen;omega
 cases hh:hasE es n with
 |false=>
  rw[drop_none hh]
  have hef:entF es g n=none:=by unfold entF;rw[hh];rfl
  go_enter Tryz.func60,Tryz.ntmps60
  go_upto_region 1 with fail
  with_reducible refine gen1 (R:=fun W=>Code.wp Tryz.prog _ _ _ W) ?_
  intro W hb hszW hc _
  have q0:W.cell? ⟨w.heap.size,0,none⟩=some (.string (B n)):=hc 0 _ rfl
  replace c2:=cell_later hb c2
  clear hc hszW
  go_upto_region 2 with (go_at_call 57;refine (ready_any px eb W c2).mono ?_;rintro e w0 ⟨rfl,rfl⟩)
  have k0:W.drew.cell? ⟨w.heap.size,0,none⟩=some (.string (B n)):=q0
  have k2:W.drew.cell? ⟨px,2,none⟩=some (.map (some eb)):=c2
  have hmS:∀W',Below W.drew.heap.size W.drew W'→(Instr.lookup 102 (.map (some eb)) (.string (B n)) true).run Tryz.prog W'=.ok (.tuple #[.agg #[.string ⟨#[]⟩,.slice none 0 0],.bool false]) W':=fun W' hW'=>by
   have hm:MapF W' eb (entF es g):=(hI.ent.keep hb.drew).keep hW'
   have:=hm.run_look Tryz.underlying102 (zeroEnt _) (k:=n) hnm
   rwa[hef]at this
  have hbd:Below w.heap.size w W.drew:=hb.drew
  have hId:=hI.keep hbd
  refine wp_region_held_drew (S:=fun W'=>Below W.drew.heap.size W.drew W') (by kernel_rfl) (Below.refl _ _) (fun hHeld=>?_)
  refine wpAnyH_take (i:=0) (oi:=⟨_,_,_,_,_,_⟩) (v:=?x101v) rfl (by kernel_rfl) (by kernel_rfl) (by kernel_rfl) (fun _ _ _ h=>h) (Or.inl ⟨by rfl,?x101h⟩) (by assumption) ?x101r
  rotate_left 1
  ·(intro w hSw;(try dsimp only at hSw);go_simp;(try with_reducible rfl))
  try simp only[Act.put,List.setIfInBounds_toArray,List.set_cons_zero,List.set_cons_succ]
  refine wpAnyH_take (i:=1) (oi:=⟨_,_,_,_,_,_⟩) (v:=?x102v) rfl (by kernel_rfl) (by kernel_rfl) (by kernel_rfl) (fun _ _ _ h=>h) (Or.inl ⟨by rfl,?x102h⟩) (by assumption) ?x102r
  rotate_left 1
  ·(intro w hSw;(try dsimp only at hSw);go_simp;(try with_reducible rfl))
  try simp only[Act.put,List.setIfInBounds_toArray,List.set_cons_zero,List.set_cons_succ]
  refine wpAnyH_take (i:=2) (oi:=⟨_,_,_,_,_,_⟩) (v:=?x103v) rfl (by kernel_rfl) (by kernel_rfl) (by kernel_rfl) (fun _ _ _ h=>h) (Or.inl ⟨by rfl,?x103h⟩) (by assumption) ?x103r
  rotate_left 1
  ·(intro w hSw;(try dsimp only at hSw);go_simp;(try with_reducible rfl))
  try simp only[Act.put,List.setIfInBounds_toArray,List.set_cons_zero,List.set_cons_succ]
  refine wpAnyH_take (i:=3) (oi:=⟨_,_,_,_,_,_⟩) (v:=?x104v) rfl (by kernel_rfl) (by kernel_rfl) (by kernel_rfl) (fun _ _ _ h=>h) (Or.inl ⟨by rfl,?x104h⟩) (by assumption) ?x104r
  rotate_left 1
  ·(intro w hSw;(try dsimp only at hSw);have f2:=cell_later hSw k2;go_simp;(try with_reducible rfl))
  try simp only[Act.put,List.setIfInBounds_toArray,List.set_cons_zero,List.set_cons_succ]
  refine wpAnyH_take (i:=4) (oi:=⟨_,_,_,_,_,_⟩) (v:=?x105v) rfl (by kernel_rfl) (by kernel_rfl) (by kernel_rfl) (fun _ _ _ h=>h) (Or.inl ⟨by rfl,?x105h⟩) (by assumption) ?x105r
  rotate_left 1
  ·(intro w hSw;(try dsimp only at hSw);have f0:=cell_later hSw k0;go_simp;(try with_reducible rfl))
  try simp only[Act.put,List.setIfInBounds_toArray,List.set_cons_zero,List.set_cons_succ]
  refine wpAnyH_take (i:=5) (oi:=⟨_,_,_,_,_,_⟩) (v:=?x106v) rfl (by kernel_rfl) (by kernel_rfl) (by kernel_rfl) (fun _ _ _ h=>h) (Or.inl ⟨by rfl,?x106h⟩) (by assumption) ?x106r
  rotate_left 1
  ·(intro w hSw;(try dsimp only at hSw);have f5:=hmS _ hSw;go_simp;(try with_reducible rfl))
  try simp only[Act.put,List.setIfInBounds_toArray,List.set_cons_zero,List.set_cons_succ]
  refine wpAnyH_take (i:=6) (oi:=⟨_,_,_,_,_,_⟩) (v:=?x107v) rfl (by kernel_rfl) (by kernel_rfl) (by kernel_rfl) (fun _ _ _ h=>h) (Or.inl ⟨by rfl,?x107h⟩) (by assumption) ?x107r
  rotate_left 1
  ·(intro w hSw;(try dsimp only at hSw);go_simp;(try with_reducible rfl))
  try simp only[Act.put,List.setIfInBounds_toArray,List.set_cons_zero,List.set_cons_succ]
  refine wpAnyH_take (i:=7) (oi:=⟨_,_,_,_,_,_⟩) (v:=?x108v) rfl (by kernel_rfl) (by kernel_rfl) (by kernel_rfl) (fun _ _ _ h=>h) (Or.inl ⟨by rfl,?x108h⟩) (by assumption) ?x108r
  rotate_left 1
  ·(intro w hSw;(try dsimp only at hSw);go_simp;(try with_reducible rfl))
  try simp only[Act.put,List.setIfInBounds_toArray,List.set_cons_zero,List.set_cons_succ]
  refine wpAnyH_take (i:=8) (oi:=⟨_,_,_,_,_,_⟩) (v:=?x109v) rfl (by kernel_rfl) (by kernel_rfl) (by kernel_rfl) (fun _ _ _ h=>h) (Or.inl ⟨by rfl,?x109h⟩) (by assumption) ?x109r
  rotate_left 1
  ·(intro w hSw;(try dsimp only at hSw);go_simp;(try with_reducible rfl))
  try simp only[Act.put,List.setIfInBounds_toArray,List.set_cons_zero,List.set_cons_succ]
  refine wpAnyH_ready (rs:=[9]) (by kernel_rfl) (by simp) ?_
  refine AllReadyH.cons (o:=⟨_,_,_,_,_,_⟩) rfl (fun K hK=>?_) AllReadyH.nil
  go_simp
  refine hK.out _ _ ?_ (fun hHeld=>?_)
  ·exact (Below.refl _ _).alloc (Nat.le_refl _) _
  clear hK K
  try simp only[Act.put,List.setIfInBounds_toArray,List.set_cons_zero,List.set_cons_succ]
  refine wpAnyH_ready (rs:=[10]) (by kernel_rfl) (by simp) ?_
  refine AllReadyH.cons (o:=⟨_,_,_,_,_,_⟩) rfl (fun K hK=>?_) AllReadyH.nil
  go_simp
  refine hK.out _ _ ?_ (fun hHeld=>?_)
  ·exact (Below.refl _ _).alloc (Nat.le_refl _) _
  clear hK K
  try simp only[Act.put,List.setIfInBounds_toArray,List.set_cons_zero,List.set_cons_succ]
  refine wpAnyH_take (i:=11) (oi:=⟨_,_,_,_,_,_⟩) (v:=?x110v) rfl (by kernel_rfl) (by kernel_rfl) (by kernel_rfl) (fun _ _ _ h=>h) (Or.inl ⟨by rfl,?x110h⟩) (by assumption) ?x110r
  rotate_left 1
  ·(intro w hSw;(try dsimp only at hSw);go_simp;(try with_reducible rfl))
  try simp only[Act.put,List.setIfInBounds_toArray,List.set_cons_zero,List.set_cons_succ]
  refine wpAnyH_done (by kernel_rfl) ?_ _
  clear hI hmS hE hG
  have hbw:=hbd.trans (hHeld.mono hbd.size)
  go_wp2
  refine bodyPost_ret (results_none rfl _ _ _) rfl ?_
  exact ⟨rfl,G,hId.keep hHeld,Mv.of_below hbw _,fun k hk=>.inl hk⟩
 |true=>
  obtain ⟨A,hA⟩:=hasE_iff.1 hh
  have hef:entF es g n=some (.agg #[sv n,g n]):=by unfold entF;rw[hh];rfl
  have hatv:=hI.entry hA
  obtain ⟨Ag,cg,hgn,_⟩:=SlV.shape hatv
  rw[hgn]at hatv hef
  go_enter Tryz.func60,Tryz.ntmps60
  go_upto_region 1 with fail
  with_reducible refine gen1 (R:=fun W=>Code.wp Tryz.prog _ _ _ W) ?_
  intro W hb hszW hc _
  have q0:W.cell? ⟨w.heap.size,0,none⟩=some (.string (B n)):=hc 0 _ rfl
  replace c2:=cell_later hb c2
  clear hc hszW
  go_upto_region 2 with (go_at_call 57;refine (ready_any px eb W c2).mono ?_;rintro e w0 ⟨rfl,rfl⟩)
  have k0:W.drew.cell? ⟨w.heap.size,0,none⟩=some (.string (B n)):=q0
  have k2:W.drew.cell? ⟨px,2,none⟩=some (.map (some eb)):=c2
  have hmS:∀W',Below W.drew.heap.size W.drew W'→(Instr.lookup 102 (.map (some eb)) (.string (B n)) true).run Tryz.prog W'=.ok (.tuple #[.agg #[.string (B n),.slice Ag A.length cg],.bool true]) W':=fun W' hW'=>by
   have hm:MapF W' eb (entF es g):=(hI.ent.keep hb.drew).keep hW'
   have:=hm.run_look Tryz.underlying102 (zeroEnt _) (k:=n) hnm
   rwa[hef]at this
  have hbd:Below w.heap.size w W.drew:=hb.drew
  refine wp_region_held_drew (S:=fun W'=>Below W.drew.heap.size W.drew W') (by kernel_rfl) (Below.refl _ _) (fun hHeld=>?_)
  refine wpAnyH_take (i:=0) (oi:=⟨_,_,_,_,_,_⟩) (v:=?x111v) rfl (by kernel_rfl) (by kernel_rfl) (by kernel_rfl) (fun _ _ _ h=>h) (Or.inl ⟨by rfl,?x111h⟩) (by assumption) ?x111r
  rotate_left 1
  ·(intro w hSw;(try dsimp only at hSw);go_simp;(try with_reducible rfl))
  try simp only[Act.put,List.setIfInBounds_toArray,List.set_cons_zero,List.set_cons_succ]
  refine wpAnyH_take (i:=1) (oi:=⟨_,_,_,_,_,_⟩) (v:=?x112v) rfl (by kernel_rfl) (by kernel_rfl) (by kernel_rfl) (fun _ _ _ h=>h) (Or.inl ⟨by rfl,?x112h⟩) (by assumption) ?x112r
  rotate_left 1
  ·(intro w hSw;(try dsimp only at hSw);go_simp;(try with_reducible rfl))
  try simp only[Act.put,List.setIfInBounds_toArray,List.set_cons_zero,List.set_cons_succ]
  refine wpAnyH_take (i:=2) (oi:=⟨_,_,_,_,_,_⟩) (v:=?x113v) rfl (by kernel_rfl) (by kernel_rfl) (by kernel_rfl) (fun _ _ _ h=>h) (Or.inl ⟨by rfl,?x113h⟩) (by assumption) ?x113r
  rotate_left 1
  ·(intro w hSw;(try dsimp only at hSw);go_simp;(try with_reducible rfl))
  try simp only[Act.put,List.setIfInBounds_toArray,List.set_cons_zero,List.set_cons_succ]
  refine wpAnyH_take (i:=3) (oi:=⟨_,_,_,_,_,_⟩) (v:=?x114v) rfl (by kernel_rfl) (by kernel_rfl) (by kernel_rfl) (fun _ _ _ h=>h) (Or.inl ⟨by rfl,?x114h⟩) (by assumption) ?x114r
  rotate_left 1
  ·(intro w hSw;(try dsimp only at hSw);have f2:=cell_later hSw k2;go_simp;(try with_reducible rfl))
  try simp only[Act.put,List.setIfInBounds_toArray,List.set_cons_zero,List.set_cons_succ]
  refine wpAnyH_take (i:=4) (oi:=⟨_,_,_,_,_,_⟩) (v:=?x115v) rfl (by kernel_rfl) (by kernel_rfl) (by kernel_rfl) (fun _ _ _ h=>h) (Or.inl ⟨by rfl,?x115h⟩) (by assumption) ?x115r
  rotate_left 1
  ·(intro w hSw;(try dsimp only at hSw);have f0:=cell_later hSw k0;go_simp;(try with_reducible rfl))
  try simp only[Act.put,List.setIfInBounds_toArray,List.set_cons_zero,List.set_cons_succ]
  refine wpAnyH_take (i:=5) (oi:=⟨_,_,_,_,_,_⟩) (v:=?x116v) rfl (by kernel_rfl) (by kernel_rfl) (by kernel_rfl) (fun _ _ _ h=>h) (Or.inl ⟨by rfl,?x116h⟩) (by assumption) ?x116r
  rotate_left 1
  ·(intro w hSw;(try dsimp only at hSw);have f5:=hmS _ hSw;go_simp;(try with_reducible rfl))
  try simp only[Act.put,List.setIfInBounds_toArray,List.set_cons_zero,List.set_cons_succ]
  refine wpAnyH_take (i:=6) (oi:=⟨_,_,_,_,_,_⟩) (v:=?x117v) rfl (by kernel_rfl) (by kernel_rfl) (by kernel_rfl) (fun _ _ _ h=>h) (Or.inl ⟨by rfl,?x117h⟩) (by assumption) ?x117r
  rotate_left 1
  ·(intro w hSw;(try dsimp only at hSw);go_simp;(try with_reducible rfl))
  try simp only[Act.put,List.setIfInBounds_toArray,List.set_cons_zero,List.set_cons_succ]
  refine wpAnyH_take (i:=7) (oi:=⟨_,_,_,_,_,_⟩) (v:=?x118v) rfl (by kernel_rfl) (by kernel_rfl) (by kernel_rfl) (fun _ _ _ h=>h) (Or.inl ⟨by rfl,?x118h⟩) (by assumption) ?x118r
  rotate_left 1
  ·(intro w hSw;(try dsimp only at hSw);go_simp;(try with_reducible rfl))
  try simp only[Act.put,List.setIfInBounds_toArray,List.set_cons_zero,List.set_cons_succ]
  refine wpAnyH_take (i:=8) (oi:=⟨_,_,_,_,_,_⟩) (v:=?x119v) rfl (by kernel_rfl) (by kernel_rfl) (by kernel_rfl) (fun _ _ _ h=>h) (Or.inl ⟨by rfl,?x119h⟩) (by assumption) ?x119r
  rotate_left 1
  ·(intro w hSw;(try dsimp only at hSw);go_simp;(try with_reducible rfl))
  try simp only[Act.put,List.setIfInBounds_toArray,List.set_cons_zero,List.set_cons_succ]
  refine wpAnyH_ready (rs:=[9]) (by kernel_rfl) (by simp) ?_
  refine AllReadyH.cons (o:=⟨_,_,_,_,_,_⟩) rfl (fun K hK=>?_) AllReadyH.nil
  go_simp
  refine hK.out _ _ ?_ (fun hHeld=>?_)
  ·exact (Below.refl _ _).alloc (Nat.le_refl _) _
  clear hK K
  try simp only[Act.put,List.setIfInBounds_toArray,List.set_cons_zero,List.set_cons_succ]
  refine wpAnyH_ready (rs:=[10]) (by kernel_rfl) (by simp) ?_
  refine AllReadyH.cons (o:=⟨_,_,_,_,_,_⟩) rfl (fun K hK=>?_) AllReadyH.nil
  go_simp
  refine hK.out _ _ ?_ (fun hHeld=>?_)
  ·exact (Below.refl _ _).alloc (Nat.le_refl _) _
  clear hK K
  try simp only[Act.put,List.setIfInBounds_toArray,List.set_cons_zero,List.set_cons_succ]
  refine wpAnyH_take (i:=11) (oi:=⟨_,_,_,_,_,_⟩) (v:=?x120v) rfl (by kernel_rfl) (by kernel_rfl) (by kernel_rfl) (fun _ _ _ h=>h) (Or.inl ⟨by rfl,?x120h⟩) (by assumption) ?x120r
  rotate_left 1
  ·(intro w hSw;(try dsimp only at hSw);go_simp;(try with_reducible rfl))
  try simp only[Act.put,List.setIfInBounds_toArray,List.set_cons_zero,List.set_cons_succ]
  refine wpAnyH_done (by kernel_rfl) ?_ _
  clear hmS hHeld
  have e0:((W.alloc (.cells #[.string (B n),.slice Ag A.length cg] 48)).drew).cell? ⟨W.heap.size,0,none⟩=some (.string (B n)):=by
   show (W.alloc _).cell? _=_
   rw[cell_of_row _ W.heap.size 0 _ _ (0,0) (heap_alloc_new W _)];rfl
  have e1:((W.alloc (.cells #[.string (B n),.slice Ag A.length cg] 48)).drew).cell? ⟨W.heap.size,1,none⟩=some (.slice Ag A.length cg):=by
   show (W.alloc _).cell? _=_
   rw[cell_of_row _ W.heap.size 1 _ _ (0,0) (heap_alloc_new W _)];rfl
  have hb2:Below W.drew.heap.size W.drew ((W.alloc (.cells #[.string (B n),.slice Ag A.length cg] 48)).drew):=(Below.refl _ _).alloc (Nat.le_refl _) _
  generalize (W.alloc (.cells #[.string (B n),.slice Ag A.length cg] 48)).drew=W2 at *
  have hbw2:=hbd.trans (hb2.mono hbd.size)
  replace k0:=cell_later hb2 k0
  replace k2:=cell_later hb2 k2
  generalize W.heap.size=z1 at *
  clear q0 c2 hb hb2
  go_upto_region 4 with fail
  have d0:W2.drew.cell? ⟨w.heap.size,0,none⟩=some (.string (B n)):=k0
  have d2:W2.drew.cell? ⟨px,2,none⟩=some (.map (some eb)):=k2
  replace e0:W2.drew.cell? ⟨z1,0,none⟩=some (.string (B n)):=e0
  replace e1:W2.drew.cell? ⟨z1,1,none⟩=some (.slice Ag A.length cg):=e1
  refine wp_tail_drew 5 (by kernel_rfl) (by kernel_rfl) ?_
  simp only[List.take_succ_cons,List.take_zero,List.drop_succ_cons,List.drop_zero]
  repeat still_step
  refine wpStill_nil ?_
  have hbw3:Below w.heap.size w W2.drew:=hbw2.drew
  clear k0 k2 hbw2
  generalize W2.drew=W3 at *
  have hI3:=hI.keep hbw3
  go_upto_region 5 with (at_delete;refine wpList_delF _ rfl _ _ 102 rfl Tryz.underlying102 rfl hI3.ent n rfl hnm ?_;intro W4 hm4 hv4)
  have hv4':Mv (IxS eb ts G) W3 W4:=hv4.mono fun k hk=>.inl hk
  have hall3:=hI3.allMap
  have hv4e:¬VlS ts G eb:=hI3.ebs
  replace d0:=hv4'.cell hall3 d0
  replace e0:=hv4'.cell hall3 e0
  replace e1:=hv4'.cell hall3 e1
  have hV4:=hI3.vl.mv hv4 (fun e=>hI3.ebv (Eq.symm e)) (fun k hk=>by have e:k=eb:=hk;rw[e];exact hv4e)
  have hMw4:Mv (IxS eb ts G) w W4:=(Mv.of_below hbw3 _).trans hv4' fun j hj=>.inl hj
  have hEa:=each_any (w:=W4) 130 #[.pointer (some ⟨w.heap.size,0,none⟩)] fn_drop1 px s ta cb n _ A false (lvE s es) (namesE es)
   (hv4'.cell hall3 hI3.c0) (hv4'.cell hall3 hI3.c1) (hv4'.cell hall3 hI3.c3) (SchV.mono (hI.sch.keepC fun b off u _ hc=>hMw4.cell hI.allMap hc) (Nat.le_trans hI.hsz hMw4.size)) hG.sm hV4 (hI.tl hG)
   (AttsV.mono (AttsV.keepC hatv fun b off u _ hc=>hMw4.cell hI.allMap hc) hMw4.size) (hG.sm7 hA) (fun a=>hG.get hA a)
   (fun W hW=>hE W ((hMw4.trans hW fun j hj=>.inl (.inr hj)).below hI.lowS hI.hsz)) (GdI.mIn s es ts) (fun t _ v hv=>List.mem_flatMap.2 ⟨_,hA,hv⟩) (List.mem_map.2 ⟨_,hA,rfl⟩)
   (fun V G1 M1 t v hMV ht hV1 hv _=>drop1_any hV1 ht v n w.heap.size (hMV.cell hV4.allMap d0) (by unfold maxLen;omega) hnm)
  have hmix:(mixM s A n false (atB s es) fun _=>false)=atB s (ixDrop es n):=by
   funext t v m
   rw[atB_drop hG.ok hA]
   unfold mixM
   by_cases hc:m=n∧(nV s t A).contains v=true
   ·rw[if_pos ⟨rfl,hc.1,hc.2⟩,if_pos hc]
   ·rw[if_neg (fun h=>hc ⟨h.2.1,h.2.2⟩),if_neg hc]
  rw[hmix]at hEa
  have hfin:∀W5 G5,VlV W5 vb ts G5 (atB s (ixDrop es n))→Mv (VlS ts G) W4 W5→(∀k,VlS ts G5 k→VlS ts G k∨W4.heap.size≤k)→IxV W5 hs lo px s ns (ixDrop es n) ta cb eb vb g ts G5∧Mv (IxS eb ts G) w W5∧∀k,IxS eb ts G5 k→IxS eb ts G k∨w.heap.size≤k:=fun W5 G5 hV5 hm5 hn5=>by
   have hmw:Mv (IxS eb ts G) w W5:=hMw4.trans hm5 fun j hj=>.inl (.inr hj)
   have hnw:∀k,VlS ts G5 k→VlS ts G k∨w.heap.size≤k:=fun k hk=>(hn5 k hk).imp id fun h=>Nat.le_trans hMw4.size h
   refine ⟨hI.turned hmw ?_ (fun e he=>?_) hV5 hnw,hmw,?_⟩
   ·rw[entF_drop]
    exact hm4.mv hm5 hv4e
   ·obtain ⟨ps,h1,h2⟩:=hI.att e (drop_mem.1 he).1
    exact ⟨ps,h1.mv hmw fun k hk=>.inr (hI.allMap k hk),h2⟩
   ·rintro k (rfl|hk)
    ·exact .inl (.inl rfl)
    ·exact (hnw k hk).imp (fun h=>.inr h) id
  clear hmix hI hI3 hV4 hm4 hv4 hv4' hall3 hE hG hatv
  go_wp2_with (go_at_call 62;refine hEa.mono ?_;rintro e w5 ⟨rfl,G5,hV5,hm5,hn5⟩)
  go_end0
  exact ⟨rfl,G5,hfin _ _ hV5 hm5 hn5⟩
end
end Go.Proofs.YtbkkchhimhlhcaaGreatDoor
