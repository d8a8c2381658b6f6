/- Part 50 of the proof that identitylaw12.SearchChecks returns true for every data that it may be called with: proof: the package variables hold what the program lays; nothing else is asked. -/
import Derived.Test.YtbkkchhimhlhcaaGreatDoorSrk49
set_option linter.unusedVariables false
set_option linter.unusedSimpArgs false
set_option maxRecDepth 100000
set_option maxHeartbeats 16000000
/- search: made, examined, Run, Examined. -/
namespace Go.Proofs.YtbkkchhimhlhcaaGreatDoor
open Go.RowKit Go.Sort
open Idn (L B Bs drop_L take_L size_L)
theorem own_noMap {w:World} {m base:Nat} {e:TypeId} {size:Nat} {v:Value} {n:Nat} {xs:List Value} (h:w.ownsRow base e size v n xs) (hm:∃es c,w.heap[m]?=some (.map es c)):v.ownBlock≠some m:=by
 obtain ⟨es,c,e0⟩:=hm
 rcases h.2 with ⟨rfl,_⟩|⟨g,cap,cur,rfl,_,hg,_⟩
 ·intro e;cases e
 ·intro e1
  have e2:g=m:=by
   have:(some g:Option Nat)=some m:=e1
   exact Option.some.inj this
  subst e2
  rw[e0]at hg
  cases hg
theorem zeroBool (w:World):(zeroValue 4).run Tryz.prog w=.ok (.bool false) w:=by kernel_rfl
theorem setF_get (p:Bs→Bool) (n:Bs):(setF p n).getD (.bool false)=.bool (p n):=by
 unfold setF
 cases p n<;>rfl
section
variable {w:World} {hs lo px:Nat} {s:Idn.Sch} {ns:List Bs} {es:List IxE} {ta cb:Value} {eb vb:Nat} {g:Bs→Value} {ts:List (Bs×Nat)} {G:Bs→Bs→Option Nat}
theorem ixPutB_any (hI:IxV w hs lo px s ns es ta cb eb vb g ts G):Calls Tryz.prog 16 #[.pointer (some ⟨px,0,none⟩),.agg #[.string ⟨#[33]⟩,.slice none 0 0]] w fun e w'=>e=.returned (.int .i64 5)∧Below w.heap.size w w':=by
 have hVn:=fun W=>nm_valid_any ⟨#[33]⟩ W (by decide)
 have hv:validN (L ⟨#[33]⟩)=false:=by kernel_rfl
 rw[hv]at hVn
 have c2:=hI.c2
 go_enter Tryz.func16,Tryz.ntmps16
 go_upto_region 1 with fail
 with_reducible refine gen1 (R:=fun W=>Code.wp Tryz.prog _ _ _ W) ?_
 intro W hb hszW hc _
 have q0:W.cell? ⟨w.heap.size,0,none⟩=some (.string ⟨#[33]⟩):=hc 0 _ rfl
 replace c2:=cell_later hb c2
 clear hc hszW
 go_wp2_with (first
  |(go_at_call 57;refine (ready_any px eb W c2).mono ?_;rintro e w0 ⟨rfl,rfl⟩)
  |(go_at_call 58;refine (hVn _).mono ?_;rintro e w1 ⟨rfl,hb1⟩))
 go_ret
 exact ⟨rfl,hb.trans (hb1.mono hb.size)⟩
theorem seMade_any (hI:IxV w hs lo px s ns es ta cb eb vb g ts G):Calls Tryz.prog 103 #[.pointer (some ⟨px,0,none⟩)] w fun e w'=>e=.returned (.bool true)∧Below w.heap.size w w':=by
 have hP:=ixPutB_any hI
 go_enter Tryz.func103,Tryz.ntmps103
 go_wp2_with (go_at_call 16;refine hP.mono ?_;rintro e w1 ⟨rfl,hb1⟩)
 go_ret
 exact ⟨rfl,hb1⟩
end
section
variable {w:World} {hs lo pt:Nat} {es:List IxE} {mb:Nat} {g:Bs→Value} {d:Nat} {v:Value} {q:Qry}
variable {hs' lo' px:Nat} {sx:Idn.Sch} {ns:List Bs} {ix:List IxE} {ta cb:Value} {eb vb:Nat} {gx:Bs→Value} {ts:List (Bs×Nat)} {G:Bs→Bs→Option Nat}
theorem seExam_any (hT : TrV w hs lo pt es mb g) (hG : GdT es) (hI : IxV w hs' lo' px sx ns ix ta cb eb vb gx ts G) (hGI : GdI sx ns ix) (hE : ∀ W, Below w.heap.size w W → Env W ∧ EnvU W) (hq : QryV w w.heap.size d v q) (hsm : QSm q) (hb0 : qFirst es q = 0) :
    Calls Tryz.prog 104 #[.pointer (some ⟨pt,0,none⟩),.pointer (some ⟨px,0,none⟩),v] w (RetEs w (qExam es q (ixCand sx (ns.map Idn.lower) ix q.flt))):=by
 have hsc:(trSub es q.base).filter (fun e=>qIn q e.1)=qScope es q:=by
  refine scope_sub par_law ?_
  unfold qFirst at hb0
  cases hh:hasE es q.base with
  |true=>rfl
  |false=>
   rw[hh]at hb0
   by_cases hc:qChk q=0
   ·rw[if_neg (by simpa using hc)]at hb0;cases hb0
   ·rw[if_pos hc]at hb0;exact absurd hb0 hc
 have kS:=fun W (hW:Below w.heap.size w W)=>seScope_any (hT.keep hW) hG (hq.on hW) hsm
 rw[hsc]at kS
 have hnd:((qScope es q).map (·.1)).Nodup:=names_nodup (filter_ok hG.ok _)
 have hsl:(qScope es q).length≤256:=Nat.le_trans (List.length_filter_le _ _) hG.len
 have hvl:∀e∈qScope es q,e.1.length≤1000000:=fun e he=>hG.nam e (List.mem_filter.1 he).1
 have kC:=fun (fv:Value) W (hW:Below w.heap.size w W) (hf:FltV W W.heap.size d fv q.flt)=>cand_any hGI d fv q.flt W (hI.keep hW) (fun V hV=>hE V (hW.trans (hV.mono hW.size))) hf hsm.flt
 have hco:=cand_ok (s:=sx) (idx:=ns.map Idn.lower) hGI.ok q.flt
 have hcl:(ixCand sx (ns.map Idn.lower) ix q.flt).1.length≤256:=Nat.le_trans (hco.len hGI.ok) hGI.len
 have hcn:∀n∈(ixCand sx (ns.map Idn.lower) ix q.flt).1,n.length≤1000000:=fun n hn=>hGI.name_len (hco.2 n hn)
 obtain ⟨Ap,cp,Ak,ck,An,cn,rfl,hF,_⟩:=hq.shape
 have HR:Hid (qExam es q (ixCand sx (ns.map Idn.lower) ix q.flt)=if (ixCand sx (ns.map Idn.lower) ix q.flt).2 then (qScope es q).filter fun e=>(ixCand sx (ns.map Idn.lower) ix q.flt).1.contains e.1 else qScope es q):=rfl
 generalize qExam es q (ixCand sx (ns.map Idn.lower) ix q.flt)=r at *
 generalize ixCand sx (ns.map Idn.lower) ix q.flt=c at *
 generalize qScope es q=S at *
 clear hco hsc hb0 hq hsm hT hG hI hGI hE
 obtain ⟨cl,co⟩:=c
 obtain ⟨base,scope,flt,names,limit⟩:=q
 dsimp only at *
 have hmm:=@run_makeMap Tryz.prog
 go_enter Tryz.func104,Tryz.ntmps104
 go_upto_region 1 with fail
 with_reducible refine gen1 (R:=fun W=>Code.wp Tryz.prog _ _ _ W) ?_
 intro W hbW hszW hc _
 have b0:W.cell? ⟨w.heap.size,0,none⟩=some (.string (B base)):=hc 0 _ rfl
 have b1:W.cell? ⟨w.heap.size,1,none⟩=some (.int .i64 scope):=hc 1 _ rfl
 have b2:W.cell? ⟨w.heap.size,2,none⟩=some (.int .i64 flt.kind):=hc 2 _ rfl
 have b3:W.cell? ⟨w.heap.size,3,none⟩=some (.string (B flt.name)):=hc 3 _ rfl
 have b4:W.cell? ⟨w.heap.size,4,none⟩=some (.string (B flt.value)):=hc 4 _ rfl
 have b5:W.cell? ⟨w.heap.size,5,none⟩=some (.slice Ap flt.parts.length cp):=hc 5 _ rfl
 have b6:W.cell? ⟨w.heap.size,6,none⟩=some (.slice Ak flt.kids.length ck):=hc 6 _ rfl
 have b7:W.cell? ⟨w.heap.size,7,none⟩=some (.slice An names.length cn):=hc 7 _ rfl
 have b8:W.cell? ⟨w.heap.size,8,none⟩=some (.int .i64 limit):=hc 8 _ rfl
 clear hc hszW
 go_upto_region 2 with (go_at_call 98;refine (kS _ hbW).mono ?_;rintro e w1 ⟨k1,c1,ps,rfl,hrow,hps,hb1⟩)
 have hbw1:=hbW.trans (hb1.mono hbW.size)
 replace b0:=cell_later hb1 b0
 replace b1:=cell_later hb1 b1
 replace b2:=cell_later hb1 b2
 replace b3:=cell_later hb1 b3
 replace b4:=cell_later hb1 b4
 replace b5:=cell_later hb1 b5
 replace b6:=cell_later hb1 b6
 replace b7:=cell_later hb1 b7
 replace b8:=cell_later hb1 b8
 have hC1:=kC _ w1 hbw1 (hF.on hbw1)
 clear kS kC hF
 go_upto_region 3 with (go_at_call 18;refine hC1.mono ?_;intro e w2 hret;obtain ⟨A2,c2,rfl,S2,hb2⟩:=hret.open_;dsimp only at S2)
 clear hC1 hret b0 b1 b2 b3 b4 b5 b6 b7 b8
 have hbw2:=hbw1.trans (hb2.mono hbw1.size)
 have hrow2:=hrow.keep hb2
 cases co
 case false=>
  have HF:Hid (r=S):=HR.out
  have HX:Hid (RetEs w r (.returned (.slice k1 S.length c1)) w2):=by
   rw[HF.out]
   exact ⟨k1,c1,ps,rfl,hrow2.low hbW.size,hps,hbw2⟩
  clear HR HF hrow hrow2 hps S2
  go_wp2_with fail
  go_ret
  exact HX.out
 have HF:Hid (r=S.filter fun e=>cl.contains e.1):=HR.out
 clear HR hrow
 have hpl:ps.length=S.length:=by rw[←hps,List.length_map]
 have hpl9:ps.length≤256:=by omega
 go_upto_region 6 with fail
 have hba:Below w2.heap.size w2 (w2.alloc (.map #[] 0)):=(Below.refl _ w2).alloc (Nat.le_refl _) _
 have hm0:=MapF.made w2
 have hsz2:(w2.alloc (.map #[] 0)).heap.size=w2.heap.size+1:=by simp
 generalize w2.alloc (.map #[] 0)=X at *
 have hX1:w2.heap.size<X.heap.size:=by omega
 clear hsz2
 go_wp2_with fail
 go_loopw [32] (fun i wr=>∃(k:Nat),k≤cl.length∧i=.int .i64 k∧MapF wr w2.heap.size (setF fun n=>(cl.take k).contains n)∧Below w2.heap.size w2 wr) (fun i _=>cl.length-(intOf i).toNat)
 case atStart=>
  refine ⟨0,Nat.zero_le _,rfl,?_,hba⟩
  have e:(setF fun n=>((cl.take 0).contains n))=fun _=>none:=by funext n;unfold setF;rfl
  rw[e];exact hm0
 case round=>
  obtain ⟨k,hk,rfl,hm,hb⟩:=hrel
  by_cases hlt:k<cl.length
  ·have hltI:(k:Int)<(cl.length:Int):=by omega
   obtain ⟨b9,off,hA2,hbl,d0⟩:=StrsV.cell (SlV.keep S2 hb) hlt
   subst hA2
   have hxl:=hcn _ (List.getElem_mem hlt)
   have hkeys:∀y,setF (fun n=>(cl.take k).contains n) y≠none→y∈cl:=fun y hy=>List.mem_of_mem_take (List.contains_iff_mem.1 (setF_some.1 hy))
   have hst:(setF fun y=>if y=cl[k]then true else (cl.take k).contains y)=setF fun n=>(cl.take (k+1)).contains n:=by
    congr 1
    funext y
    rw[List.take_succ_eq_append_getElem hlt]
    by_cases e:y=cl[k]
    ·rw[if_pos e];exact (List.contains_iff_mem.2 (List.mem_append.2 (.inr (by rw[e];exact List.mem_singleton.2 rfl)))).symm
    ·rw[if_neg e,Bool.eq_iff_iff,List.contains_iff_mem,List.contains_iff_mem,List.mem_append,List.mem_singleton];exact ⟨.inl,fun h=>h.resolve_right e⟩
   generalize cl[k]=x at *
   go_wp2_with (at_mapUpdate;refine wpList_putF _ rfl _ _ _ 120 rfl Tryz.underlying120 rfl hm (l:=cl) hkeys (by omega) x rfl (by unfold maxLen;omega) (.bool true) rfl ?_;intro w5 hm5 hv5;go_frame)
   rw[setF_put,hst]at hm5
   have hb5:Below w2.heap.size w2 w5:=hb.trans (hv5.below (fun j hj=>Nat.le_of_eq (Eq.symm hj)) hb.size)
   go_roundw
   case rel=>exact ⟨k+1,by omega,by go_num,hm5,hb5⟩
   case measure=>simp[intOf];omega
  ·have hltI:¬(k:Int)<(cl.length:Int):=by omega
   rw[List.take_of_length_le (by omega)]at hm
   have hrw:=hrow2.keep hb
   have hbw3:=hbw2.trans (hb.mono hbw2.size)
   have hX3:w2.heap.size<wr.heap.size:=hm.lt
   clear hm0 hba S2 hrow2 hX1 hcn
   obtain ⟨w3,hw3⟩:∃w3:World,w3=wr:=⟨_,rfl⟩
   subst hw3
   have HPS:=Lib.hid hps
   have HPL:=Lib.hid hpl
   clear hps hpl
   rw[←HPL.out]
   go_wp2_with fail
   go_loopw [13,41] (fun o i wr=>∃(k:Nat) (qs:List (EntP×Value)),k≤ps.length∧i=.int .i64 k∧wr.ownsRow w3.heap.size 48 2 o qs.length (rowEn qs)∧MapF wr w2.heap.size (setF fun n=>cl.contains n&&!((S.take k).map (·.1)).contains n)∧Mv (·=w2.heap.size) w3 wr∧Hid (qs=(ps.take k).filter fun p=>cl.contains p.1.1)∧qs.length≤k) (fun _ i _=>ps.length-(intOf i).toNat)
   case atStart=>
    refine ⟨0,[],Nat.zero_le _,rfl,World.ownsRow_nil _ _ _ _,?_,Mv.refl _ _,rfl,Nat.le_refl _⟩
    have e:(setF fun n=>cl.contains n&&!((S.take 0).map (·.1)).contains n)=setF fun n=>cl.contains n:=by
     congr 1
     funext n
     simp
    rw[e];exact hm
   case round=>
    obtain ⟨k,qs,hk,rfl,hown,hmi,hmv,hinv,hql⟩:=hrel
    obtain ⟨wo,hwo⟩:∃wo:World,wo=wr:=⟨_,rfl⟩
    subst hwo
    obtain ⟨Ko,Co,hso⟩:=own_shape hown
    subst hso
    have hrwi:EntRow wo W.heap.size (.slice k1 ps.length c1) ps:=by
     rw[HPL.out]
     exact hrw.mvM hmv fun j hj=>.inr (by have e:j=w2.heap.size:=hj;rw[e];exact hm.isMap)
    by_cases hlt:k<ps.length
    ·have hltI:(k:Int)<(ps.length:Int):=by omega
     have hltS:k<S.length:=by rw[←HPL.out];exact hlt
     obtain ⟨g9,hA1,hcell⟩:=own_open hrwi.1 (by omega)
     subst hA1
     obtain ⟨rx0,rx1⟩:=rowEn_at ps k _ (List.getElem?_eq_getElem hlt)
     have d0:=hcell _ _ rx0
     have d1:=hcell _ _ rx1
     have hstep:=filter_take8 (fun p:EntP×Value=>cl.contains p.1.1) ps k hlt
     obtain ⟨pz,hox,_⟩:=hrwi.2 _ (List.getElem_mem hlt)
     have hSk:S[k].1=ps[k].1.1:=by
      have h1:(ps.map (·.1))[k]?=S[k]?:=by rw[HPS.out]
      rw[List.getElem?_map,List.getElem?_eq_getElem hlt,List.getElem?_eq_getElem hltS]at h1
      exact congrArg (·.1) (Option.some.inj h1).symm
     have hxn:ps[k].1.1.length≤1000000:=by rw[←hSk];exact hvl _ (List.getElem_mem hltS)
     have hnk:((S.take k).map (·.1)).contains ps[k].1.1=false:=by
      rw[←hSk,←Bool.not_eq_true,List.contains_iff_mem]
      intro hx
      have h2:=hnd
      rw[←List.take_append_drop k S,List.map_append,List.nodup_append]at h2
      exact h2.2.2 _ hx _ (List.mem_map.2 ⟨S[k],by rw[List.drop_eq_getElem_cons hltS];exact List.mem_cons_self,rfl⟩) rfl
     have hst2:(fun n=>cl.contains n&&!((S.take (k+1)).map (·.1)).contains n)=fun n=>if n=ps[k].1.1 then false else cl.contains n&&!((S.take k).map (·.1)).contains n:=by
      funext n
      rw[List.take_succ_eq_append_getElem hltS,List.map_append,List.map_cons,List.map_nil,hSk]
      by_cases e:n=ps[k].1.1
      ·rw[if_pos e,e];simp
      ·rw[if_neg e];simp[e]
     clear hcell rx0 rx1 hSk hltS
     generalize ps[k]=px' at *
     obtain ⟨⟨xn,xa⟩,xu⟩:=px'
     obtain ⟨Ax,cx,hxu⟩:=own_shape hox.1
     dsimp only at d0 d1 hstep hxu hxn hnk hst2
     subst hxu
     unfold sv at d0
     go_upto_region 15 with fail
     with_reducible refine gen1 (R:=fun W=>Code.wp Tryz.prog _ _ _ W) ?_
     intro V hbV hszV hcV _
     have x0:V.cell? ⟨wo.heap.size,0,none⟩=some (.string (B xn)):=hcV 0 _ rfl
     have x1:V.cell? ⟨wo.heap.size,1,none⟩=some (.slice Ax pz.length cx):=hcV 1 _ rfl
     have hmV:=hmi.keep hbV
     have hownV:=own_below hown hbV
     have hmvV:Mv (·=w2.heap.size) w3 V:=hmv.then_below hbV
     have hg0:(setF (fun n=>cl.contains n&&!((S.take k).map (·.1)).contains n) xn).getD (.bool false)=.bool (cl.contains xn):=by
      rw[setF_get,hnk];simp
     have hlo9:∀j,(Value.slice Ko qs.length Co).ownBlock=some j→j<wo.heap.size:=fun j hj=>(hown.lt j hj).2
     clear hcV hszV hox d0 d1 hrwi hown hmi
     cases hw:cl.contains xn
     ·rw[hw]at hg0 hstep
      have HX:Hid (qs=(ps.take (k+1)).filter fun p=>cl.contains p.1.1):=by show _=_;rw[hstep,if_neg (by decide),List.append_nil,hinv.out]
      have hme:MapF V w2.heap.size (setF fun n=>cl.contains n&&!((S.take (k+1)).map (·.1)).contains n):=by
       have e:(fun n=>cl.contains n&&!((S.take (k+1)).map (·.1)).contains n)=fun n=>cl.contains n&&!((S.take k).map (·.1)).contains n:=by
        rw[hst2]
        funext n
        by_cases e:n=xn
        ·rw[if_pos e,e,hw];rfl
        ·rw[if_neg e]
       rw[e];exact hmV
      clear hstep hw hinv hst2 hnk
      go_wp2_with (at_lookup;refine wpList_look1F V rfl _ _ 120 rfl Tryz.underlying120 (zeroBool V) rfl hmV xn rfl (by unfold maxLen;omega) ?_;rw[hg0])
      go_roundw
      case rel=>exact ⟨k+1,qs,by omega,by go_num,hownV,hme,hmvV,HX,by omega⟩
      case measure=>simp[intOf];omega
     ·rw[hw]at hg0 hstep
      have HX:Hid (qs++[((xn,xa),.slice Ax pz.length cx)]=(ps.take (k+1)).filter fun p=>cl.contains p.1.1):=by show _=_;rw[hstep,if_pos rfl,hinv.out]
      clear hstep hinv
      go_upto_region 16 with (at_lookup;refine wpList_look1F V rfl _ _ 120 rfl Tryz.underlying120 (zeroBool V) rfl hmV xn rfl (by unfold maxLen;omega) ?_;rw[hg0])
      have hsV:w3.heap.size≤V.heap.size:=hmvV.size
      go_upto_region 17 with (at_builtin;refine wpList_push V rfl _ _ 27 rfl w3.heap.size 48 (.agg #[.string ⟨#[]⟩,.slice none 0 0]) 2 40 Tryz.underlying27 info_ent rfl (by decide) _ qs.length _ hownV rfl [.string (B xn),.slice Ax pz.length cx] rfl rfl (by intro u hu;simp at hu;rcases hu with rfl|rfl<;>rfl) (by omega) hsV ?_ rfl;intro v9 w9 hown9 hg9 _ hb9 _)
      have hmv9:=Mv.of_grown (S:=fun k=>(Value.slice Ko qs.length Co).ownBlock=some k) hg9 fun j hj=>hj
      have hm9:=hmV.mv hmv9 (own_noMap hownV hmV.isMap)
      replace x0:=(World.cell?_of_block (hmv9.block wo.heap.size (World.block_lt_of_cell? _ _ x0) (fun hj=>Nat.lt_irrefl _ (hlo9 _ hj)))).trans x0
      have hmv39:Mv (·=w2.heap.size) w3 w9:=hmvV.trans hmv9 fun j hj=>.inr (hownV.lt j hj).1
      clear hg9 hownV hmV
      go_wp2_with (at_delete;refine wpList_delF _ rfl _ _ 120 rfl Tryz.underlying120 rfl hm9 xn rfl (by unfold maxLen;omega) ?_;intro w10 hm10 hv10)
      rw[setF_del]at hm10
      have hown10:=own_mv hown9 hv10 fun j hj=>.inr (by have e:j=w2.heap.size:=hj;rw[e];exact hm9.isMap)
      go_roundw
      case rel=>exact ⟨k+1,qs++[((xn,xa),.slice Ax pz.length cx)],by omega,by go_num,by rw[List.length_append,rowEn_app];exact hown10,by rw[hst2];exact hm10,hmv39.trans hv10 (fun j hj=>.inl hj),HX,by rw[List.length_append];simp;omega⟩
      case measure=>simp[intOf];omega
    ·have hltI:¬(k:Int)<(ps.length:Int):=by omega
     have hqs:qs=ps.filter fun p=>cl.contains p.1.1:=by rw[hinv.out,List.take_of_length_le (by omega)]
     have hfin:qs.map (·.1)=r:=by
      rw[HF.out,←HPS.out,hqs,List.filter_map];rfl
     have hrq:EntRow wo w.heap.size _ qs:=⟨own_base hown hbw3.size,fun p hp=>by
      rw[hqs]at hp
      obtain ⟨pz,h1,h2⟩:=hrwi.2 p (List.mem_filter.1 hp).1
      exact ⟨pz,h1.low hbW.size,h2⟩⟩
     have hln:qs.length=r.length:=by rw[←hfin,List.length_map]
     have HX:Hid (RetEs w r (.returned (.slice Ko qs.length Co)) wo):=⟨Ko,Co,qs,by rw[hln],by rw[←hln];exact hrq,hfin,hbw3.trans (hmv.below (fun j hj=>by have e:j=w2.heap.size:=hj;rw[e];exact hbw2.size) hbw3.size)⟩
     clear hinv hqs hfin hrq hown hrwi hmi hln
     go_wp2_with fail
     go_ret
     exact HX.out
theorem seRun_any (sv0 : Value) (s : Idn.Sch) (hS : SchV w w.heap.size sv0 s) (hssm : SSm s) (hE : ∀ W, Below w.heap.size w W → Env W ∧ EnvU W) (hT : TrV w hs lo pt es mb g) (hG : GdT es) (hI : IxV w hs' lo' px sx ns ix ta cb eb vb gx ts G) (hGI : GdI sx ns ix) (hq : QryV w w.heap.size d v q) (hsm : QSm q) :
    Calls Tryz.prog 35 #[sv0,.pointer (some ⟨pt,0,none⟩),.pointer (some ⟨px,0,none⟩),v] w (RetQ w (qRun s es q (ixCand sx (ns.map Idn.lower) ix q.flt))):=by
 have kM:=fun W (hW:Below w.heap.size w W)=>seMade_any (hI.keep hW)
 have kB:=fun W (hW:Below w.heap.size w W)=>seFirst_any (hT.keep hW) hG (hq.on hW) hsm
 have kS:=fun h0 W (hW:Below w.heap.size w W)=>seExam_any (hT.keep hW) hG (hI.keep hW) hGI (fun V hV=>hE V (hW.trans (hV.mono hW.size))) (hq.on hW) hsm h0
 have hsub:∀e∈qExam es q (ixCand sx (ns.map Idn.lower) ix q.flt),e∈es:=fun e he=>by
  unfold qExam at he
  split at he
  ·exact (List.mem_filter.1 (List.mem_filter.1 he).1).1
  ·exact (List.mem_filter.1 he).1
 have hlen:(qExam es q (ixCand sx (ns.map Idn.lower) ix q.flt)).length≤256:=by
  have h1:(qScope es q).length≤256:=Nat.le_trans (List.length_filter_le _ _) hG.len
  unfold qExam
  split
  ·exact Nat.le_trans (List.length_filter_le _ _) h1
  ·exact h1
 have kF:=fun (lv:Value) W (hW:Below w.heap.size w W) (hL:EntsV W W.heap.size lv (qExam es q (ixCand sx (ns.map Idn.lower) ix q.flt)))=>seFound_any sv0 s lv (qExam es q (ixCand sx (ns.map Idn.lower) ix q.flt)) (SchV.mono (SchV.keep hS hW) hW.size) hssm (hE W hW).1 (hE W hW).2 hL hlen (fun e he=>hG.get (hsub e he)) (hq.on hW) hsm
 obtain ⟨Ap,cp,Ak,ck,An,cn,rfl,_,_⟩:=hq.shape
 obtain ⟨sa,sb,rfl,hTy,hCl⟩:=hS
 obtain ⟨A1,c1,rfl,_⟩:=SlV.shape hTy
 obtain ⟨A2,c2,rfl,_⟩:=SlV.shape hCl
 have HR:Hid (qRun s es q (ixCand sx (ns.map Idn.lower) ix q.flt)=if qFirst es q≠0 then ([],qFirst es q)else qRes s (qExam es q (ixCand sx (ns.map Idn.lower) ix q.flt)) q):=rfl
 generalize qRun s es q (ixCand sx (ns.map Idn.lower) ix q.flt)=r at *
 generalize qFirst es q=f0 at *
 by_cases h0:f0=0
 case neg=>
  have HF:Hid (r=([],f0)):=by show _=_;rw[HR.out,if_pos h0]
  have hI0:(f0 !=0)=true:=by simpa using h0
  clear HR kS kF hsub hTy hCl hq
  obtain ⟨base,scope,flt,names,limit⟩:=q
  dsimp only at *
  go_enter Tryz.func35,Tryz.ntmps35
  go_upto_region 1 with fail
  with_reducible refine gen2 (R:=fun W=>Code.wp Tryz.prog _ _ _ W) ?_
  intro W hbW hszW hc1 hc
  have b0:W.cell? ⟨w.heap.size+1,0,none⟩=some (.string (B base)):=hc 0 _ rfl
  have b1:W.cell? ⟨w.heap.size+1,1,none⟩=some (.int .i64 scope):=hc 1 _ rfl
  have b2:W.cell? ⟨w.heap.size+1,2,none⟩=some (.int .i64 flt.kind):=hc 2 _ rfl
  have b3:W.cell? ⟨w.heap.size+1,3,none⟩=some (.string (B flt.name)):=hc 3 _ rfl
  have b4:W.cell? ⟨w.heap.size+1,4,none⟩=some (.string (B flt.value)):=hc 4 _ rfl
  have b5:W.cell? ⟨w.heap.size+1,5,none⟩=some (.slice Ap flt.parts.length cp):=hc 5 _ rfl
  have b6:W.cell? ⟨w.heap.size+1,6,none⟩=some (.slice Ak flt.kids.length ck):=hc 6 _ rfl
  have b7:W.cell? ⟨w.heap.size+1,7,none⟩=some (.slice An names.length cn):=hc 7 _ rfl
  have b8:W.cell? ⟨w.heap.size+1,8,none⟩=some (.int .i64 limit):=hc 8 _ rfl
  clear hc hc1 hszW
  go_upto_region 3 with (go_at_call 103;refine (kM _ hbW).mono ?_;rintro e w1 ⟨rfl,hb1⟩)
  replace b0:=cell_later hb1 b0
  replace b1:=cell_later hb1 b1
  replace b2:=cell_later hb1 b2
  replace b3:=cell_later hb1 b3
  replace b4:=cell_later hb1 b4
  replace b5:=cell_later hb1 b5
  replace b6:=cell_later hb1 b6
  replace b7:=cell_later hb1 b7
  replace b8:=cell_later hb1 b8
  have hbw1:=hbW.trans (hb1.mono hbW.size)
  go_wp2_with (go_at_call 96;refine (kB _ hbw1).mono ?_;rintro e w2 ⟨rfl,hb2⟩)
  go_ret2
  rw[HF.out]
  exact RetQ.no (hbw1.trans (hb2.mono hbw1.size))
 subst h0
 have HF:Hid (r=qRes s (qExam es q (ixCand sx (ns.map Idn.lower) ix q.flt)) q):=HR.out
 replace kS:=kS rfl
 rw[←HF.out]at kF
 generalize qExam es q (ixCand sx (ns.map Idn.lower) ix q.flt)=S at *
 clear HR hsub hTy hCl HF hq hlen
 obtain ⟨base,scope,flt,names,limit⟩:=q
 dsimp only at *
 go_enter Tryz.func35,Tryz.ntmps35
 go_upto_region 1 with fail
 with_reducible refine gen2 (R:=fun W=>Code.wp Tryz.prog _ _ _ W) ?_
 intro W hbW hszW hc1 hc
 have s0:W.cell? ⟨w.heap.size,0,none⟩=some (.slice A1 s.types.length c1):=hc1 0 _ rfl
 have s1:W.cell? ⟨w.heap.size,1,none⟩=some (.slice A2 s.classes.length c2):=hc1 1 _ rfl
 have b0:W.cell? ⟨w.heap.size+1,0,none⟩=some (.string (B base)):=hc 0 _ rfl
 have b1:W.cell? ⟨w.heap.size+1,1,none⟩=some (.int .i64 scope):=hc 1 _ rfl
 have b2:W.cell? ⟨w.heap.size+1,2,none⟩=some (.int .i64 flt.kind):=hc 2 _ rfl
 have b3:W.cell? ⟨w.heap.size+1,3,none⟩=some (.string (B flt.name)):=hc 3 _ rfl
 have b4:W.cell? ⟨w.heap.size+1,4,none⟩=some (.string (B flt.value)):=hc 4 _ rfl
 have b5:W.cell? ⟨w.heap.size+1,5,none⟩=some (.slice Ap flt.parts.length cp):=hc 5 _ rfl
 have b6:W.cell? ⟨w.heap.size+1,6,none⟩=some (.slice Ak flt.kids.length ck):=hc 6 _ rfl
 have b7:W.cell? ⟨w.heap.size+1,7,none⟩=some (.slice An names.length cn):=hc 7 _ rfl
 have b8:W.cell? ⟨w.heap.size+1,8,none⟩=some (.int .i64 limit):=hc 8 _ rfl
 clear hc hc1 hszW
 go_upto_region 3 with (go_at_call 103;refine (kM _ hbW).mono ?_;rintro e w1 ⟨rfl,hb1⟩)
 have hbw1:=hbW.trans (hb1.mono hbW.size)
 replace s0:=cell_later hb1 s0
 replace s1:=cell_later hb1 s1
 replace b0:=cell_later hb1 b0
 replace b1:=cell_later hb1 b1
 replace b2:=cell_later hb1 b2
 replace b3:=cell_later hb1 b3
 replace b4:=cell_later hb1 b4
 replace b5:=cell_later hb1 b5
 replace b6:=cell_later hb1 b6
 replace b7:=cell_later hb1 b7
 replace b8:=cell_later hb1 b8
 go_upto_region 6 with (go_at_call 96;refine (kB _ hbw1).mono ?_;rintro e w2 ⟨rfl,hb2⟩)
 have hbw2:=hbw1.trans (hb2.mono hbw1.size)
 replace s0:=cell_later hb2 s0
 replace s1:=cell_later hb2 s1
 replace b0:=cell_later hb2 b0
 replace b1:=cell_later hb2 b1
 replace b2:=cell_later hb2 b2
 replace b3:=cell_later hb2 b3
 replace b4:=cell_later hb2 b4
 replace b5:=cell_later hb2 b5
 replace b6:=cell_later hb2 b6
 replace b7:=cell_later hb2 b7
 replace b8:=cell_later hb2 b8
 have hSt:∀W':World,Below w2.heap.size w2 W'→(W'.cell? ⟨w.heap.size,0,none⟩=some (.slice A1 s.types.length c1)∧W'.cell? ⟨w.heap.size,1,none⟩=some (.slice A2 s.classes.length c2)∧W'.cell? ⟨w.heap.size+1,0,none⟩=some (.string (B base))∧W'.cell? ⟨w.heap.size+1,1,none⟩=some (.int .i64 scope)∧W'.cell? ⟨w.heap.size+1,2,none⟩=some (.int .i64 flt.kind)∧W'.cell? ⟨w.heap.size+1,3,none⟩=some (.string (B flt.name))∧W'.cell? ⟨w.heap.size+1,4,none⟩=some (.string (B flt.value))∧W'.cell? ⟨w.heap.size+1,5,none⟩=some (.slice Ap flt.parts.length cp)∧W'.cell? ⟨w.heap.size+1,6,none⟩=some (.slice Ak flt.kids.length ck)∧W'.cell? ⟨w.heap.size+1,7,none⟩=some (.slice An names.length cn)∧W'.cell? ⟨w.heap.size+1,8,none⟩=some (.int .i64 limit)∧Below w2.heap.size w2 W'):=fun W' h=>⟨cell_later h s0,cell_later h s1,cell_later h b0,cell_later h b1,cell_later h b2,cell_later h b3,cell_later h b4,cell_later h b5,cell_later h b6,cell_later h b7,cell_later h b8,h⟩
 have kS2:=fun W (hW:Below w2.heap.size w2 W)=>kS W (hbw2.trans (hW.mono hbw2.size))
 have kF2:=fun lv W (hW:Below w2.heap.size w2 W) hL=>(kF lv W (hbw2.trans (hW.mono hbw2.size)) hL).mono (R':=fun e w'=>RetQ w r e w'∧Below w2.heap.size w2 w') fun e w' h=>⟨h.up (hbw2.trans (hW.mono hbw2.size)),by obtain ⟨_,_,_,_,_,h4⟩:=h;exact hW.trans (h4.mono hW.size)⟩
 clear kB kM kS kF hT hI hE hbW hb2 hb1 hbw1
 go_region_held3 (fun W'=>W'.cell? ⟨w.heap.size,0,none⟩=some (.slice A1 s.types.length c1)∧W'.cell? ⟨w.heap.size,1,none⟩=some (.slice A2 s.classes.length c2)∧W'.cell? ⟨w.heap.size+1,0,none⟩=some (.string (B base))∧W'.cell? ⟨w.heap.size+1,1,none⟩=some (.int .i64 scope)∧W'.cell? ⟨w.heap.size+1,2,none⟩=some (.int .i64 flt.kind)∧W'.cell? ⟨w.heap.size+1,3,none⟩=some (.string (B flt.name))∧W'.cell? ⟨w.heap.size+1,4,none⟩=some (.string (B flt.value))∧W'.cell? ⟨w.heap.size+1,5,none⟩=some (.slice Ap flt.parts.length cp)∧W'.cell? ⟨w.heap.size+1,6,none⟩=some (.slice Ak flt.kids.length ck)∧W'.cell? ⟨w.heap.size+1,7,none⟩=some (.slice An names.length cn)∧W'.cell? ⟨w.heap.size+1,8,none⟩=some (.int .i64 limit)∧Below w2.heap.size w2 W')
  (first|(refine hSt _ ?_;repeat (first|with_reducible exact Below.refl _ _|with_reducible apply Below.drew|with_reducible exact hb6|with_reducible refine Below.on ?_ hb5)))
  (first
   |(go_at_call 97;refine (kF2 _ _ (by repeat (first|with_reducible exact Below.refl _ _|with_reducible apply Below.drew|with_reducible refine Below.on ?_ hb5)) (hL5 _ (by repeat (first|with_reducible exact Below.refl _ _|with_reducible apply Below.drew)))).mono ?_;rintro e w6 ⟨⟨v6,qs6,rfl,hrow6,hqs6,hbw6⟩,hb6⟩;obtain ⟨k6,c6,hsh6⟩:=own_shape hrow6.1;subst hsh6)
   |(go_at_call 104;refine (kS2 _ (by repeat (first|with_reducible exact Below.refl _ _|with_reducible apply Below.drew))).mono ?_;rintro e w5 ⟨k5,c5,qs5,rfl,hrow5,hps5,hb5⟩;have hL5:=fun V (hV:Below w5.heap.size w5 V)=>EntsV.mono (EntsV.keep (hrow5.ents hps5) hV) hV.size))
 go_wp2_with fail
 go_ret2
 exact ⟨_,qs6,rfl,hrow6,hqs6,hbw6⟩
theorem seExamd_any (sv0 : Value) (s : Idn.Sch) (hS : SchV w w.heap.size sv0 s) (hE : ∀ W, Below w.heap.size w W → Env W ∧ EnvU W) (hT : TrV w hs lo pt es mb g) (hG : GdT es) (hI : IxV w hs' lo' px sx ns ix ta cb eb vb gx ts G) (hGI : GdI sx ns ix) (hq : QryV w w.heap.size d v q) (hsm : QSm q) :
    Calls Tryz.prog 37 #[sv0,.pointer (some ⟨pt,0,none⟩),.pointer (some ⟨px,0,none⟩),v] w fun e w'=>e=.returned (.int .i64 (if qFirst es q≠0 then 0 else (qExam es q (ixCand sx (ns.map Idn.lower) ix q.flt)).length:Int))∧Below w.heap.size w w':=by
 have kM:=fun W (hW:Below w.heap.size w W)=>seMade_any (hI.keep hW)
 have kB:=fun W (hW:Below w.heap.size w W)=>seFirst_any (hT.keep hW) hG (hq.on hW) hsm
 have kS:=fun h0 W (hW:Below w.heap.size w W)=>seExam_any (hT.keep hW) hG (hI.keep hW) hGI (fun V hV=>hE V (hW.trans (hV.mono hW.size))) (hq.on hW) hsm h0
 obtain ⟨Ap,cp,Ak,ck,An,cn,rfl,_,_⟩:=hq.shape
 obtain ⟨sa,sb,rfl,hTy,hCl⟩:=hS
 obtain ⟨A1,c1,rfl,_⟩:=SlV.shape hTy
 obtain ⟨A2,c2,rfl,_⟩:=SlV.shape hCl
 obtain ⟨r,hr⟩:∃r:Int,r=(if qFirst es q≠0 then (0:Int)else ((qExam es q (ixCand sx (ns.map Idn.lower) ix q.flt)).length:Int)):=⟨_,rfl⟩
 rw[←hr]
 have HR:=Lib.hid hr
 generalize qExam es q (ixCand sx (ns.map Idn.lower) ix q.flt)=S at *
 generalize qFirst es q=f0 at *
 clear hr hTy hCl hq hT hI hE
 obtain ⟨base,scope,flt,names,limit⟩:=q
 dsimp only at *
 go_enter Tryz.func37,Tryz.ntmps37
 go_upto_region 1 with fail
 with_reducible refine gen2 (R:=fun W=>Code.wp Tryz.prog _ _ _ W) ?_
 intro W hbW hszW hc1 hc
 have b0:W.cell? ⟨w.heap.size+1,0,none⟩=some (.string (B base)):=hc 0 _ rfl
 have b1:W.cell? ⟨w.heap.size+1,1,none⟩=some (.int .i64 scope):=hc 1 _ rfl
 have b2:W.cell? ⟨w.heap.size+1,2,none⟩=some (.int .i64 flt.kind):=hc 2 _ rfl
 have b3:W.cell? ⟨w.heap.size+1,3,none⟩=some (.string (B flt.name)):=hc 3 _ rfl
 have b4:W.cell? ⟨w.heap.size+1,4,none⟩=some (.string (B flt.value)):=hc 4 _ rfl
 have b5:W.cell? ⟨w.heap.size+1,5,none⟩=some (.slice Ap flt.parts.length cp):=hc 5 _ rfl
 have b6:W.cell? ⟨w.heap.size+1,6,none⟩=some (.slice Ak flt.kids.length ck):=hc 6 _ rfl
 have b7:W.cell? ⟨w.heap.size+1,7,none⟩=some (.slice An names.length cn):=hc 7 _ rfl
 have b8:W.cell? ⟨w.heap.size+1,8,none⟩=some (.int .i64 limit):=hc 8 _ rfl
 clear hc hc1 hszW
 by_cases h0:f0=0
 ·subst h0
  have HF:Hid (r=S.length):=HR.out
  replace kS:=kS rfl
  clear HR
  go_upto_region 3 with (first
   | (go_at_call 103; refine (kM _ hbW).mono ?_; rintro e w1 ⟨rfl, hb1⟩
      replace b0:=cell_later hb1 b0
      replace b1:=cell_later hb1 b1
      replace b2:=cell_later hb1 b2
      replace b3:=cell_later hb1 b3
      replace b4:=cell_later hb1 b4
      replace b5:=cell_later hb1 b5
      replace b6:=cell_later hb1 b6
      replace b7:=cell_later hb1 b7
      replace b8:=cell_later hb1 b8)
   | (go_at_call 96; refine (kB _ (hbW.trans (hb1.mono hbW.size))).mono ?_; rintro e w2 ⟨rfl, hb2⟩
      replace b0:=cell_later hb2 b0
      replace b1:=cell_later hb2 b1
      replace b2:=cell_later hb2 b2
      replace b3:=cell_later hb2 b3
      replace b4:=cell_later hb2 b4
      replace b5:=cell_later hb2 b5
      replace b6:=cell_later hb2 b6
      replace b7:=cell_later hb2 b7
      replace b8:=cell_later hb2 b8))
  have hbw1:=hbW.trans (hb1.mono hbW.size)
  have hbw2:=hbw1.trans (hb2.mono hbw1.size)
  go_wp2_with (go_at_call 104;refine (kS _ hbw2).mono ?_;rintro e w3 ⟨k3,c3,qs3,rfl,_,_,hb3⟩)
  go_ret
  exact ⟨ret_int HF.out.symm,hbw2.trans (hb3.mono hbw2.size)⟩
 ·have HF:Hid (r=0):=by show _=_;rw[HR.out,if_pos h0]
  have hI0:(f0 !=0)=true:=by simpa using h0
  clear HR kS
  go_wp2_with (first
   | (go_at_call 103; refine (kM _ hbW).mono ?_; rintro e w1 ⟨rfl, hb1⟩
      replace b0:=cell_later hb1 b0
      replace b1:=cell_later hb1 b1
      replace b2:=cell_later hb1 b2
      replace b3:=cell_later hb1 b3
      replace b4:=cell_later hb1 b4
      replace b5:=cell_later hb1 b5
      replace b6:=cell_later hb1 b6
      replace b7:=cell_later hb1 b7
      replace b8:=cell_later hb1 b8)
   |(go_at_call 96;refine (kB _ (hbW.trans (hb1.mono hbW.size))).mono ?_;rintro e w2 ⟨rfl,hb2⟩))
  have hbw1:=hbW.trans (hb1.mono hbW.size)
  go_ret
  exact ⟨ret_int HF.out.symm,hbw1.trans (hb2.mono hbw1.size)⟩
end
end Go.Proofs.YtbkkchhimhlhcaaGreatDoor
/- law12: live. -/
namespace Go.Proofs.YtbkkchhimhlhcaaGreatDoor
open Go.RowKit Go.Sort
open Idn (L B Bs drop_L take_L size_L)
theorem live12_any (w:World) (hE:Env w) (hU:EnvU w):Calls Tryz.prog 22 #[] w fun e w'=>e=.returned (.bool true)∧Below w.heap.size w w':=by
 have hEv:∀W,Below w.heap.size w W→Env W∧EnvU W:=fun W hW=>⟨hE.keep hW,hU.keep hW⟩
 go_enter Tryz.func22,Tryz.ntmps22
 go_upto_region 2 with (go_at_call 79;refine (example12_any _).mono ?_;rintro e w1 ⟨v1,rfl,hD1,hb1⟩;obtain ⟨A1,c1,A2,c2,A3,c3,A4,c4,A5,c5,hsh,_,_,_,_⟩:=hD1.shape;subst hsh)
 with_reducible refine gen1 (R:=fun W=>Code.wp Tryz.prog _ _ _ W) ?_
 intro W hbW hszW hc _
 have b0:W.cell? ⟨w1.heap.size,0,none⟩=some (.slice A1 E12.dat.sch.types.length c1):=hc 0 _ rfl
 have b1:W.cell? ⟨w1.heap.size,1,none⟩=some (.slice A2 E12.dat.sch.classes.length c2):=hc 1 _ rfl
 have b2:W.cell? ⟨w1.heap.size,2,none⟩=some (.slice A3 E12.dat.roots.length c3):=hc 2 _ rfl
 have b3:W.cell? ⟨w1.heap.size,3,none⟩=some (.slice A4 E12.dat.ents.length c4):=hc 3 _ rfl
 have b4:W.cell? ⟨w1.heap.size,4,none⟩=some (.slice A5 E12.dat.idx.length c5):=hc 4 _ rfl
 clear hc hszW
 have hDW:=hD1.on hbW
 have hbw:=hb1.trans (hbW.mono hb1.size)
 have hP:=program12_any W hDW E12.dsm E12.ssm fun V hV=>hEv V (hbw.trans (hV.mono hbw.size))
 go_upto_region 3 with fail
 refine hP.mono ?_
 rintro e w2 ⟨hb2,⟨_,_,lo,pt,mb,g,px,rfl,hT,hG,hok⟩|⟨hbad,_⟩⟩
 case inr=>
  exact absurd ⟨show (trNew [E12.staffN]).1=0 by rw[E12.ev_tn],E12.ev_nw⟩ hbad
 have hes:addsE E12.dat.ents (trNew E12.dat.roots).2=E12.es:=by
  show addsE [(E12.annN,E12.annL),(E12.bobN,E12.bobL)] (trNew [E12.staffN]).2=_
  rw[E12.ev_tn,E12.ev_es]
 rw[hes]at hT hG hok
 rw[hes,E12.ev_ok]
 obtain ⟨hs,lo',ta,cb,eb,vb,gx,ts,G,hI,hGI⟩:=hok E12.ev_ok
 have hbw2:=hbw.trans (hb2.mono hbw.size)
 have hD2:=hDW.on hb2
 replace b0:=cell_later hb2 b0
 replace b1:=cell_later hb2 b1
 clear hP hok hes hD1 hDW b2 b3 b4 hb1 hbW hb2 hbw
 go_upto_region 7 with fail
 with_reducible refine gen2 (R:=fun W=>Code.wp Tryz.prog _ _ _ W) ?_
 intro X hbX hszX hc1 hc2
 have p0:X.cell? ⟨w2.heap.size,0,none⟩=some (.int .i64 1):=hc1 0 _ rfl
 have p1:X.cell? ⟨w2.heap.size,1,none⟩=some (.string ⟨#[]⟩):=hc1 1 _ rfl
 have p2:X.cell? ⟨w2.heap.size,2,none⟩=some (.string ⟨#[]⟩):=hc1 2 _ rfl
 have p3:X.cell? ⟨w2.heap.size,3,none⟩=some (.slice none 0 0):=hc1 3 _ rfl
 have p4:X.cell? ⟨w2.heap.size,4,none⟩=some (.slice none 0 0):=hc1 4 _ rfl
 have r0:X.cell? ⟨w2.heap.size+1,0,none⟩=some (.int .i64 4):=hc2 0 _ rfl
 have r1:X.cell? ⟨w2.heap.size+1,1,none⟩=some (.string ⟨#[99,110]⟩):=hc2 1 _ rfl
 have r2:X.cell? ⟨w2.heap.size+1,2,none⟩=some (.string ⟨#[65,110,110]⟩):=hc2 2 _ rfl
 have r3:X.cell? ⟨w2.heap.size+1,3,none⟩=some (.slice none 0 0):=hc2 3 _ rfl
 have r4:X.cell? ⟨w2.heap.size+1,4,none⟩=some (.slice none 0 0):=hc2 4 _ rfl
 clear hc1 hc2 hszX
 replace b0:=cell_later hbX b0
 replace b1:=cell_later hbX b1
 have hbwX:=hbw2.trans (hbX.mono hbw2.size)
 have hEX:∀V,Below X.heap.size X V→Env V∧EnvU V:=fun V hV=>hEv V (hbwX.trans (hV.mono hbwX.size))
 replace hT:=hT.keep hbX
 replace hI:=hI.keep hbX
 obtain ⟨_,_,_,_,_,hsh,hS2,_,_,_⟩:=hD2.on hbX
 obtain ⟨rfl,rfl⟩:Value.slice A1 E12.dat.sch.types.length c1=_∧Value.slice A2 E12.dat.sch.classes.length c2=_:=by injection hsh with h;simp at h;exact ⟨h.1,h.2.1⟩
 clear hsh hD2 hbX hbw2
 have kQ:=fun (V:World) (sc lim:Int)=>query12_any (w:=V) (d:=1) (v:=.agg #[.int .i64 1,.string ⟨#[]⟩,.string ⟨#[]⟩,.slice none 0 0,.slice none 0 0]) (f:=E12.fAll) ⟨_,_,rfl,SlV.nil _ _ _ _,SlV.nil _ _ _ _⟩ sc lim
 have kR:=fun (V:World) (sc lim:Int)=>query12_any (w:=V) (d:=1) (v:=.agg #[.int .i64 4,.string ⟨#[99,110]⟩,.string ⟨#[65,110,110]⟩,.slice none 0 0,.slice none 0 0]) (f:=E12.fAnn) ⟨_,_,rfl,SlV.nil _ _ _ _,SlV.nil _ _ _ _⟩ sc lim
 have hcd:ixCand E12.dat.sch (E12.dat.idx.map Idn.lower) E12.es E12.fAnn=([E12.annN],true):=by
  show ixCand E12.sch ([E8.cnN].map Idn.lower) E12.es E12.fAnn=_
  rw[E12.ev_idx,E12.ev_cd]
 have kS1:=fun Y (hY:Below X.heap.size X Y) V (hV:Below Y.heap.size Y V) vq (hq:QryV V V.heap.size 1 vq (E12.qry E12.fAll 3 5))=>(seScan_any _ E12.sch (SchV.mono (SchV.keep hS2 (Below.on hY hV)) (Below.on hY hV).size) E12.ssm (hEX V (Below.on hY hV)).1 (hEX V (Below.on hY hV)).2 (hT.keep (Below.on hY hV)) hG hq (E12.sm _ E12.fsAll 3 5)).mono (R':=fun e w'=>(∃g c,e=.returned (.tuple #[.slice (some ⟨g,0,none⟩) 3 c,.int .i64 0])∧w'.cell? ⟨g,0,none⟩=some (.string ⟨#[111,117,61,115,116,97,102,102]⟩))∧Below Y.heap.size Y w') fun e w' h=>by
  rw[E12.ev_s1]at h
  obtain ⟨g,c,a,ca,h1,h2,_,h4⟩:=RetQ.head h
  exact ⟨⟨g,c,h1,h2⟩,Below.on hV h4⟩
 have kS3:=fun Y (hY:Below X.heap.size X Y) V (hV:Below Y.heap.size Y V) vq (hq:QryV V V.heap.size 1 vq (E12.qry E12.fAll 2 1))=>(seScan_any _ E12.sch (SchV.mono (SchV.keep hS2 (Below.on hY hV)) (Below.on hY hV).size) E12.ssm (hEX V (Below.on hY hV)).1 (hEX V (Below.on hY hV)).2 (hT.keep (Below.on hY hV)) hG hq (E12.sm _ E12.fsAll 2 1)).mono (R':=fun e w'=>(∃k n c,e=.returned (.tuple #[.slice k n c,.int .i64 3]))∧Below Y.heap.size Y w') fun e w' h=>by
  rw[E12.ev_s3]at h
  obtain ⟨v,qs,h1,h2,_,h4⟩:=h
  obtain ⟨k,c,h5⟩:=own_shape h2.1
  exact ⟨⟨k,_,c,by rw[h1,h5]⟩,Below.on hV h4⟩
 have kR2:=fun Y (hY:Below X.heap.size X Y) V (hV:Below Y.heap.size Y V) vq (hq:QryV V V.heap.size 1 vq (E12.qry E12.fAnn 2 1))=>(seRun_any _ E12.sch (SchV.mono (SchV.keep hS2 (Below.on hY hV)) (Below.on hY hV).size) E12.ssm (fun U hU=>hEX U (Below.on (Below.on hY hV) hU)) (hT.keep (Below.on hY hV)) hG (hI.keep (Below.on hY hV)) hGI hq (E12.sm _ E12.fsAnn 2 1)).mono (R':=fun e w'=>(∃g c a ca,e=.returned (.tuple #[.slice (some ⟨g,0,none⟩) 1 c,.int .i64 0])∧w'.cell? ⟨g,0,none⟩=some (.string ⟨#[99,110,61,97,110,110,44,111,117,61,115,116,97,102,102]⟩)∧w'.cell? ⟨g,1,none⟩=some (.slice a 1 ca))∧Below Y.heap.size Y w') fun e w' h=>by
  rw[show (E12.qry E12.fAnn 2 1).flt=E12.fAnn from rfl,hcd,E12.ev_r2]at h
  obtain ⟨g,c,a,ca,h1,h2,h3,h4⟩:=RetQ.head h
  exact ⟨⟨g,c,a,ca,h1,h2,h3⟩,Below.on hV h4⟩
 have kX4:=fun Y (hY:Below X.heap.size X Y) V (hV:Below Y.heap.size Y V) vq (hq:QryV V V.heap.size 1 vq (E12.qry E12.fAnn 3 1))=>(seExamd_any _ E12.sch (SchV.mono (SchV.keep hS2 (Below.on hY hV)) (Below.on hY hV).size) (fun U hU=>hEX U (Below.on (Below.on hY hV) hU)) (hT.keep (Below.on hY hV)) hG (hI.keep (Below.on hY hV)) hGI hq (E12.sm _ E12.fsAnn 3 1)).mono (R':=fun e w'=>e=.returned (.int .i64 1)∧Below Y.heap.size Y w') fun e w' h=>by
  rw[show (E12.qry E12.fAnn 3 1).flt=E12.fAnn from rfl,hcd,E12.ev_x4]at h
  exact ⟨h.1,Below.on hV h.2⟩
 have hbX:Below X.heap.size X X:=Below.refl _ _
 have hsC:QSm (E12.qry E12.fAll 2 0):=E12.sm _ E12.fsAll 2 0
 clear hT hI hGI hG hS2 hcd hEX
 have hSt7:∀V:World,Below X.heap.size X V→(V.cell? ⟨w1.heap.size,0,none⟩=some (.slice A1 E12.dat.sch.types.length c1)∧V.cell? ⟨w1.heap.size,1,none⟩=some (.slice A2 E12.dat.sch.classes.length c2)∧V.cell? ⟨w2.heap.size,0,none⟩=some (.int .i64 1)∧V.cell? ⟨w2.heap.size,1,none⟩=some (.string ⟨#[]⟩)∧V.cell? ⟨w2.heap.size,2,none⟩=some (.string ⟨#[]⟩)∧V.cell? ⟨w2.heap.size,3,none⟩=some (.slice none 0 0)∧V.cell? ⟨w2.heap.size,4,none⟩=some (.slice none 0 0)∧Below X.heap.size X V):=fun V hV=>⟨cell_later hV b0,cell_later hV b1,cell_later hV p0,cell_later hV p1,cell_later hV p2,cell_later hV p3,cell_later hV p4,hV⟩
 have kf7:=kS1 X hbX
 go_region_held3 (fun W'=>W'.cell? ⟨w1.heap.size,0,none⟩=some (.slice A1 E12.dat.sch.types.length c1)∧W'.cell? ⟨w1.heap.size,1,none⟩=some (.slice A2 E12.dat.sch.classes.length c2)∧W'.cell? ⟨w2.heap.size,0,none⟩=some (.int .i64 1)∧W'.cell? ⟨w2.heap.size,1,none⟩=some (.string ⟨#[]⟩)∧W'.cell? ⟨w2.heap.size,2,none⟩=some (.string ⟨#[]⟩)∧W'.cell? ⟨w2.heap.size,3,none⟩=some (.slice none 0 0)∧W'.cell? ⟨w2.heap.size,4,none⟩=some (.slice none 0 0)∧Below X.heap.size X W')
  (first|(refine hSt7 _ ?_;repeat (first|with_reducible exact Below.refl _ _|with_reducible apply Below.drew|with_reducible exact hf7|with_reducible refine Below.on ?_ hq7b)))
  (first
   |(go_at_call 31;refine (kf7 _ (by repeat (first|with_reducible exact Below.refl _ _|with_reducible apply Below.drew|with_reducible refine Below.on ?_ hq7b)) _ (hq7.on (by repeat (first|with_reducible exact Below.refl _ _|with_reducible apply Below.drew)))).mono ?_;rintro e Y1 ⟨⟨g1,n1,rfl,s1⟩,hf7⟩)
   |(go_at_call 80;refine (kQ _ 3 5).mono ?_;rintro e u7 ⟨_,_,_,_,_,_,rfl,hq7,hq7b⟩))
 have hbY1:Below X.heap.size X Y1:=hbX.trans (hf7.mono hbX.size)
 replace b0:=cell_later hf7 b0
 replace b1:=cell_later hf7 b1
 replace p0:=cell_later hf7 p0
 replace p1:=cell_later hf7 p1
 replace p2:=cell_later hf7 p2
 replace p3:=cell_later hf7 p3
 replace p4:=cell_later hf7 p4
 replace r0:=cell_later hf7 r0
 replace r1:=cell_later hf7 r1
 replace r2:=cell_later hf7 r2
 replace r3:=cell_later hf7 r3
 replace r4:=cell_later hf7 r4
 clear hq7 hq7b kf7 hSt7 kS1
 go_upto_region 8 with fail
 have hSt8:∀V:World,Below Y1.heap.size Y1 V→(V.cell? ⟨w1.heap.size,0,none⟩=some (.slice A1 E12.dat.sch.types.length c1)∧V.cell? ⟨w1.heap.size,1,none⟩=some (.slice A2 E12.dat.sch.classes.length c2)∧V.cell? ⟨w2.heap.size+1,0,none⟩=some (.int .i64 4)∧V.cell? ⟨w2.heap.size+1,1,none⟩=some (.string ⟨#[99,110]⟩)∧V.cell? ⟨w2.heap.size+1,2,none⟩=some (.string ⟨#[65,110,110]⟩)∧V.cell? ⟨w2.heap.size+1,3,none⟩=some (.slice none 0 0)∧V.cell? ⟨w2.heap.size+1,4,none⟩=some (.slice none 0 0)∧Below Y1.heap.size Y1 V):=fun V hV=>⟨cell_later hV b0,cell_later hV b1,cell_later hV r0,cell_later hV r1,cell_later hV r2,cell_later hV r3,cell_later hV r4,hV⟩
 have kf8:=kR2 Y1 hbY1
 go_region_held3 (fun W'=>W'.cell? ⟨w1.heap.size,0,none⟩=some (.slice A1 E12.dat.sch.types.length c1)∧W'.cell? ⟨w1.heap.size,1,none⟩=some (.slice A2 E12.dat.sch.classes.length c2)∧W'.cell? ⟨w2.heap.size+1,0,none⟩=some (.int .i64 4)∧W'.cell? ⟨w2.heap.size+1,1,none⟩=some (.string ⟨#[99,110]⟩)∧W'.cell? ⟨w2.heap.size+1,2,none⟩=some (.string ⟨#[65,110,110]⟩)∧W'.cell? ⟨w2.heap.size+1,3,none⟩=some (.slice none 0 0)∧W'.cell? ⟨w2.heap.size+1,4,none⟩=some (.slice none 0 0)∧Below Y1.heap.size Y1 W')
  (first|(refine hSt8 _ ?_;repeat (first|with_reducible exact Below.refl _ _|with_reducible apply Below.drew|with_reducible exact hf8|with_reducible refine Below.on ?_ hq8b)))
  (first
   |(go_at_call 35;refine (kf8 _ (by repeat (first|with_reducible exact Below.refl _ _|with_reducible apply Below.drew|with_reducible refine Below.on ?_ hq8b)) _ (hq8.on (by repeat (first|with_reducible exact Below.refl _ _|with_reducible apply Below.drew)))).mono ?_;rintro e Y2 ⟨⟨g2,n2,a2,ca2,rfl,s2,s2b⟩,hf8⟩)
   |(go_at_call 80;refine (kR _ 2 1).mono ?_;rintro e u8 ⟨_,_,_,_,_,_,rfl,hq8,hq8b⟩))
 have hbY2:Below X.heap.size X Y2:=hbY1.trans (hf8.mono hbY1.size)
 replace b0:=cell_later hf8 b0
 replace b1:=cell_later hf8 b1
 replace p0:=cell_later hf8 p0
 replace p1:=cell_later hf8 p1
 replace p2:=cell_later hf8 p2
 replace p3:=cell_later hf8 p3
 replace p4:=cell_later hf8 p4
 replace r0:=cell_later hf8 r0
 replace r1:=cell_later hf8 r1
 replace r2:=cell_later hf8 r2
 replace r3:=cell_later hf8 r3
 replace r4:=cell_later hf8 r4
 replace s1:=cell_later hf8 s1
 clear hq8 hq8b kf8 hSt8 kR2
 go_upto_region 9 with fail
 have hSt9:∀V:World,Below Y2.heap.size Y2 V→(V.cell? ⟨w1.heap.size,0,none⟩=some (.slice A1 E12.dat.sch.types.length c1)∧V.cell? ⟨w1.heap.size,1,none⟩=some (.slice A2 E12.dat.sch.classes.length c2)∧V.cell? ⟨w2.heap.size,0,none⟩=some (.int .i64 1)∧V.cell? ⟨w2.heap.size,1,none⟩=some (.string ⟨#[]⟩)∧V.cell? ⟨w2.heap.size,2,none⟩=some (.string ⟨#[]⟩)∧V.cell? ⟨w2.heap.size,3,none⟩=some (.slice none 0 0)∧V.cell? ⟨w2.heap.size,4,none⟩=some (.slice none 0 0)∧Below Y2.heap.size Y2 V):=fun V hV=>⟨cell_later hV b0,cell_later hV b1,cell_later hV p0,cell_later hV p1,cell_later hV p2,cell_later hV p3,cell_later hV p4,hV⟩
 have kf9:=kS3 Y2 hbY2
 go_region_held3 (fun W'=>W'.cell? ⟨w1.heap.size,0,none⟩=some (.slice A1 E12.dat.sch.types.length c1)∧W'.cell? ⟨w1.heap.size,1,none⟩=some (.slice A2 E12.dat.sch.classes.length c2)∧W'.cell? ⟨w2.heap.size,0,none⟩=some (.int .i64 1)∧W'.cell? ⟨w2.heap.size,1,none⟩=some (.string ⟨#[]⟩)∧W'.cell? ⟨w2.heap.size,2,none⟩=some (.string ⟨#[]⟩)∧W'.cell? ⟨w2.heap.size,3,none⟩=some (.slice none 0 0)∧W'.cell? ⟨w2.heap.size,4,none⟩=some (.slice none 0 0)∧Below Y2.heap.size Y2 W')
  (first|(refine hSt9 _ ?_;repeat (first|with_reducible exact Below.refl _ _|with_reducible apply Below.drew|with_reducible exact hf9|with_reducible refine Below.on ?_ hq9b)))
  (first
   |(go_at_call 31;refine (kf9 _ (by repeat (first|with_reducible exact Below.refl _ _|with_reducible apply Below.drew|with_reducible refine Below.on ?_ hq9b)) _ (hq9.on (by repeat (first|with_reducible exact Below.refl _ _|with_reducible apply Below.drew)))).mono ?_;rintro e Y3 ⟨⟨k3,m3,n3,rfl⟩,hf9⟩)
   |(go_at_call 80;refine (kQ _ 2 1).mono ?_;rintro e u9 ⟨_,_,_,_,_,_,rfl,hq9,hq9b⟩))
 have hbY3:Below X.heap.size X Y3:=hbY2.trans (hf9.mono hbY2.size)
 replace b0:=cell_later hf9 b0
 replace b1:=cell_later hf9 b1
 replace p0:=cell_later hf9 p0
 replace p1:=cell_later hf9 p1
 replace p2:=cell_later hf9 p2
 replace p3:=cell_later hf9 p3
 replace p4:=cell_later hf9 p4
 replace r0:=cell_later hf9 r0
 replace r1:=cell_later hf9 r1
 replace r2:=cell_later hf9 r2
 replace r3:=cell_later hf9 r3
 replace r4:=cell_later hf9 r4
 replace s1:=cell_later hf9 s1
 replace s2:=cell_later hf9 s2
 replace s2b:=cell_later hf9 s2b
 clear hq9 hq9b kf9 hSt9 kS3
 go_upto_region 10 with fail
 have hSt10:∀V:World,Below Y3.heap.size Y3 V→(V.cell? ⟨w1.heap.size,0,none⟩=some (.slice A1 E12.dat.sch.types.length c1)∧V.cell? ⟨w1.heap.size,1,none⟩=some (.slice A2 E12.dat.sch.classes.length c2)∧V.cell? ⟨w2.heap.size+1,0,none⟩=some (.int .i64 4)∧V.cell? ⟨w2.heap.size+1,1,none⟩=some (.string ⟨#[99,110]⟩)∧V.cell? ⟨w2.heap.size+1,2,none⟩=some (.string ⟨#[65,110,110]⟩)∧V.cell? ⟨w2.heap.size+1,3,none⟩=some (.slice none 0 0)∧V.cell? ⟨w2.heap.size+1,4,none⟩=some (.slice none 0 0)∧Below Y3.heap.size Y3 V):=fun V hV=>⟨cell_later hV b0,cell_later hV b1,cell_later hV r0,cell_later hV r1,cell_later hV r2,cell_later hV r3,cell_later hV r4,hV⟩
 have kf10:=kX4 Y3 hbY3
 go_region_held3 (fun W'=>W'.cell? ⟨w1.heap.size,0,none⟩=some (.slice A1 E12.dat.sch.types.length c1)∧W'.cell? ⟨w1.heap.size,1,none⟩=some (.slice A2 E12.dat.sch.classes.length c2)∧W'.cell? ⟨w2.heap.size+1,0,none⟩=some (.int .i64 4)∧W'.cell? ⟨w2.heap.size+1,1,none⟩=some (.string ⟨#[99,110]⟩)∧W'.cell? ⟨w2.heap.size+1,2,none⟩=some (.string ⟨#[65,110,110]⟩)∧W'.cell? ⟨w2.heap.size+1,3,none⟩=some (.slice none 0 0)∧W'.cell? ⟨w2.heap.size+1,4,none⟩=some (.slice none 0 0)∧Below Y3.heap.size Y3 W')
  (first|(refine hSt10 _ ?_;repeat (first|with_reducible exact Below.refl _ _|with_reducible apply Below.drew|with_reducible exact hf10|with_reducible refine Below.on ?_ hq10b)))
  (first
   |(go_at_call 37;refine (kf10 _ (by repeat (first|with_reducible exact Below.refl _ _|with_reducible apply Below.drew|with_reducible refine Below.on ?_ hq10b)) _ (hq10.on (by repeat (first|with_reducible exact Below.refl _ _|with_reducible apply Below.drew)))).mono ?_;rintro e Y4 ⟨rfl,hf10⟩)
   |(go_at_call 80;refine (kR _ 3 1).mono ?_;rintro e u10 ⟨_,_,_,_,_,_,rfl,hq10,hq10b⟩))
 have hbY4:Below X.heap.size X Y4:=hbY3.trans (hf10.mono hbY3.size)
 replace p0:=cell_later hf10 p0
 replace p1:=cell_later hf10 p1
 replace p2:=cell_later hf10 p2
 replace p3:=cell_later hf10 p3
 replace p4:=cell_later hf10 p4
 replace s1:=cell_later hf10 s1
 replace s2:=cell_later hf10 s2
 replace s2b:=cell_later hf10 s2b
 clear hq10 hq10b kf10 hSt10 kX4 b0 b1 r0 r1 r2 r3 r4 kR
 go_upto_region 11 with fail
 have hfb:=hbwX.trans (hbY4.mono hbwX.size)
 go_wp2_with fail
 refine (kQ Y4 2 0).mono ?_
 rintro e z1 ⟨_,_,_,_,_,_,rfl,hz1,hc1⟩
 have kC:=seCheck_any hz1 hsC
 rw[show qChk ⟨E12.staffN,2,E12.fAll,[E12.CN],0⟩=27 from E12.ev_c5]at kC
 have hd1:=Below.on hfb hc1
 replace p0:=cell_later hc1 p0
 replace p1:=cell_later hc1 p1
 replace p2:=cell_later hc1 p2
 replace p3:=cell_later hc1 p3
 replace p4:=cell_later hc1 p4
 go_wp2_with fail
 refine kC.mono ?_
 rintro e z2 ⟨rfl,hc2⟩
 have hd2:=Below.on hd1 hc2
 replace p0:=cell_later hc2 p0
 replace p1:=cell_later hc2 p1
 replace p2:=cell_later hc2 p2
 replace p3:=cell_later hc2 p3
 replace p4:=cell_later hc2 p4
 clear kC hz1
 go_wp2_with fail
 refine (kQ z2 2 1).mono ?_
 rintro e z3 ⟨_,_,_,_,_,_,rfl,hz3,hc3⟩
 have kI:=seIn_any hz3 (by show E12.staffN.length≤_;decide) E12.annN (by decide)
 rw[show qIn ⟨E12.staffN,2,E12.fAll,[E12.CN],1⟩ E12.annN=true from E12.ev_i6]at kI
 have hd3:=Below.on hd2 hc3
 replace p0:=cell_later hc3 p0
 replace p1:=cell_later hc3 p1
 replace p2:=cell_later hc3 p2
 replace p3:=cell_later hc3 p3
 replace p4:=cell_later hc3 p4
 go_wp2_with fail
 refine kI.mono ?_
 rintro e z4 ⟨rfl,hc4⟩
 have hd4:=Below.on hd3 hc4
 replace p0:=cell_later hc4 p0
 replace p1:=cell_later hc4 p1
 replace p2:=cell_later hc4 p2
 replace p3:=cell_later hc4 p3
 replace p4:=cell_later hc4 p4
 clear kI hz3
 go_wp2_with fail
 refine (kQ z4 2 1).mono ?_
 rintro e z5 ⟨_,_,_,_,_,_,rfl,hz5,hc5⟩
 have kJ:=seIn_any hz5 (by show E12.staffN.length≤_;decide) E12.staffN (by decide)
 rw[show qIn ⟨E12.staffN,2,E12.fAll,[E12.CN],1⟩ E12.staffN=false from E12.ev_i7]at kJ
 have hd5:=Below.on hd4 hc5
 go_wp2_with fail
 refine kJ.mono ?_
 rintro e z6 ⟨rfl,hc6⟩
 go_wp2_with fail
 go_ret
 exact ⟨rfl,Below.on hd5 hc6⟩
end Go.Proofs.YtbkkchhimhlhcaaGreatDoor
/- law12: SearchChecks. -/
namespace Go.Proofs.YtbkkchhimhlhcaaGreatDoor
open Go.RowKit Go.Sort
open Idn (L B Bs drop_L take_L size_L)
theorem searchChecks_any (d : Nat) (v : Value) (q : Qry) (s : ByteArray) (w : World) (hq : QryV w w.heap.size d v q) (hfl : fLen q.flt) (hnl : q.names.length ≤ 9223372036854775807) (hss : s.size ≤ 9223372036854775807) (hE : Env w) (hU : EnvU w) :
  Calls Tryz.prog 4 #[v,.string s] w fun e w'=>e=.returned (.bool true)∧Below w.heap.size w w':=by
 have kG:=fun W (hW:Below w.heap.size w W)=>long12_any (hq.on hW) hfl hnl
 have kL:=fun W (hW:Below w.heap.size w W)=>live12_any W (hE.keep hW) (hU.keep hW)
 have k1:=fun (h:QLg q) W (hW:Below w.heap.size w W)=>seCheck_any (hq.on hW) h.sm
 have k2:=fun (h:QLg q) W (hW:Below w.heap.size w W)=>r12_Check_any (hq.on hW) h.sm
 have k3:=fun (h:QLg q) (hs:(L s).length≤1000000) W (hW:Below w.heap.size w W)=>seIn_any (hq.on hW) h.sm.base (L s) hs
 have k4:=fun (h:QLg q) (hs:(L s).length≤1000000) W (hW:Below w.heap.size w W)=>r12_In_any (hq.on hW) h.sm.base (L s) hs
 rw[Idn.B_L]at k3 k4
 obtain ⟨Ap,cp,Ak,ck,An,cn,rfl,_,_⟩:=hq.shape
 have hsz:=Idn.size_L s
 clear hq hfl
 generalize qChk q=ec at *
 generalize qIn q (L s)=bi at *
 obtain ⟨Pq,hPq⟩:∃Pq:Prop,Pq=QLg q:=⟨_,rfl⟩
 rw[←hPq]at k1 k2 k3 k4
 simp only[←hPq]at kG
 clear hPq
 obtain ⟨base,scope,flt,names,limit⟩:=q
 dsimp only at *
 go_enter Tryz.func4,Tryz.ntmps4
 go_upto_region 1 with fail
 with_reducible refine gen1 (R:=fun W=>Code.wp Tryz.prog _ _ _ W) ?_
 intro W hbW hszW hc _
 have b0:W.cell? ⟨w.heap.size,0,none⟩=some (.string (B base)):=hc 0 _ rfl
 have b1:W.cell? ⟨w.heap.size,1,none⟩=some (.int .i64 scope):=hc 1 _ rfl
 have b2:W.cell? ⟨w.heap.size,2,none⟩=some (.int .i64 flt.kind):=hc 2 _ rfl
 have b3:W.cell? ⟨w.heap.size,3,none⟩=some (.string (B flt.name)):=hc 3 _ rfl
 have b4:W.cell? ⟨w.heap.size,4,none⟩=some (.string (B flt.value)):=hc 4 _ rfl
 have b5:W.cell? ⟨w.heap.size,5,none⟩=some (.slice Ap flt.parts.length cp):=hc 5 _ rfl
 have b6:W.cell? ⟨w.heap.size,6,none⟩=some (.slice Ak flt.kids.length ck):=hc 6 _ rfl
 have b7:W.cell? ⟨w.heap.size,7,none⟩=some (.slice An names.length cn):=hc 7 _ rfl
 have b8:W.cell? ⟨w.heap.size,8,none⟩=some (.int .i64 limit):=hc 8 _ rfl
 clear hc hszW
 go_wp2_with fail
 refine (kG W hbW).mono ?_
 rintro e w1 ⟨r,rfl,hr,hb1⟩
 replace b0:=cell_later hb1 b0
 replace b1:=cell_later hb1 b1
 replace b2:=cell_later hb1 b2
 replace b3:=cell_later hb1 b3
 replace b4:=cell_later hb1 b4
 replace b5:=cell_later hb1 b5
 replace b6:=cell_later hb1 b6
 replace b7:=cell_later hb1 b7
 replace b8:=cell_later hb1 b8
 have hb:=hbW.trans (hb1.mono hbW.size)
 have HS:=Lib.hid hr
 clear kG hbW hb1 hr
 cases r
 case true=>
  clear k1 k2 k3 k4 HS b0 b1 b2 b3 b4 b5 b6 b7 b8
  go_wp2_with fail
  refine (kL w1 hb).mono ?_
  rintro e w2 ⟨rfl,hb2⟩
  go_wp2_with fail
  go_ret
  exact ⟨rfl,hb.trans (hb2.mono hb.size)⟩
 by_cases hs3:s.size≤300
 case neg=>
  have hI:(300:Int)<(s.size:Int):=by omega
  clear k1 k2 k3 k4 HS b0 b1 b2 b3 b4 b5 b6 b7 b8 hs3
  go_wp2_with fail
  refine (kL w1 hb).mono ?_
  rintro e w2 ⟨rfl,hb2⟩
  go_wp2_with fail
  go_ret
  exact ⟨rfl,hb.trans (hb2.mono hb.size)⟩
 have hI:¬(300:Int)<(s.size:Int):=by omega
 have hs:=HS.out rfl
 replace k1:=k1 hs
 replace k2:=k2 hs
 replace k3:=k3 hs (by omega)
 replace k4:=k4 hs (by omega)
 have t1:(ec==ec)=true:=beq_self_eq_true ec
 have t2:(bi==bi)=true:=beq_self_eq_true bi
 have i0:=cell_regrown b0
 have i1:=cell_regrown b1
 have i2:=cell_regrown b2
 have i3:=cell_regrown b3
 have i4:=cell_regrown b4
 have i5:=cell_regrown b5
 have i6:=cell_regrown b6
 have i7:=cell_regrown b7
 have i8:=cell_regrown b8
 have q1:=cq (W:=w1) fun V hV=>k1 V (hb.trans (hV.mono hb.size))
 have q2:=cq (W:=w1) fun V hV=>k2 V (hb.trans (hV.mono hb.size))
 have q3:=cq (W:=w1) fun V hV=>k3 V (hb.trans (hV.mono hb.size))
 have q4:=cq (W:=w1) fun V hV=>k4 V (hb.trans (hV.mono hb.size))
 have q5:=cq (W:=w1) fun V hV=>kL V (hb.trans (hV.mono hb.size))
 clear k1 k2 k3 k4 kL HS hs hE hU hs3 hsz
 go_wp2_with fail
 refine wp_region_quiet_below (by kernel_rfl) (by kernel_rfl) ?_
 repeat (first|go_big_quiet_step ((first|(go_at_call 23;exact q1 _ _)|(go_at_call 24;exact q2 _ _)|(go_at_call 25;exact q3 _ _)|(go_at_call 26;exact q4 _ _)|(go_at_call 22;exact q5 _ _)))|quiet_step ((first|(go_at_call 23;exact q1 _ _)|(go_at_call 24;exact q2 _ _)|(go_at_call 25;exact q3 _ _)|(go_at_call 26;exact q4 _ _)|(go_at_call 22;exact q5 _ _))))
 refine wpQuiet_nil ?_
 intro _ hw'
 obtain ⟨⟨dq,osq⟩,hw''⟩:=hw'
 subst hw''
 have hb4:=below_regrown w1 dq osq
 generalize grow (redrawn w1 dq) osq=W4 at hb4⊢
 have hb5:=hb.trans (hb4.mono hb.size)
 clear q1 q2 q3 q4 q5
 go_wp2_with fail
 go_ret
 exact ⟨rfl,hb5⟩
end Go.Proofs.YtbkkchhimhlhcaaGreatDoor
/- SearchChecks: the contract as the row asks it, the statement, the card. -/
namespace Go.Proofs.YtbkkchhimhlhcaaGreatDoor
open Go.RowKit Go.Sort Go.Shelf Go.ChangeShapes Go.WideShapes Go.ChangeAt Go.ChangeMaps
theorem laid_eqSC:Rows.searchChecksRow.laid=laidL:=by
 unfold laidL
 rw[←pow_eq,←acc_eq,←first_eq,←case_eq]
 rfl
theorem cSC_contract (F : Stop.Interp) (H : Type) (enc : TypeId × Value → H) (W : World) (base : Nat) (args : Array Value) (ds gs : List (DataW H)) (before : List MemPlace)
  (hval:∀(j:Nat) t v,Tryz.f4.params[j]?=some t→args[j]?=some v→Value.okWide Tryz.prog W .any base t v)
  (hW:DataW.Whole enc Tryz.prog Tryz.f4.params.toList Rows.searchChecksSpec.vars false W args.toList ds gs before) (hL:laidMet Tryz.prog laidL W) (hsh:W.ShapedOpen Tryz.prog) :
  Calls Tryz.prog 4 args W fun e W'=>∃v,e=.returned v∧((OpenSpec.ofChange Rows.searchChecksSpec).at F).post enc Tryz.prog Tryz.f4 false true false false W args v W':=by
 have hW':=hW
 obtain ⟨p,q,hA0,hV0,rfl,_,_⟩:=hW
 have hA:DataW.TrodAll enc Tryz.prog W 0 (fun _=>true) true Tryz.f4.params.toList args.toList ds p:=hA0
 rw[Tryz.params4]at hA hval
 obtain ⟨v0,v1,d0,d1,p0,p1,rfl,rfl,rfl,h0,h1⟩:=trodAll_two hA
 obtain ⟨rfl,rfl⟩:=trodVars_none hV0
 obtain ⟨n0,q0,hQ0,hf0,hn0⟩:=query_open (hval 0 55 v0 rfl rfl) h0
 obtain ⟨s1,rfl,_,_,hn1⟩:=open_string Tryz.underlying9 (hval 1 9 v1 rfl rfl) h1
 clear hA0 hV0 hval
 simp only[List.append_nil]at hW'
 have hlt:∀x∈p0++p1,x.block<W.heap.size:=fun x hx=>by simpa using hW'.lt x (by simpa using hx)
 obtain ⟨hE,hU⟩:=env_of hL hsh
 refine (searchChecks_any n0 v0 q0 s1 W hQ0 hf0 hn0 (by unfold maxLen at hn1;omega) hE hU).mono ?_
 rintro e W' ⟨rfl,bel⟩
 have e1:((OpenSpec.ofChange Rows.searchChecksSpec).at F).fn H ([d0,d1]++[])={ results:=[.lit (.bool true)],args:=[d0,d1] }:=rfl
 refine ⟨_,rfl,_,_,_,[],(p0++p1),[],hW',?_,?_,?_,bel.frame _,fun h=>by cases h⟩
 ·rw[e1];exact trodAll_mk1 (shut_bool Tryz.underlying4 _)
 ·rw[e1];exact trodAll_mk2 (Below.trod laidOut (by kernel_rfl) (of_decide_eq_true (by kernel_rfl)) h0 bel (fun x hx=>hlt x (List.mem_append_left _ hx))) (Below.trod laidOut (by kernel_rfl) (of_decide_eq_true (by kernel_rfl)) h1 bel (fun x hx=>hlt x (List.mem_append_right _ hx)))
 ·rw[e1];rfl
theorem noHandleSC {W:World} (h:laidMetH Tryz.prog Rows.searchChecksRow.laid W):laidMet Tryz.prog laidL W:=by
 have e:(Rows.searchChecksRow.laid.filter fun x=>x.2.handleName?.isSome)=[]:=by kernel_rfl
 unfold laidMetH at h
 rw[e]at h
 rw[←laid_eqSC]
 exact h
theorem laid_metSC (os:Os) (args:Array Value):laidMet Tryz.prog Rows.searchChecksRow.laid ((laidWorld os).forCall (fun _ _=>0) ⟨#[],args,[]⟩).memory:=by
 rw[laid_eqSC]
 exact laid_metW os args
theorem witness_rowSC (os : Os) {H : Type} (enc : TypeId × Value → H) :
  (OpenSpec.ofChange Rows.searchChecksSpec).preRow enc Tryz.prog Tryz.f4 Rows.searchChecksRow.domain false Rows.searchChecksRow.laid ((laidWorld os).forCall (fun _ _=>0) ⟨#[],#[.agg #[.string ⟨#[]⟩,.int .i64 0,.int .i64 0,.string ⟨#[]⟩,.string ⟨#[]⟩,.slice none 0 0,.slice none 0 0,.slice none 0 0,.int .i64 0],.string ⟨#[]⟩],[]⟩).memory #[.agg #[.string ⟨#[]⟩,.int .i64 0,.int .i64 0,.string ⟨#[]⟩,.string ⟨#[]⟩,.slice none 0 0,.slice none 0 0,.slice none 0 0,.int .i64 0],.string ⟨#[]⟩]:=by
 have hw : (DataW.whole enc Tryz.prog ((laidWorld os).forCall (fun _ _ => 0) ⟨#[], #[.agg #[.string ⟨#[]⟩, .int .i64 0, .int .i64 0, .string ⟨#[]⟩, .string ⟨#[]⟩, .slice none 0 0, .slice none 0 0, .slice none 0 0, .int .i64 0], .string ⟨#[]⟩], []⟩).memory Tryz.f4.params.toList (OpenSpec.ofChange Rows.searchChecksSpec).vars false #[Value.agg #[.string ⟨#[]⟩, .int .i64 0, .int .i64 0, .string ⟨#[]⟩, .string ⟨#[]⟩, .slice none 0 0, .slice none 0 0, .slice none 0 0, .int .i64 0], .string ⟨#[]⟩].toList 8).map (fun x => (x.1, x.2.1)) =
   some ([.agg [.lit (.string []),.lit (.int .i64 0),.agg [.lit (.int .i64 0),.lit (.string []),.lit (.string []),.nil,.nil],.nil,.lit (.int .i64 0)],.lit (.string [])],[]):=by kernel_rfl
 obtain ⟨⟨x1,x2,x3⟩,hx,hx1⟩:=Option.map_eq_some_iff.1 hw
 simp only[Prod.mk.injEq]at hx1
 obtain ⟨rfl,rfl⟩:=hx1
 exact OpenSpec.preRow_of_cond 8 hx (by kernel_rfl) (fun k hk=>by cases hk) (by kernel_rfl) (laid_metSC os _)
theorem liftedSC (os : Os) (started : os.Started) (H : Type) (enc : TypeId × Value → H) (F : Stop.Interp) :
  ReturnsInHanded {} Tryz.checked os 4 .any ((OpenSpec.ofChange Rows.searchChecksSpec).preRow enc Tryz.prog Tryz.f4 Rows.searchChecksRow.domain false Rows.searchChecksRow.laid) (((OpenSpec.ofChange Rows.searchChecksSpec).at F).post enc Tryz.prog Tryz.f4 false true false false):=by
 refine returnsInHanded_of_row (C:=Tryz.checked) (s:=(OpenSpec.ofChange Rows.searchChecksSpec)) own started (by kernel_rfl) Tryz.func4
  (witness_row_atRef (enc:=enc) (C:=Tryz.checked) false (laidWorld os) #[.agg #[.string ⟨#[]⟩,.int .i64 0,.int .i64 0,.string ⟨#[]⟩,.string ⟨#[]⟩,.slice none 0 0,.slice none 0 0,.slice none 0 0,.int .i64 0],.string ⟨#[]⟩] rfl (by kernel_rfl) (by kernel_rfl) (by kernel_rfl) (witness_rowSC os enc)) ?_
 intro W base args ds gs before hval hW _ _ _ hL hsh _
 exact cSC_contract F H enc W base args ds gs before hval hW (noHandleSC hL) hsh
end Go.Proofs.YtbkkchhimhlhcaaGreatDoor
/- SearchChecks: the statement. -/
namespace Go.Proofs.YtbkkchhimhlhcaaGreatDoor
open Go.RowKit Go.Sort Go.Shelf Go.ChangeShapes Go.WideShapes Go.ChangeAt Go.ChangeMaps
theorem closedSC:joinedFacts Tryz.pinned.checked.prog 4 Tryz.f4 (OpenSpec.ofChange Rows.searchChecksSpec).bare Rows.searchChecksRow=true:=by
 unfold joinedFacts
 simp only[Bool.and_eq_true]
 repeat' with_reducible apply And.intro
 all_goals (as_aux_lemma=>kernel_rfl)
theorem saidSC:Rows.SearchChecksSaid:=
 OpenClaim.holds_of_cond 4 Tryz.f4 rfl rfl rfl rfl rfl rfl rfl ⟨rfl,rfl,rfl,rfl,rfl⟩ rfl rfl rfl rfl rfl (by kernel_rfl) Tryz.func4 closedSC
  (of_decide_eq_true (by kernel_rfl)) (by unfold Func.isWrapper;first|(rw[if_pos (by decide +kernel)];kernel_rfl)|(rw[if_neg (by decide +kernel)];exact ⟨rfl,rfl⟩))
  (fun os started H enc _ F=>by rw[OpenClaim.pre_eq_preRow];exact liftedSC os started H enc F)
end Go.Proofs.YtbkkchhimhlhcaaGreatDoor
/- SearchChecks: the card. -/
namespace Go.Proofs.YtbkkchhimhlhcaaGreatDoor
open Go.RowKit Go.Sort Go.Shelf Go.ChangeShapes Go.WideShapes Go.ChangeAt Go.ChangeMaps
theorem plainSC (f : FuncId) (fn : Func) (hf : Tryz.pinned.checked.prog.funcNamed "identity/identitylaw12.SearchChecks" = some f) (hfn : Tryz.pinned.checked.prog.funcs[f]? = some fn) :
  true=Tryz.pinned.checked.prog.looks []∧∀(j:Nat) t,fn.params[j]?=some t→Tryz.pinned.checked.prog.wantsStandIn t=false:=by
 obtain rfl : f = 4 := Option.some.inj ((show Tryz.prog.funcNamed "identity/identitylaw12.SearchChecks" = some 4 by kernel_rfl).symm.trans hf) |>.symm
 obtain rfl:fn=Tryz.f4:=(Option.some.inj (Tryz.func4.symm.trans hfn)).symm
 refine ⟨by kernel_rfl,fun j t ht=>?_⟩
 rw[Tryz.params4]at ht
 have hm:=Array.mem_of_getElem? ht
 simp at hm
 rcases hm with rfl|rfl
 ·exact (show Tryz.prog.wantsStandIn 55=false by kernel_rfl)
 ·exact (show Tryz.prog.wantsStandIn 9=false by kernel_rfl)
theorem searchChecks_card:Rows.SearchChecksCardSaid:=
 Claim7.holds_tied_plain_at .later [] _ _ _ _ saidSC (fun _ h=>by cases h) (by kernel_rfl) (fun _ h=>by cases h) searchChecks_row_tie rfl ⟨rfl,rfl⟩ (by kernel_rfl) rfl plainSC (goesBy_no _ (by kernel_rfl))
#print axioms searchChecks_card
end Go.Proofs.YtbkkchhimhlhcaaGreatDoor
