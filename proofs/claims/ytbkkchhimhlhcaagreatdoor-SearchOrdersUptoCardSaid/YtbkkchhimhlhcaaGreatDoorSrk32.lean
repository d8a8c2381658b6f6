/- Part 32 of the proof that identitylaw12.SearchChecks returns true for every data that it may be called with: proof: the package variables hold what the program lays; nothing else is asked. -/
import Derived.Test.YtbkkchhimhlhcaaGreatDoorSrk30
import Derived.Test.YtbkkchhimhlhcaaGreatDoorSrk31
set_option linter.unusedVariables false
set_option linter.unusedSimpArgs false
set_option maxRecDepth 100000
set_option maxHeartbeats 16000000
/- The program's index in memory: its maps of values, its entries. -/
namespace Go.Proofs.YtbkkchhimhlhcaaGreatDoor
open Go.RowKit Go.Sort
open Idn (L B Bs)
def setF (p:Bs→Bool):Bs→Option Value:=fun n=>if p n then some (.bool true)else none
def mapO (g:Bs→Option Nat):Bs→Option Value:=fun v=>(g v).map fun b=>.map (some b)
def tsF (ts:List (Bs×Nat)):Bs→Option Value:=fun n=>(ts.find? fun t=>decide (t.1=n)).map fun t=>.map (some t.2)
structure VlV (w:World) (vb:Nat) (ts:List (Bs×Nat)) (G:Bs→Bs→Option Nat) (M:Bs→Bs→Bs→Bool):Prop where
 top:MapF w vb (tsF ts)
 blk:∀t∈ts,MapF w t.2 (mapO (G t.1))
 set:∀t∈ts,∀v b,G t.1 v=some b→MapF w b (setF (M t.1 v))∧∃n,M t.1 v n=true
 non:∀t∈ts,∀v,G t.1 v=none→∀n,M t.1 v n=false
 nam:(ts.map (·.1)).Nodup
 one:(ts.map (·.2)).Nodup
 vne:∀t∈ts,t.2≠vb
 gne:∀t∈ts,∀v b,G t.1 v=some b→b≠vb∧∀u∈ts,u.2≠b
 inj:∀t∈ts,∀u∈ts,∀v v' b,G t.1 v=some b→G u.1 v'=some b→t.1=u.1∧v=v'
def VlS (ts:List (Bs×Nat)) (G:Bs→Bs→Option Nat):Nat→Prop:=fun k=>(∃t∈ts,t.2=k)∨∃t∈ts,∃v,G t.1 v=some k
def updG (G:Bs→Bs→Option Nat) (t v:Bs) (o:Option Nat):Bs→Bs→Option Nat:=fun t' v'=>if t'=t∧v'=v then o else G t' v'
def updM (M:Bs→Bs→Bs→Bool) (t v n:Bs) (x:Bool):Bs→Bs→Bs→Bool:=fun t' v' n'=>if t'=t∧v'=v∧n'=n then x else M t' v' n'
section
variable {w w':World} {vb:Nat} {ts:List (Bs×Nat)} {G G':Bs→Bs→Option Nat} {M M':Bs→Bs→Bs→Bool}
theorem nodup_fst {l:List (Bs×Nat)} (h:(l.map (·.1)).Nodup) {a b:Bs×Nat} (ha:a∈l) (hb:b∈l) (e:a.1=b.1):a=b:=by
 induction l with
 |nil=>simp at ha
 |cons x l ih=>
  rw[List.map_cons,List.nodup_cons]at h
  rcases List.mem_cons.1 ha with rfl|ha'
  ·rcases List.mem_cons.1 hb with rfl|hb'
   ·rfl
   ·exact absurd (List.mem_map.2 ⟨b,hb',e.symm⟩) h.1
  ·rcases List.mem_cons.1 hb with rfl|hb'
   ·exact absurd (List.mem_map.2 ⟨a,ha',e⟩) h.1
   ·exact ih h.2 ha' hb'
theorem nodup_snd {l:List (Bs×Nat)} (h:(l.map (·.2)).Nodup) {a b:Bs×Nat} (ha:a∈l) (hb:b∈l) (e:a.2=b.2):a=b:=by
 induction l with
 |nil=>simp at ha
 |cons x l ih=>
  rw[List.map_cons,List.nodup_cons]at h
  rcases List.mem_cons.1 ha with rfl|ha'
  ·rcases List.mem_cons.1 hb with rfl|hb'
   ·rfl
   ·exact absurd (List.mem_map.2 ⟨b,hb',e.symm⟩) h.1
  ·rcases List.mem_cons.1 hb with rfl|hb'
   ·exact absurd (List.mem_map.2 ⟨a,ha',e⟩) h.1
   ·exact ih h.2 ha' hb'
theorem tsF_mem (h:(ts.map (·.1)).Nodup) {t:Bs×Nat} (ht:t∈ts):tsF ts t.1=some (.map (some t.2)):=by
 unfold tsF
 cases hf:ts.find? (fun u=>decide (u.1=t.1))with
 |none=>exact absurd (by simp) (List.find?_eq_none.1 hf t ht)
 |some u=>
  have e:u.1=t.1:=by simpa using List.find?_some hf
  rw[nodup_fst h (List.mem_of_find?_eq_some hf) ht e];rfl
theorem tsF_some {n:Bs} {v:Value} (h:tsF ts n=some v):∃t∈ts,t.1=n∧v=.map (some t.2):=by
 unfold tsF at h
 cases hf:ts.find? (fun u=>decide (u.1=n))with
 |none=>rw[hf]at h;cases h
 |some u=>
  rw[hf]at h
  injection h with h
  exact ⟨u,List.mem_of_find?_eq_some hf,by simpa using List.find?_some hf,h.symm⟩
theorem VlV.allMap (h:VlV w vb ts G M):AllMap w (VlS ts G):=by
 rintro k (⟨t,ht,rfl⟩|⟨t,ht,v,hv⟩)
 ·exact (h.blk t ht).isMap
 ·exact (h.set t ht v k hv).1.isMap
theorem VlV.lt (h:VlV w vb ts G M) {k:Nat} (hk:VlS ts G k):k<w.heap.size:=by
 obtain ⟨es,c,e⟩:=h.allMap k hk
 exact (Array.getElem?_eq_some_iff.1 e).1
theorem VlV.not_vb (h:VlV w vb ts G M):¬VlS ts G vb:=by
 rintro (⟨t,ht,e⟩|⟨t,ht,v,hv⟩)
 ·exact h.vne t ht e
 ·exact (h.gne t ht v vb hv).1 rfl
theorem VlV.congr (h:VlV w vb ts G M) (hM:∀t∈ts,∀v n,M' t.1 v n=M t.1 v n):VlV w vb ts G M':=by
 refine { h with set:=fun t ht v b hb=>?_,non:=fun t ht v hv n=>?_ }
 ·have e:M' t.1 v=M t.1 v:=funext fun n=>hM t ht v n
  rw[e]
  exact h.set t ht v b hb
 ·rw[hM t ht v n]
  exact h.non t ht v hv n
theorem VlV.mv {S:Nat→Prop} (h:VlV w vb ts G M) (hm:Mv S w w') (hv:¬S vb) (hS:∀k,S k→¬VlS ts G k):VlV w' vb ts G M:=
 { h with
  top:=h.top.mv hm hv
  blk:=fun t ht=>(h.blk t ht).mv hm fun e=>hS _ e (.inl ⟨t,ht,rfl⟩)
  set:=fun t ht v b hb=>⟨(h.set t ht v b hb).1.mv hm fun e=>hS _ e (.inr ⟨t,ht,v,hb⟩),(h.set t ht v b hb).2⟩ }
theorem VlV.keep (h:VlV w vb ts G M) (hb:Below w.heap.size w w'):VlV w' vb ts G M:=
 h.mv (S:=fun _=>False) (Mv.of_below hb _) (fun h=>h) fun _ h=>h.elim
theorem VlV.turn {S : Nat → Prop} (h : VlV w vb ts G M) {t : Bs × Nat} (ht : t ∈ ts) (v : Bs) (o : Option Nat) (n : Bs) (x : Bool) (hm : Mv S w w') (hS : ∀ k, S k → k = t.2 ∨ G t.1 v = some k)
  (hb:MapF w' t.2 (mapO (updG G t.1 v o t.1))) (ho:∀b,o=some b→MapF w' b (setF (updM M t.1 v n x t.1 v))∧(∃m,updM M t.1 v n x t.1 v m=true)∧(G t.1 v=some b∨w.heap.size≤b)) (hn:o=none→∀m,updM M t.1 v n x t.1 v m=false) :
  VlV w' vb ts (updG G t.1 v o) (updM M t.1 v n x):=by
 have hnv:¬S vb:=fun hk=>by
  rcases hS vb hk with e|e
  ·exact h.vne t ht e.symm
  ·exact (h.gne t ht v vb e).1 rfl
 have hfresh:∀b,o=some b→(b≠vb∧∀u∈ts,u.2≠b)∧∀u∈ts,∀v',G u.1 v'=some b→u.1=t.1∧v'=v:=fun b hb'=>by
  rcases (ho b hb').2.2 with e|e
  ·exact ⟨h.gne t ht v b e,fun u hu v' hv'=>h.inj u hu t ht v' v b hv' e⟩
  ·refine ⟨⟨fun e'=>?_,fun u hu e'=>?_⟩,fun u hu v' hv'=>?_⟩
   ·have:=h.top.lt;omega
   ·have:=(h.blk u hu).lt;omega
   ·have:=(h.set u hu v' b hv').1.lt;omega
 have hupd:∀{u:Bs×Nat} {v':Bs} {b:Nat},updG G t.1 v o u.1 v'=some b→(u.1=t.1∧v'=v∧o=some b)∨(¬(u.1=t.1∧v'=v)∧G u.1 v'=some b):=fun {u v' b} e=>by
  unfold updG at e
  by_cases hc:u.1=t.1∧v'=v
  ·rw[if_pos hc]at e;exact .inl ⟨hc.1,hc.2,e⟩
  ·rw[if_neg hc]at e;exact .inr ⟨hc,e⟩
 have hMo:∀{u:Bs×Nat} {v':Bs},¬(u.1=t.1∧v'=v)→updM M t.1 v n x u.1 v'=M u.1 v':=fun {u v'} hc=>funext fun m=>by
  unfold updM
  rw[if_neg fun h=>hc ⟨h.1,h.2.1⟩]
 refine { h with top:=h.top.mv hm hnv,blk:=fun u hu=>?_,set:=fun u hu v' b e=>?_,non:=fun u hu v' e m=>?_,gne:=fun u hu v' b e=>?_,inj:=fun u hu u' hu' v1 v2 b e1 e2=>?_ }
 ·by_cases hut:u=t
  ·rw[hut];exact hb
  ·have hne:u.1≠t.1:=fun e=>hut (nodup_fst h.nam hu ht e)
   have eG:updG G t.1 v o u.1=G u.1:=funext fun v'=>by
    unfold updG
    rw[if_neg fun h=>hne h.1]
   rw[eG]
   refine (h.blk u hu).mv hm fun hk=>?_
   rcases hS _ hk with e|e
   ·exact hut (nodup_snd h.one hu ht e)
   ·exact (h.gne t ht v _ e).2 u hu rfl
 ·rcases hupd e with ⟨e1,e2,e3⟩|⟨hc,e⟩
  ·rw[e1,e2]
   exact ⟨(ho b e3).1,(ho b e3).2.1⟩
  ·rw[hMo hc]
   refine ⟨(h.set u hu v' b e).1.mv hm fun hk=>?_,(h.set u hu v' b e).2⟩
   rcases hS _ hk with e'|e'
   ·exact (h.gne u hu v' b e).2 t ht e'.symm
   ·obtain ⟨h1,h2⟩:=h.inj u hu t ht v' v b e e'
    exact hc ⟨h1,h2⟩
 ·by_cases hc:u.1=t.1∧v'=v
  ·unfold updG at e
   rw[if_pos hc]at e
   rw[hc.1,hc.2]
   exact hn e m
  ·rw[hMo hc]
   unfold updG at e
   rw[if_neg hc]at e
   exact h.non u hu v' e m
 ·rcases hupd e with ⟨_,_,e3⟩|⟨_,e⟩
  ·exact (hfresh b e3).1
  ·exact h.gne u hu v' b e
 ·rcases hupd e1 with ⟨a1,a2,a3⟩|⟨a1,a2⟩
  ·rcases hupd e2 with ⟨b1,b2,b3⟩|⟨b1,b2⟩
   ·exact ⟨a1.trans b1.symm,a2.trans b2.symm⟩
   ·exact absurd ((hfresh b a3).2 u' hu' v2 b2) b1
  ·rcases hupd e2 with ⟨b1,b2,b3⟩|⟨b1,b2⟩
   ·exact absurd ((hfresh b b3).2 u hu v1 a2) a1
   ·exact h.inj u hu u' hu' v1 v2 b a2 b2
theorem VlS_upd {t v:Bs} {o:Option Nat} (ho:∀b,o=some b→G t v=some b∨w.heap.size≤b) (ht:∃u∈ts,u.1=t) {k:Nat} (hk:VlS ts (updG G t v o) k):VlS ts G k∨w.heap.size≤k:=by
 rcases hk with ⟨u,hu,e⟩|⟨u,hu,v',e⟩
 ·exact .inl (.inl ⟨u,hu,e⟩)
 ·unfold updG at e
  by_cases hc:u.1=t∧v'=v
  ·rw[if_pos hc]at e
   rcases ho k e with h|h
   ·exact .inl (.inr ⟨u,hu,v,by rw[hc.1];exact h⟩)
   ·exact .inr h
  ·rw[if_neg hc]at e
   exact .inl (.inr ⟨u,hu,v',e⟩)
end
theorem SlV.keepC {α:Type} {E:α→List Value→Prop} {w w':World} {hi size:Nat} {v:Value} {l:List α} (h:SlV E w hi size v l) (hc:∀b off u,b<hi→w.cell? ⟨b,off,none⟩=some u→w'.cell? ⟨b,off,none⟩=some u):SlV E w' hi size v l:=by
 obtain ⟨A,c,hv,hcc,h⟩:=h
 refine ⟨A,c,hv,hcc,fun hp=>?_⟩
 obtain ⟨b,off,hA,hbb,hx⟩:=h hp
 refine ⟨b,off,hA,hbb,fun i x hix=>?_⟩
 obtain ⟨cs,h1,h2,h3⟩:=hx i x hix
 exact ⟨cs,h1,h2,fun j u hu=>hc _ _ _ hbb (h3 j u hu)⟩
theorem SlV.imp {α:Type} {E E':α→List Value→Prop} {w:World} {hi size:Nat} {v:Value} {l:List α} (h:SlV E w hi size v l) (hE:∀x cs,E x cs→E' x cs):SlV E' w hi size v l:=by
 obtain ⟨A,c,hv,hcc,h⟩:=h
 refine ⟨A,c,hv,hcc,fun hp=>?_⟩
 obtain ⟨b,off,hA,hbb,hx⟩:=h hp
 refine ⟨b,off,hA,hbb,fun i x hix=>?_⟩
 obtain ⟨cs,h1,h2,h3⟩:=hx i x hix
 exact ⟨cs,h1,hE _ _ h2,h3⟩
theorem SchV.keepC {w w':World} {hi:Nat} {v:Value} {s:Idn.Sch} (h:SchV w hi v s) (hc:∀b off u,b<hi→w.cell? ⟨b,off,none⟩=some u→w'.cell? ⟨b,off,none⟩=some u):SchV w' hi v s:=by
 obtain ⟨a,b,h1,h2,h3⟩:=h
 exact ⟨a,b,h1,SlV.keepC h2 hc,SlV.imp (SlV.keepC h3 hc) fun x cs ⟨v,u,e,p,q⟩=>⟨v,u,e,SlV.keepC p hc,SlV.keepC q hc⟩⟩
theorem own_mv {S:Nat→Prop} {w w':World} {base:Nat} {e:TypeId} {size:Nat} {v:Value} {n:Nat} {xs:List Value} (h:w.ownsRow base e size v n xs) (hm:Mv S w w') (hS:∀k,S k→k<base∨∃es c,w.heap[k]?=some (.map es c)):w'.ownsRow base e size v n xs:=by
 refine ⟨h.1,?_⟩
 rcases h.2 with hn|⟨g,cap,cur,hv,hb,hgg,rest⟩
 ·exact .inl hn
 ·refine .inr ⟨g,cap,cur,hv,hb,(hm.block g (Array.getElem?_eq_some_iff.1 hgg).1 fun hk=>?_).trans hgg,rest⟩
  rcases hS g hk with h1|⟨es,c,h1⟩
  ·omega
  ·rw[h1]at hgg;cases hgg
theorem AttOwn.mv {S:Nat→Prop} {w w':World} {base:Nat} {v:Value} {ps:List (Idn.Att×Value)} (h:AttOwn w base v ps) (hm:Mv S w w') (hS:∀k,S k→k<base∨∃es c,w.heap[k]?=some (.map es c)):AttOwn w' base v ps:=
 ⟨own_mv h.1 hm hS,fun p hp=>own_mv (h.2.1 p hp) hm hS,h.2.2⟩
theorem own_lower {w:World} {base base':Nat} {e:TypeId} {size:Nat} {v:Value} {n:Nat} {xs:List Value} (h:w.ownsRow base e size v n xs) (hb:base'≤base):w.ownsRow base' e size v n xs:=by
 refine ⟨h.1,?_⟩
 rcases h.2 with hn|⟨g,cap,cur,hv,hbg,rest⟩
 ·exact .inl hn
 ·exact .inr ⟨g,cap,cur,hv,Nat.le_trans hb hbg,rest⟩
theorem AttOwn.lower {w:World} {base base':Nat} {v:Value} {ps:List (Idn.Att×Value)} (h:AttOwn w base v ps) (hb:base'≤base):AttOwn w base' v ps:=
 ⟨own_lower h.1 hb,fun p hp=>own_lower (h.2.1 p hp) hb,h.2.2⟩
def atB (s:Idn.Sch) (es:List IxE):Bs→Bs→Bs→Bool:=fun t v n=>es.any fun e=>e.1==n&&(nV s t e.2).contains v
def entF (es:List IxE) (g:Bs→Value):Bs→Option Value:=fun n=>if hasE es n then some (.agg #[sv n,g n])else none
def tyN (s:Idn.Sch) (n:Bs):Bs:=(tyLook (sound s) n).1.name
structure IxV (w:World) (hs lo px:Nat) (s:Idn.Sch) (ns:List Bs) (es:List IxE) (ta cb:Value) (eb vb:Nat) (g:Bs→Value) (ts:List (Bs×Nat)) (G:Bs→Bs→Option Nat):Prop where
 c0:w.cell? ⟨px,0,none⟩=some ta
 c1:w.cell? ⟨px,1,none⟩=some cb
 c2:w.cell? ⟨px,2,none⟩=some (.map (some eb))
 c3:w.cell? ⟨px,3,none⟩=some (.map (some vb))
 sch:SchV w hs (.agg #[ta,cb]) s
 ent:MapF w eb (entF es g)
 att:∀e∈es,∃ps,AttOwn w lo (g e.1) ps∧ps.map (·.1)=e.2
 vl:VlV w vb ts G (atB s es)
 tsn:ts.map (·.1)=ns.map (tyN s)
 ebv:eb≠vb
 ebs:¬VlS ts G eb
 hsz:hs≤w.heap.size
 hsp:hs≤px
 hse:hs≤eb
 hsv:hs≤vb
 hss:∀k,VlS ts G k→hs≤k
 loz:lo≤w.heap.size
def IxS (eb:Nat) (ts:List (Bs×Nat)) (G:Bs→Bs→Option Nat):Nat→Prop:=fun k=>k=eb∨VlS ts G k
structure GdI (s:Idn.Sch) (ns:List Bs) (es:List IxE):Prop where
 ok:OkE es
 len:es.length≤256
 nam:∀e∈es,e.1.length≤1000000
 chk:∀e∈es,Idn.aCheck e.2=0
 srt:∀e∈es,Idn.rSorted e.2=e.2
 sch:Idn.sCheck s=0
 typ:∀n∈ns,(tyLook s n).2=true
 nod:(ns.map Idn.lower).Nodup
 sm:SSm s
section
variable {w w':World} {hs lo px:Nat} {s:Idn.Sch} {ns:List Bs} {es:List IxE} {ta cb:Value} {eb vb:Nat} {g:Bs→Value} {ts:List (Bs×Nat)} {G:Bs→Bs→Option Nat}
theorem IxV.allMap (h:IxV w hs lo px s ns es ta cb eb vb g ts G):AllMap w (IxS eb ts G):=by
 rintro k (rfl|hk)
 ·exact h.ent.isMap
 ·exact h.vl.allMap k hk
theorem IxV.mv {S:Nat→Prop} (h:IxV w hs lo px s ns es ta cb eb vb g ts G) (hm:Mv S w w') (hS:∀k,S k→k≠vb∧¬IxS eb ts G k∧((∃es c,w.heap[k]?=some (.map es c))∨(k≠px∧hs≤k∧k<lo))):IxV w' hs lo px s ns es ta cb eb vb g ts G:=by
 have hcell:∀b off u,(b<hs∨b=px)→w.cell? ⟨b,off,none⟩=some u→w'.cell? ⟨b,off,none⟩=some u:=fun b off u hb hc=>by
  have hlt:=World.block_lt_of_cell? _ _ hc
  have hn:¬S b:=fun hk=>by
   rcases (hS b hk).2.2 with ⟨es,c,e⟩|⟨e1,e2,e3⟩
   ·unfold World.cell? at hc
    rw[e]at hc
    cases hc
   ·rcases hb with hb|hb
    ·omega
    ·exact e1 hb
  exact (World.cell?_of_block (hm.block b hlt hn)).trans hc
 refine { h with
  c0:=hcell _ _ _ (.inr rfl) h.c0
  c1:=hcell _ _ _ (.inr rfl) h.c1
  c2:=hcell _ _ _ (.inr rfl) h.c2
  c3:=hcell _ _ _ (.inr rfl) h.c3
  sch:=h.sch.keepC fun b off u hb hc=>hcell b off u (.inl hb) hc
  ent:=h.ent.mv hm fun hk=>(hS _ hk).2.1 (.inl rfl)
  att:=fun e he=>?_
  vl:=h.vl.mv hm (fun hk=>(hS _ hk).1 rfl) fun k hk hv=>(hS k hk).2.1 (.inr hv)
  hsz:=Nat.le_trans h.hsz hm.size
  loz:=Nat.le_trans h.loz hm.size }
 obtain ⟨ps,h1,h2⟩:=h.att e he
 refine ⟨ps,h1.mv hm fun k hk=>?_,h2⟩
 rcases (hS k hk).2.2 with h3|⟨_,_,h3⟩
 ·exact .inr h3
 ·exact .inl h3
theorem IxV.keep (h:IxV w hs lo px s ns es ta cb eb vb g ts G) (hb:Below w.heap.size w w'):IxV w' hs lo px s ns es ta cb eb vb g ts G:=
 h.mv (S:=fun _=>False) (Mv.of_below hb _) fun _ h=>h.elim
end
end Go.Proofs.YtbkkchhimhlhcaaGreatDoor
/- Plain laws of the layer index: what its walks keep. -/
namespace Go.Proofs.YtbkkchhimhlhcaaGreatDoor
open Go.RowKit Go.Sort
open Idn (L B Bs)
theorem nV_cong {s:Idn.Sch} {a b:Bs} (h:Idn.lower a=Idn.lower b) (A:List Idn.Att):nV s a A=nV s b A:=by
 have h1:rGet A a=rGet A b:=by unfold rGet;rw[h]
 have h2:∀v,sNorm s a v=sNorm s b v:=fun v=>by unfold sNorm kNorm;rw[tyLook_cong h]
 unfold nV
 rw[h1]
 congr 1
 funext v
 rw[h2]
theorem atB_iff {s:Idn.Sch} {es:List IxE} {t v n:Bs}:atB s es t v n=true↔atV s es t v n:=by
 unfold atB atV
 rw[List.any_eq_true]
 constructor
 ·rintro ⟨⟨m,A⟩,he,h⟩
  rw[Bool.and_eq_true,beq_iff_eq,List.contains_iff_mem]at h
  obtain ⟨rfl,h2⟩:=h
  exact ⟨A,he,h2⟩
 ·rintro ⟨A,he,h⟩
  exact ⟨(n,A),he,by rw[Bool.and_eq_true,beq_iff_eq,List.contains_iff_mem];exact ⟨rfl,h⟩⟩
theorem bool_ext {a b:Bool} (h:a=true↔b=true):a=b:=by cases a<;>cases b<;>simp_all
theorem atB_ins {s : Idn.Sch} {es : List IxE} (h : OkE es) {n : Bs} (hn : validN n = true) {A : List Idn.Att} (hno : hasE es n = false) (t v m : Bs) :
  atB s (insE n A es) t v m=if m=n∧(nV s t A).contains v=true then true else atB s es t v m:=by
 refine bool_ext ?_
 rw[atB_iff,atV_ins h hn hno]
 by_cases hc:m=n∧(nV s t A).contains v=true
 ·rw[if_pos hc]
  exact ⟨fun _=>rfl,fun _=>.inr ⟨hc.1,by rw[←List.contains_iff_mem];exact hc.2⟩⟩
 ·rw[if_neg hc,atB_iff]
  constructor
  ·rintro (h1|⟨h1,h2⟩)
   ·exact h1
   ·exact absurd ⟨h1,by rw[List.contains_iff_mem];exact h2⟩ hc
  ·exact .inl
theorem atB_drop {s : Idn.Sch} {es : List IxE} (h : OkE es) {n : Bs} {A : List Idn.Att} (hA : (n, A) ∈ es) (t v m : Bs) :
  atB s (ixDrop es n) t v m=if m=n∧(nV s t A).contains v=true then false else atB s es t v m:=by
 refine bool_ext ?_
 rw[atB_iff,atV_drop]
 by_cases hc:m=n∧(nV s t A).contains v=true
 ·rw[if_pos hc]
  exact ⟨fun h=>absurd hc.1 h.2,fun h=>by cases h⟩
 ·rw[if_neg hc,atB_iff]
  refine ⟨fun h=>h.1,fun h1=>⟨h1,fun e=>hc ⟨e,?_⟩⟩⟩
  rw[e]at h1
  rw[List.contains_iff_mem]
  exact (atV_own h hA t v).1 h1
theorem hasE_ins {es:List IxE} (h:OkE es) {n:Bs} (hn:validN n=true) (A:List Idn.Att) (m:Bs):hasE (insE n A es) m=(decide (m=n)||hasE es m):=by
 refine bool_ext ?_
 rw[hasE_iff,Bool.or_eq_true,decide_eq_true_eq,hasE_iff]
 constructor
 ·rintro ⟨X,hX⟩
  rcases (insE_mem hn h _).1 hX with e|⟨h1,_⟩
  ·injection e with e1 _;exact .inl e1
  ·exact .inr ⟨X,h1⟩
 ·rintro (rfl|⟨X,hX⟩)
  ·exact ⟨A,(insE_mem hn h _).2 (.inl rfl)⟩
  ·by_cases e:m=n
   ·subst e;exact ⟨A,(insE_mem hn h _).2 (.inl rfl)⟩
   ·exact ⟨X,(insE_mem hn h _).2 (.inr ⟨hX,e⟩)⟩
theorem hasE_drop {es:List IxE} (n m:Bs):hasE (ixDrop es n) m=(decide (m≠n)&&hasE es m):=by
 refine bool_ext ?_
 rw[hasE_iff,Bool.and_eq_true,decide_eq_true_eq,hasE_iff]
 constructor
 ·rintro ⟨X,hX⟩
  obtain ⟨h1,h2⟩:=drop_mem.1 hX
  exact ⟨h2,X,h1⟩
 ·rintro ⟨h2,X,h1⟩
  exact ⟨X,drop_mem.2 ⟨h1,h2⟩⟩
theorem entF_ins {es : List IxE} (h : OkE es) {n : Bs} (hn : validN n = true) (A : List Idn.Att) (g : Bs → Value) (u : Value) :
  entF (insE n A es) (fun m=>if m=n then u else g m)=fun y=>if y=n then some (.agg #[sv n,u])else entF es g y:=by
 funext y
 unfold entF
 rw[hasE_ins h hn]
 by_cases e:y=n
 ·subst e;simp
 ·simp[e]
theorem entF_drop (es:List IxE) (n:Bs) (g:Bs→Value):entF (ixDrop es n) g=fun y=>if y=n then none else entF es g y:=by
 funext y
 unfold entF
 rw[hasE_drop]
 by_cases e:y=n
 ·subst e;simp
 ·simp[e]
theorem entF_ne {es:List IxE} {g:Bs→Value} {y:Bs}:entF es g y≠none↔hasE es y=true:=by
 unfold entF
 cases hasE es y<;>simp
theorem names_nodup {es:List IxE} (h:OkE es):(namesE es).Nodup:=by
 have h1:=h.srtN
 have h2:=h.valN
 unfold srtN at h1
 exact (h1.imp_of_mem fun {a b} ha _ hlt e=>by
  subst e
  rw[nm_irr (h2 a ha)]at hlt
  omega)
theorem mem_names {es:List IxE} {n:Bs}:n∈namesE es↔hasE es n=true:=by
 rw[hasE_iff]
 unfold namesE
 rw[List.mem_map]
 exact ⟨fun ⟨⟨m,A⟩,h,e⟩=>⟨A,by rw[←e];exact h⟩,fun ⟨A,h⟩=>⟨(n,A),h,rfl⟩⟩
theorem len_names {es:List IxE} (h:OkE es) {ks:List Bs} (hnd:ks.Nodup) (hk:∀x,x∈ks↔hasE es x=true):ks.length=es.length:=by
 have h1:=nodup_lenS hnd fun x hx=>mem_names.2 ((hk x).1 hx)
 have h2:=nodup_lenS (names_nodup h) fun x hx=>(hk x).2 (mem_names.1 hx)
 unfold namesE at h1 h2
 rw[List.length_map]at h1 h2
 omega
theorem sorted_is {es:List IxE} (h:OkE es) (p:IxE→Bool) {l:List Bs} (hs:srtN l) (hm:∀n,n∈l↔n∈(es.filter p).map (·.1)):l=(es.filter p).map (·.1):=
 (srtN_uniq (filter_ok h p).srtN hs (fun x hx=>(filter_ok h p).valN x hx) fun x=>(hm x).symm).symm
theorem tyN_lower {s:Idn.Sch} (hs:Idn.sCheck s=0) {a:Bs} (h:(tyLook s a).2=true):Idn.lower (tyN s a)=Idn.lower a:=by
 unfold tyN sound
 rw[if_pos hs]
 exact tyLook_name h
theorem tyLook_isName {s:Idn.Sch} (hs:Idn.sCheck s=0) {a:Bs} (h:(tyLook s a).2=true):Idn.name a=true:=by
 refine Idn.ixT_name (l:=s.types) (fun t ht=>((Idn.sCheck_ok hs).1 t ht).1) ?_
 unfold tyLook at h
 cases hi:Idn.ixT s.types a with
 |none=>rw[hi]at h;cases h
 |some k=>rfl
theorem look_idx {s:Idn.Sch} (hs:Idn.sCheck s=0) {ns:List Bs} (hn:∀n∈ns,(tyLook s n).2=true) (a:Bs):(tyN s a∈ns.map (tyN s))↔(ns.map Idn.lower).contains (Idn.lower a)=true:=by
 rw[List.contains_iff_mem,List.mem_map,List.mem_map]
 have hso:sound s=s:=by unfold sound;rw[if_pos hs]
 cases ha:(tyLook s a).2 with
 |true=>
  constructor
  ·rintro ⟨m,hm,e⟩
   unfold tyN at e
   rw[hso]at e
   exact ⟨m,hm,(same_type (hn m hm) ha).1 e⟩
  ·rintro ⟨m,hm,e⟩
   unfold tyN
   rw[hso]
   exact ⟨m,hm,(same_type (hn m hm) ha).2 e⟩
 |false=>
  constructor
  ·rintro ⟨m,hm,e⟩
   exfalso
   have h1:tyN s a=[]:=by
    unfold tyN
    rw[hso]
    unfold tyLook at ha⊢
    cases hi:Idn.ixT s.types a with
    |none=>rfl
    |some k=>
     rw[hi]at ha
     dsimp only at ha⊢
     cases ht:s.types[k]? with
     |none=>rfl
     |some t=>rw[ht]at ha;cases ha
   have h2:=tyN_lower hs (hn m hm)
   rw[e,h1]at h2
   have h3:=tyLook_isName hs (hn m hm)
   have h4:m=[]:=by
    have:=congrArg List.length h2
    simp only[Idn.lower,List.length_map]at this
    exact List.eq_nil_of_length_eq_zero this.symm
   subst h4
   cases h3
  ·rintro ⟨m,hm,e⟩
   rw[←tyLook_cong e,hn m hm]at ha
   cases ha
theorem GdI.drop {s:Idn.Sch} {ns:List Bs} {es:List IxE} (h:GdI s ns es) (n:Bs):GdI s ns (ixDrop es n):=
 { h with
  ok:=drop_ok h.ok n
  len:=Nat.le_trans (drop_len es n) h.len
  nam:=fun e he=>h.nam e (drop_mem.1 he).1
  chk:=fun e he=>h.chk e (drop_mem.1 he).1
  srt:=fun e he=>h.srt e (drop_mem.1 he).1 }
theorem GdI.ins {s:Idn.Sch} {ns:List Bs} {es:List IxE} (h:GdI s ns es) {n:Bs} {A:List Idn.Att} (hn:validN n=true) (hl:n.length≤1000000) (hA:Idn.aCheck A=0) (hlen:hasE es n=true∨es.length<256):GdI s ns (insE n (Idn.rSorted A) es):=by
 have hm:∀e,e∈insE n (Idn.rSorted A) es→e=(n,Idn.rSorted A)∨e∈es:=fun e he=>by
  rcases (insE_mem hn h.ok e).1 he with h1|⟨h1,_⟩
  ·exact .inl h1
  ·exact .inr h1
 refine { h with ok:=insE_ok hn h.ok,len:=?_,nam:=fun e he=>?_,chk:=fun e he=>?_,srt:=fun e he=>?_ }
 ·rw[insE_len hn h.ok]
  have:=h.len
  rcases hlen with h1|h1
  ·rw[if_pos h1];exact h.len
  ·split<;>omega
 ·rcases hm e he with rfl|h1
  ·exact hl
  ·exact h.nam e h1
 ·rcases hm e he with rfl|h1
  ·exact aCheck_sorted hA
  ·exact h.chk e h1
 ·rcases hm e he with rfl|h1
  ·exact rSorted_idem A
  ·exact h.srt e h1
theorem sNorm_clean {s:Idn.Sch} {t x:Bs} (h:(sNorm s t x).2=0):Idn.clean (sNorm s t x).1=true:=by
 unfold sNorm at *
 dsimp only at *
 unfold kNorm at *
 by_cases c1:(!(tyLook (sound s) t).2)=true
 ·rw[if_pos c1]at h;cases h
 ·rw[if_neg c1]at h⊢
  by_cases c2:(!(Idn.normV (tyLook (sound s) t).1.syn x).2)=true
  ·rw[if_pos c2]at h;cases h
  ·rw[if_neg c2]
   have c3:(Idn.normV (tyLook (sound s) t).1.syn x).2=true:=by simpa using c2
   exact (normV_parts (Prod.ext rfl c3)).2
theorem nV_clean {s:Idn.Sch} {t v:Bs} {A:List Idn.Att} (h:v∈nV s t A):Idn.clean v=true:=by
 obtain ⟨x,_,hx⟩:=List.mem_filterMap.1 h
 split at hx
 ·rename_i h0
  injection hx with hx
  rw[←hx]
  exact sNorm_clean h0
 ·cases hx
theorem nV_len {s:Idn.Sch} {t v:Bs} {A:List Idn.Att} (h:v∈nV s t A):v.length≤256:=clean_len (nV_clean h)
theorem atB_len {s:Idn.Sch} {es:List IxE} {t v n:Bs} (h:atB s es t v n=true):v.length≤256:=by
 obtain ⟨A,_,h2⟩:=atB_iff.1 h
 exact nV_len h2
theorem any_step (ks:List Bs) (left Q:Bs→Bool) {x:Bs} (hx:x∈ks):(ks.any fun v=>!(left v&&!decide (v=x))&&Q v)=((ks.any fun v=>!left v&&Q v)||Q x):=by
 refine bool_ext ?_
 rw[Bool.or_eq_true,List.any_eq_true,List.any_eq_true]
 constructor
 ·rintro ⟨v,hv,h⟩
  by_cases e:v=x
  ·subst e
   rw[Bool.and_eq_true]at h
   exact .inr h.2
  ·refine .inl ⟨v,hv,?_⟩
   simpa[e]using h
 ·rintro (⟨v,hv,h⟩|h)
  ·refine ⟨v,hv,?_⟩
   rw[Bool.and_eq_true]at h⊢
   refine ⟨?_,h.2⟩
   cases hl:left v
   ·rfl
   ·rw[hl]at h;simp at h
  ·exact ⟨x,hx,by simp[h]⟩
end Go.Proofs.YtbkkchhimhlhcaaGreatDoor
/- Rows of entries while maps turn. -/
namespace Go.Proofs.YtbkkchhimhlhcaaGreatDoor
open Go.RowKit Go.Sort
theorem EntRow.mvM {S:Nat→Prop} {w w':World} {base:Nat} {v:Value} {qs:List (EntP×Value)} (h:EntRow w base v qs) (hm:Mv S w w') (hS:∀k,S k→k<base∨∃es c,w.heap[k]?=some (.map es c)):EntRow w' base v qs:=
 ⟨own_mv h.1 hm hS,fun q hq=>by obtain ⟨ps,h1,h2⟩:=h.2 q hq;exact ⟨ps,⟨own_mv h1.1 hm hS,fun p hp=>own_mv (h1.2 p hp) hm hS⟩,h2⟩⟩
end Go.Proofs.YtbkkchhimhlhcaaGreatDoor
