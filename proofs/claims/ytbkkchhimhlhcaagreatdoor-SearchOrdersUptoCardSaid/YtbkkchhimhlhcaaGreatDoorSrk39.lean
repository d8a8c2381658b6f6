/- Part 39 of the proof that identitylaw12.SearchChecks returns true for every data that it may be called with: proof: the package variables hold what the program lays; nothing else is asked. -/
import Derived.Test.YtbkkchhimhlhcaaGreatDoorSrk38
set_option linter.unusedVariables false
set_option linter.unusedSimpArgs false
set_option maxRecDepth 100000
set_option maxHeartbeats 16000000
/- The program's index: New. -/
namespace Go.Proofs.YtbkkchhimhlhcaaGreatDoor
open Go.RowKit Go.Sort
open Idn (L B Bs drop_L take_L size_L)
def nwE (s:Idn.Sch) (ns:List Bs):Int:=if Idn.sCheck s=0 then (ixNew s ns []).1 else Idn.sCheck s
theorem ixNew_zero {s:Idn.Sch}:∀{ns acc:List Bs},(ixNew s ns acc).1=0→acc.Nodup→(∀n∈ns,(tyLook (sound s) n).2=true)∧(acc++ns.map Idn.lower).Nodup
 |[],acc,_,h=>⟨by simp,by simpa using h⟩
 |n :: l,acc,h,hn=>by
  rw[ixNew]at h
  by_cases c1:(!(tyLook (sound s) n).2)=true
  ·rw[if_pos c1]at h;cases h
  ·rw[if_neg c1]at h
   by_cases c2:acc.contains (Idn.lower n)=true
   ·rw[if_pos c2]at h;cases h
   ·rw[if_neg c2]at h
    have hnd:(acc++[Idn.lower n]).Nodup:=by
     rw[List.nodup_append]
     refine ⟨hn,by simp,fun a ha b hb e=>?_⟩
     simp at hb
     subst e hb
     exact c2 (List.contains_iff_mem.2 ha)
    obtain ⟨h1,h2⟩:=ixNew_zero h hnd
    refine ⟨fun m hm=>?_,by simpa using h2⟩
    rcases List.mem_cons.1 hm with rfl|hm
    ·simpa using c1
    ·exact h1 m hm
theorem nwE_zero {s:Idn.Sch} {ns:List Bs} (hsm:SSm s) (h:nwE s ns=0):GdI s ns []:=by
 unfold nwE at h
 by_cases c:Idn.sCheck s=0
 ·rw[if_pos c]at h
  obtain ⟨h1,h2⟩:=ixNew_zero h List.nodup_nil
  have hso:sound s=s:=by unfold sound;rw[if_pos c]
  rw[hso]at h1
  exact ⟨⟨List.Pairwise.nil,by simp⟩,by simp,by simp,by simp,by simp,c,h1,by simpa using h2,hsm⟩
 ·rw[if_neg c]at h;exact absurd h c
theorem tsF_add {ts:List (Bs×Nat)} {tn:Bs} {b:Nat} (h:tn∉ts.map (·.1)):(fun y=>if y=tn then some (Value.map (some b))else tsF ts y)=tsF (ts++[(tn,b)]):=by
 funext y
 unfold tsF
 rw[List.find?_append]
 by_cases e:y=tn
 ·subst e
  have h0:ts.find? (fun t=>decide (t.1=y))=none:=by
   rw[List.find?_eq_none]
   intro t ht
   simp only[decide_eq_true_eq]
   intro e
   exact h (List.mem_map.2 ⟨t,ht,e⟩)
  rw[h0]
  simp
 ·rw[if_neg e]
  cases hf:ts.find? (fun t=>decide (t.1=y))with
  |some u=>rfl
  |none=>
   have:¬tn=y:=fun h=>e h.symm
   simp[this]
theorem VlV.add {w w' : World} {vb b : Nat} {ts : List (Bs × Nat)} {tn : Bs} (h : VlV w vb ts (fun _ _ => none) (fun _ _ _ => false)) (hm : Mv (· = vb) w w') (hb : MapF w' b (fun _ => none)) (hf : w.heap.size ≤ b) (hn : tn ∉ ts.map (·.1))
  (htop:MapF w' vb (fun y=>if y=tn then some (.map (some b))else tsF ts y)):VlV w' vb (ts++[(tn,b)]) (fun _ _=>none) (fun _ _ _=>false):=by
 rw[tsF_add hn]at htop
 have hlt:=fun (t:Bs×Nat) (ht:t∈ts)=>(h.blk t ht).lt
 refine ⟨htop,fun t ht=>?_,(by rintro t _ v b ⟨⟩),(fun _ _ _ _ _=>rfl),?_,?_,fun t ht=>?_,(by rintro t _ v b ⟨⟩),(by rintro t _ u _ v v' b ⟨⟩)⟩
 ·rcases List.mem_append.1 ht with ht|ht
  ·exact (h.blk t ht).mv hm (h.vne t ht)
  ·simp at ht
   subst ht
   exact hb
 ·rw[List.map_append,List.nodup_append]
  refine ⟨h.nam,by simp,fun x hx y hy e=>?_⟩
  simp at hy
  subst e hy
  exact hn hx
 ·rw[List.map_append,List.nodup_append]
  refine ⟨h.one,by simp,fun x hx y hy e=>?_⟩
  simp at hy
  subst e hy
  obtain ⟨t,ht,e⟩:=List.mem_map.1 hx
  have:=hlt t ht
  omega
 ·rcases List.mem_append.1 ht with ht|ht
  ·exact h.vne t ht
  ·simp at ht
   subst ht
   have:=h.top.lt
   dsimp only
   omega
theorem VlS_none {ts:List (Bs×Nat)} {k:Nat} (h:VlS ts (fun _ _=>none) k):∃t∈ts,t.2=k:=by
 rcases h with h|⟨_,_,_,h⟩
 ·exact h
 ·cases h
def RetNew (w:World) (s:Idn.Sch) (ns:List Bs) (r:Int) (e:Ending) (w':World):Prop:=
 Below w.heap.size w w'∧((r=0∧∃(px eb vb hs:Nat) (ta cb:Value) (ts:List (Bs×Nat)),e=.returned (.tuple #[.pointer (some ⟨px,0,none⟩),.int .i64 0])∧w.heap.size≤hs∧IxV w' hs hs px s ns [] ta cb eb vb (fun _=>.map none) ts (fun _ _=>none))∨(r≠0∧e=.returned (.tuple #[.pointer none,.int .i64 r])))
theorem ixNew_any (v nv : Value) (s : Idn.Sch) (ns : List Bs) (w : World) (hv : SchV w w.heap.size v s) (hsm : SSm s) (hTl : s.types.length ≤ 1000000) (hCl : s.classes.length ≤ 1000000) (hML : ∀ c ∈ s.classes, c.must.length ≤ 1000000000 ∧ c.may.length ≤ 1000000000)
    (hn:StrsV w w.heap.size nv ns) (hnl:ns.length≤1000000) (hnb:∀n∈ns,n.length≤1000000000) :
    Calls Tryz.prog 14 #[v,nv] w (RetNew w s ns (nwE s ns)):=by
 have kCk:=fun W (hW:Below w.heap.size w W)=>schCheck_any v s W (SchV.mono (SchV.keep hv hW) hW.size) hsm
 have kOw:=fun W (hW:Below w.heap.size w W)=>owned_any v s W (SchV.mono (SchV.keep hv hW) hW.size) hTl hCl hML
 have kTy:=fun (n:Bs) (hn:n∈ns) W (hW:Below w.heap.size w W)=>type_any v s (B n) W (SchV.mono (SchV.keep hv hW) hW.size) hsm (by rw[Idn.size_B];exact hnb n hn)
 simp only[Idn.L_B]at kTy
 obtain ⟨A0,cn,rfl,_⟩:=SlV.shape hn
 obtain ⟨sa,sb,rfl,hT,hC⟩:=hv
 obtain ⟨A1,c1,rfl,_⟩:=SlV.shape hT
 obtain ⟨A2,c2,rfl,_⟩:=SlV.shape hC
 have HR:Hid (nwE s ns=if Idn.sCheck s=0 then (ixNew s ns []).1 else Idn.sCheck s):=rfl
 generalize nwE s ns=r at *
 go_enter Tryz.func14,Tryz.ntmps14
 go_upto_region 1 with fail
 with_reducible refine gen1 (R:=fun W=>Code.wp Tryz.prog _ _ _ W) ?_
 intro W hbW hszW hc _
 have b0:W.cell? ⟨w.heap.size,0,none⟩=some (.slice A1 s.types.length c1):=hc 0 _ rfl
 have b1:W.cell? ⟨w.heap.size,1,none⟩=some (.slice A2 s.classes.length c2):=hc 1 _ rfl
 clear hc hszW
 go_upto_region 2 with (go_at_call 50;refine (kCk W hbW).mono ?_;rintro e w1 ⟨rfl,hb1⟩)
 replace b0:=cell_later hb1 b0
 replace b1:=cell_later hb1 b1
 have hbw1:=hbW.trans (hb1.mono hbW.size)
 by_cases hck:Idn.sCheck s=0
 case neg=>
  have hI:(Idn.sCheck s !=0)=true:=by simpa using hck
  have HF:Hid (r=Idn.sCheck s):=by show _=_;rw[HR.out,if_neg hck]
  have hr0:Hid (r≠0):=by show _≠_;rw[HF.out];exact hck
  generalize Idn.sCheck s=ck at *
  clear HR kCk kOw kTy hck
  go_wp2
  go_ret2
  exact ⟨hbw1,.inr ⟨hr0.out,by rw[HF.out];rfl⟩⟩
 have HR2:Hid (r=(ixNew s (ns.drop 0) []).1):=by show _=_;rw[HR.out,if_pos hck];rfl
 rw[hck]
 clear HR kCk
 have hmm:=@run_makeMap Tryz.prog
 replace kOw:=kOw w1 hbw1
 go_upto_region 4 with fail
 have hbO:=hbw1
 go_upto_region 5 with (go_at_call 51;refine kOw.mono ?_;rintro e w2 ⟨v2,rfl,hv2,hb2⟩;obtain ⟨ta,cb,hsh,hT2,hC2⟩:=hv2;subst hsh;obtain ⟨A3,c3,h3,_⟩:=SlV.shape hT2;subst h3;obtain ⟨A4,c4,h4,_⟩:=SlV.shape hC2;subst h4)
 have hbw2:=hbw1.trans (hb2.mono hbw1.size)
 replace b0:=cell_later hb2 b0
 replace b1:=cell_later hb2 b1
 have hs2:SchV w2 w2.heap.size (.agg #[.slice A3 s.types.length c3,.slice A4 s.classes.length c4]) s:=⟨_,_,rfl,hT2,hC2⟩
 have e1:(w2.alloc (.map #[] 0)).heap.size=w2.heap.size+1:=by simp
 have e2:((w2.alloc (.map #[] 0)).alloc (.map #[] 0)).heap.size=w2.heap.size+1+1:=by simp
 have m0:=MapF.made w2
 have m1:=MapF.made (w2.alloc (.map #[] 0))
 have a1:Below w2.heap.size w2 (w2.alloc (.map #[] 0)):=(Below.refl _ _).alloc (Nat.le_refl _) _
 have a2:Below (w2.alloc (.map #[] 0)).heap.size (w2.alloc (.map #[] 0)) ((w2.alloc (.map #[] 0)).alloc (.map #[] 0)):=(Below.refl _ _).alloc (Nat.le_refl _) _
 replace m0:=m0.keep a2
 replace a2:=a1.trans (a2.mono a1.size)
 rw[e1]at m1
 clear a1 hT2 hC2 e1
 generalize hZ:(w2.alloc (.map #[] 0)).alloc (.map #[] 0)=Z at *
 clear hZ
 with_reducible refine gen1 (R:=fun W=>Code.wp Tryz.prog _ _ _ W) ?_
 intro W3 hb3 hsz3 hc3 _
 rw[e2]at hc3 hsz3
 have d0:W3.cell? ⟨w2.heap.size+1+1,0,none⟩=some (.slice A3 s.types.length c3):=hc3 0 _ rfl
 have d1:W3.cell? ⟨w2.heap.size+1+1,1,none⟩=some (.slice A4 s.classes.length c4):=hc3 1 _ rfl
 have d2:W3.cell? ⟨w2.heap.size+1+1,2,none⟩=some (.map (some w2.heap.size)):=hc3 2 _ rfl
 have d3:W3.cell? ⟨w2.heap.size+1+1,3,none⟩=some (.map (some (w2.heap.size+1))):=hc3 3 _ rfl
 replace m0:=m0.keep hb3
 replace m1:=m1.keep hb3
 have hb23:=a2.trans (hb3.mono a2.size)
 have hbw3:=hbw2.trans (hb23.mono hbw2.size)
 replace b0:=cell_later hb23 b0
 replace b1:=cell_later hb23 b1
 have hs3:SchV W3 w2.heap.size (.agg #[.slice A3 s.types.length c3,.slice A4 s.classes.length c4]) s:=SchV.keep hs2 hb23
 have hzw:w.heap.size≤w2.heap.size:=hbw2.size
 clear hc3 a2 hb3 e2 hb2 hbO hs2 hb23 hbw2 hb1 kOw
 generalize w2.heap.size=hz at *
 have hV3:VlV W3 (hz+1) [] (fun _ _=>none) (fun _ _ _=>false):=⟨m1,by simp,by simp,by simp,by simp,by simp,by simp,by simp,by simp⟩
 have hall:AllMap W3 (·=hz+1):=fun k hk=>by have e:k=hz+1:=hk;rw[e];exact m1.isMap
 have hso:sound s=s:=by unfold sound;rw[if_pos hck]
 rw[hso]at kTy
 replace hck:=Lib.hid hck
 have hso':=Lib.hid hso
 clear hso
 go_wp2_with fail
 go_loopw [27] (fun i wr=>∃(k:Nat) (ts:List (Bs×Nat)),k≤ns.length∧i=.int .i64 k∧VlV wr (hz+1) ts (fun _ _=>none) (fun _ _ _=>false)∧Hid (ts.map (·.1)=(ns.take k).map (tyN s))∧(∀t∈ts,W3.heap.size≤t.2)∧Mv (·=hz+1) W3 wr∧Hid (r=(ixNew s (ns.drop k) ((ns.take k).map Idn.lower)).1)∧Hid (∀n∈ns.take k,(tyLook s n).2=true)) (fun i _=>ns.length-(intOf i).toNat)
 case atStart=>exact ⟨0,[],Nat.zero_le _,rfl,hV3,rfl,by simp,Mv.refl _ _,HR2,fun n hn=>by simp at hn⟩
 case round=>
  obtain ⟨k,ts,hk9,rfl,hV,hts,hfr,hmv,hinv,hty⟩:=hrel
  clear HR2 hV3
  by_cases hlt:k<ns.length
  ·obtain ⟨b,off,rfl,hbl,q0⟩:=StrsV.cell (SlV.keepC hn fun b off u _ hc=>hmv.cell hall (cell_later hbw3 hc)) hlt
   have hltI:(k:Int)<(ns.length:Int):=by omega
   have hbwr:Below w.heap.size w wr:=hbw3.trans (hmv.below (lo:=w.heap.size) (fun j hj=>by have e:j=hz+1:=hj;omega) hbw3.size)
   have hT:=kTy ns[k] (List.getElem_mem hlt) wr hbwr
   have hxl:=tyName_len hsm ns[k]
   rw[hso'.out]at hxl
   have p0:=hmv.cell hall b0
   have p1:=hmv.cell hall b1
   have p3:=hmv.cell hall d3
   have hstep:Hid (r=(if !(tyLook s ns[k]).2 then (6,[])else if ((ns.take k).map Idn.lower).contains (Idn.lower ns[k])then (7,[])else ixNew s (ns.drop (k+1)) ((ns.take k).map Idn.lower++[Idn.lower ns[k]])).1):=by
    show _=_
    rw[hinv.out,List.drop_eq_getElem_cons hlt,ixNew,hso'.out]
   have hty':(tyLook s ns[k]).2=true→Hid (∀n∈ns.take (k+1),(tyLook s n).2=true):=fun h n hn=>by
    rw[List.take_succ_eq_append_getElem hlt,List.mem_append,List.mem_singleton]at hn
    rcases hn with hn|rfl
    ·exact hty.out n hn
    ·exact h
   have htw:(tyLook s ns[k]).2=true→((tyLook s ns[k]).1.name∈ts.map (·.1)↔((ns.take k).map Idn.lower).contains (Idn.lower ns[k])=true):=fun h=>by
    rw[hts.out,←new_twice h _ hty.out,List.contains_iff_mem]
    unfold tyN
    rw[hso'.out]
   have htk:Hid ((ns.take (k+1)).map (tyN s)=(ns.take k).map (tyN s)++[(tyLook s ns[k]).1.name]):=by
    show _=_
    rw[List.take_succ_eq_append_getElem hlt,List.map_append]
    unfold tyN
    rw[hso'.out];rfl
   have hlw:Hid ((ns.take (k+1)).map Idn.lower=(ns.take k).map Idn.lower++[Idn.lower ns[k]]):=by
    show _=_
    rw[List.take_succ_eq_append_getElem hlt,List.map_append];rfl
   generalize Idn.lower ns[k]=lx at *
   generalize tyLook s ns[k]=tl at *
   obtain ⟨⟨tn,ty,tg⟩,tk⟩:=tl
   dsimp only at hxl hty' htw
   unfold tyV at hT
   simp only[sv]at hT
   generalize ns[k]=x at *
   clear hinv kTy
   go_wp2_with fail
   refine hT.mono ?_
   rintro e w5 ⟨rfl,hb5⟩
   clear hT
   go_upto_region 9 with fail
   with_reducible refine gen1 (R:=fun W=>Code.wp Tryz.prog _ _ _ W) ?_
   intro W6 hb6 hsz6 hc6 _
   have t0:W6.cell? ⟨w5.heap.size,0,none⟩=some (.string (B tn)):=hc6 0 _ rfl
   have hb56:=hb5.trans (hb6.mono hb5.size)
   have hV6:=hV.keep hb56
   replace p3:=cell_later hb56 p3
   have hmv6:=hmv.then_below hb56
   have hbw6:=hbwr.trans (hb56.mono hbwr.size)
   clear hc6 hsz6 p0 p1 q0 hb6 hb5 hV
   cases tk
   ·have HF:Hid (r=6):=hstep.out
    clear hstep hty' htw
    go_wp2
    go_ret2
    exact ⟨hbw6,.inr ⟨by rw[HF.out];decide,by rw[HF.out];rfl⟩⟩
   ·replace htw:=htw rfl
    replace hty':=hty' rfl
    have hst2:Hid (r=(if ((ns.take k).map Idn.lower).contains lx then (7,[])else ixNew s (ns.drop (k+1)) ((ns.take k).map Idn.lower++[lx])).1):=hstep.out
    clear hstep
    have hfo:=tsF_of ts tn
    have hom:=ofB_mem (ts:=ts) (n:=tn)
    have htnl:tn.length≤maxLen:=by unfold maxLen;omega
    have k0:W6.drew.cell? ⟨w5.heap.size,0,none⟩=some (.string (B tn)):=t0
    have k3:W6.drew.cell? ⟨hz+1+1,3,none⟩=some (.map (some (hz+1))):=p3
    have hVd:=hV6.keep (Below.refl _ W6).drew
    have hlk:(Instr.lookup 103 (.map (some (hz+1))) (.string (B tn)) true).run Tryz.prog W6.drew=.ok (.tuple #[.map (ofB ts tn),.bool (ofB ts tn).isSome]) W6.drew:=by
     have:=hVd.top.run_look Tryz.underlying103 (zeroByV _) htnl
     rwa[hfo.1,hfo.2]at this
    have hbwd:Below w.heap.size w W6.drew:=hbw6.drew
    have hmvd:Mv (·=hz+1) W3 W6.drew:=hmv6.then_below (Below.refl _ W6).drew
    clear hfo
    go_upto_region 11 with fail
    refine wp_still_drew (by kernel_rfl) (by kernel_rfl) ?_
    repeat still_step
    refine wpStill_nil ?_
    clear hlk t0 p3
    cases ho:(ofB ts tn).isSome with
    |true=>
     have hcn:((ns.take k).map Idn.lower).contains lx=true:=htw.1 (hom.1 ho)
     have HF:Hid (r=7):=by show _=_;rw[hst2.out,if_pos hcn]
     clear hst2 htw hom hcn hty' ho
     go_wp2
     go_ret2
     exact ⟨hbwd,.inr ⟨by rw[HF.out];decide,by rw[HF.out];rfl⟩⟩
    |false=>
     have hni:tn∉ts.map (·.1):=fun h=>by rw[hom.2 h]at ho;cases ho
     have hcn:¬((ns.take k).map Idn.lower).contains lx=true:=fun h=>hni (htw.2 h)
     have HF:Hid (r=(ixNew s (ns.drop (k+1)) ((ns.take k).map Idn.lower++[lx])).1):=by show _=_;rw[hst2.out,if_neg hcn]
     clear hst2 htw hom hcn hmv6
     generalize ofB ts tn=o at *
     generalize W6.drew=W7 at *
     go_upto_region 14 with fail
     have hallv:AllMap W7 (·=hz+1):=fun k hk=>by have e:k=hz+1:=hk;rw[e];exact hVd.top.isMap
     have hnl':(ts.map (·.1)).length≤1000000000:=by rw[hts.out,List.length_map,List.length_take];omega
     refine wp_region_held_drew (S:=fun W'=>Mv (·=hz+1) W7.drew W') (by kernel_rfl) (Mv.refl _ _) (fun hHeld=>?_)
     refine wpAnyH_take (i:=0) (oi:=⟨_,_,_,_,_,_⟩) (v:=?x1v) rfl (by kernel_rfl) (by kernel_rfl) (by kernel_rfl) (fun _ _ _ h=>h) (Or.inl ⟨by rfl,?x1h⟩) (by assumption) ?x1r
     rotate_left 1
     ·(intro w hSw;(try dsimp only at hSw);go_simp;(try with_reducible rfl))
     try simp only[Act.put,List.setIfInBounds_toArray,List.set_cons_zero,List.set_cons_succ]
     refine wpAnyH_take (i:=1) (oi:=⟨_,_,_,_,_,_⟩) (v:=?x2v) rfl (by kernel_rfl) (by kernel_rfl) (by kernel_rfl) (fun _ _ _ h=>h) (Or.inl ⟨by rfl,?x2h⟩) (by assumption) ?x2r
     rotate_left 1
     ·(intro w hSw;(try dsimp only at hSw);go_simp;(try with_reducible rfl))
     try simp only[Act.put,List.setIfInBounds_toArray,List.set_cons_zero,List.set_cons_succ]
     refine wpAnyH_take (i:=2) (oi:=⟨_,_,_,_,_,_⟩) (v:=?x3v) rfl (by kernel_rfl) (by kernel_rfl) (by kernel_rfl) (fun _ _ _ h=>h) (Or.inl ⟨by rfl,?x3h⟩) (by assumption) ?x3r
     rotate_left 1
     ·(intro w hSw;(try dsimp only at hSw);go_simp;(try with_reducible rfl))
     try simp only[Act.put,List.setIfInBounds_toArray,List.set_cons_zero,List.set_cons_succ]
     refine wpAnyH_take (i:=3) (oi:=⟨_,_,_,_,_,_⟩) (v:=?x4v) rfl (by kernel_rfl) (by kernel_rfl) (by kernel_rfl) (fun _ _ _ h=>h) (Or.inl ⟨by rfl,?x4h⟩) (by assumption) ?x4r
     rotate_left 1
     ·(intro w hSw;(try dsimp only at hSw);have f3:=hSw.cell hallv k3;go_simp;(try with_reducible rfl))
     try simp only[Act.put,List.setIfInBounds_toArray,List.set_cons_zero,List.set_cons_succ]
     refine wpAnyH_take (i:=4) (oi:=⟨_,_,_,_,_,_⟩) (v:=?x5v) rfl (by kernel_rfl) (by kernel_rfl) (by kernel_rfl) (fun _ _ _ h=>h) (Or.inl ⟨by rfl,?x5h⟩) (by assumption) ?x5r
     rotate_left 1
     ·(intro w hSw;(try dsimp only at hSw);go_simp;(try with_reducible rfl))
     try simp only[Act.put,List.setIfInBounds_toArray,List.set_cons_zero,List.set_cons_succ]
     refine wpAnyH_take (i:=5) (oi:=⟨_,_,_,_,_,_⟩) (v:=?x6v) rfl (by kernel_rfl) (by kernel_rfl) (by kernel_rfl) (fun _ _ _ h=>h) (Or.inl ⟨by rfl,?x6h⟩) (by assumption) ?x6r
     rotate_left 1
     ·(intro w hSw;(try dsimp only at hSw);have f0:=hSw.cell hallv k0;go_simp;(try with_reducible rfl))
     try simp only[Act.put,List.setIfInBounds_toArray,List.set_cons_zero,List.set_cons_succ]
     refine wpAnyH_ready (rs:=[6]) (by kernel_rfl) (by simp) ?_
     refine AllReadyH.cons (o:=⟨_,_,_,_,_,_⟩) rfl (fun K hK=>?_) AllReadyH.nil
     go_simp
     refine hK.out _ _ ?_ (fun hHeld=>?_)
     ·exact Mv.of_below ((Below.refl _ _).alloc (Nat.le_refl _) _) _
     clear hK K
     try simp only[Act.put,List.setIfInBounds_toArray,List.set_cons_zero,List.set_cons_succ]
     have hmade:MapF (W7.alloc (.map #[] 0)).drew W7.heap.size (fun _=>none):=(MapF.made W7).block rfl
     have hba7:Below W7.heap.size W7 (W7.alloc (.map #[] 0)).drew:=((Below.refl _ W7).alloc (Nat.le_refl _) _).drew
     obtain ⟨W9,hrun,hm9,hv9,_⟩:=MapF.run_put (w:=(W7.alloc (.map #[] 0)).drew) ((hVd.keep hba7).top) Tryz.underlying103 (l:=ts.map (·.1)) (fun y hy=>by
      cases e:tsF ts y with
      |none=>exact absurd e hy
      |some v=>
       obtain ⟨t,ht,rfl,_⟩:=tsF_some e
       exact List.mem_map.2 ⟨t,ht,rfl⟩) hnl' htnl (.map (some W7.heap.size))
     refine wpAnyH_ready (rs:=[7]) (by kernel_rfl) (by simp) ?_
     refine AllReadyH.cons (o:=⟨_,_,_,_,_,_⟩) rfl (fun K hK=>?_) AllReadyH.nil
     go_simp
     refine hK.out _ _ ?_ (fun hHeld=>?_)
     ·exact hHeld.trans hv9 fun j hj=>.inl hj
     clear hK K
     try simp only[Act.put,List.setIfInBounds_toArray,List.set_cons_zero,List.set_cons_succ]
     refine wpAnyH_done (by kernel_rfl) ?_ _
     have hsz7:(W7.alloc (.map #[] 0)).drew.heap.size=W7.heap.size+1:=by simp[World.drew]
     have hne7:¬(W7.heap.size=hz+1):=by have:=hVd.top.lt;omega
     have h79:Mv (·=hz+1) W7 W9:=(Mv.of_below hba7 _).trans hv9 fun j hj=>.inl hj
     have hV9:=hVd.add h79 (hmade.mv hv9 hne7) (Nat.le_refl _) hni hm9
     have hmv9:Mv (·=hz+1) W3 W9:=hmvd.trans h79 fun j hj=>.inl hj
     clear hrun hHeld hm9 hv9 hmade
     go_wp2_with fail
     go_roundw
     case rel=>
      refine ⟨k+1,ts++[(tn,W7.heap.size)],by omega,by go_num,hV9,?_,fun t ht=>?_,hmv9,?_,hty'⟩
      ·show _=_
       rw[htk.out,List.map_append,hts.out];rfl
      ·rcases List.mem_append.1 ht with ht|ht
       ·exact hfr t ht
       ·simp at ht
        subst ht
        exact hmvd.size
      ·show _=_
       rw[HF.out,hlw.out]
     case measure=>simp[intOf];omega
  ·have hltI:¬(k:Int)<(ns.length:Int):=by omega
   have hbwr:Below w.heap.size w wr:=hbw3.trans (hmv.below (lo:=w.heap.size) (fun j hj=>by have e:j=hz+1:=hj;omega) hbw3.size)
   have HF:Hid (r=0):=by show _=_;rw[hinv.out,List.drop_eq_nil_of_le (by omega)];rfl
   have htk:ts.map (·.1)=ns.map (tyN s):=by rw[hts.out,List.take_of_length_le (by omega)]
   have hblk:∀k,VlS ts (fun _ _=>none) k→W3.heap.size≤k:=fun k hk=>by
    obtain ⟨t,ht,rfl⟩:=VlS_none hk
    exact hfr t ht
   have hszr:=hmv.size
   have hI:IxV wr hz hz (hz+1+1) s ns [] (.slice A3 s.types.length c3) (.slice A4 s.classes.length c4) hz (hz+1) (fun _=>.map none) ts (fun _ _=>none):=
    { c0 := hmv.cell hall d0
      c1:=hmv.cell hall d1
      c2:=hmv.cell hall d2
      c3:=hmv.cell hall d3
      sch:=hs3.keepC fun b off u _ hc=>hmv.cell hall hc
      ent:=by
       have e:entF [] (fun _=>Value.map none)=fun _=>none:=rfl
       rw[e]
       exact m0.mv hmv (by omega)
      att:=by simp
      vl:=hV
      tsn:=htk
      ebv:=by omega
      ebs:=fun hk=>by have:=hblk _ hk;omega
      hsz:=by omega
      hsp:=by omega
      hse:=Nat.le_refl _
      hsv:=by omega
      hss:=fun k hk=>by have:=hblk k hk;omega
      loz:=by omega }
   clear hinv hts hty htk hblk hn hV hmv kTy
   go_wp2_with fail
   go_ret2
   exact ⟨hbwr,.inl ⟨HF.out,_,_,_,_,_,_,ts,rfl,hzw,hI⟩⟩
end Go.Proofs.YtbkkchhimhlhcaaGreatDoor
/- The program's index: all, some, Candidates. -/
namespace Go.Proofs.YtbkkchhimhlhcaaGreatDoor
open Go.RowKit Go.Sort
open Idn (L B Bs drop_L take_L size_L)
theorem cdE_len {es:List IxE} (h:OkE es) (hl:(namesE es).length≤1000000000) {l:List Bs} (hc:CdE es l):l.length≤1000000000:=by
 have h1:=hc.1
 have h2:=hc.2
 unfold srtN at h1
 have h3:l.Nodup:=h1.imp_of_mem fun {a b} ha _ hlt e=>by
  subst e
  rw[nm_irr (h.valN a (h2 a ha))]at hlt
  omega
 exact Nat.le_trans (nodup_lenS h3 h2) hl
theorem take_next {α:Type} {l:List α} {k:Nat} (h:k<l.length):l.take (k+1)=l.take k++[l[k]]:=by
 rw[List.take_succ_eq_append_getElem h]
theorem ixCands_map (s:Idn.Sch) (idx:List Bs) (es:List IxE):∀ks:List Flt,ixCands s idx es ks=ks.map (ixCand s idx es)
 |[]=>by rw[ixCands];rfl
 |f :: l=>by rw[ixCands,ixCands_map s idx es l];rfl
theorem ixCand_unf (s : Idn.Sch) (idx : List Bs) (es : List IxE) (f : Flt) : ixCand s idx es f = if f.kind = 4 then ixFind s idx es f.name f.value else if f.kind = 5 ∨ f.kind = 6 then ixBound s idx es f.kind f.name f.value else if f.kind = 7 then ixPres idx es f.name
  else if f.kind=1 then bestC (f.kids.map (ixCand s idx es)) ([],false)else if f.kind=2 then someC es (f.kids.map (ixCand s idx es))else ([],false):=by
 cases f
 rw[ixCand,ixCands_map]
 rfl
theorem bestC_step {C : Flt → List Bs × Bool} {l : List Flt} {k : Nat} (h : k < l.length) (b : List Bs × Bool) :
  bestC ((l.drop k).map C) b=bestC ((l.drop (k+1)).map C) (if (C l[k]).2&&(!b.2||decide ((C l[k]).1.length<b.1.length))then ((C l[k]).1,true)else b):=by
 rw[List.drop_eq_getElem_cons h,List.map_cons,bestC]
theorem ixAll_any (C : Flt → List Bs × Bool) (px d : Nat) (v : Value) (l : List Flt) (w : World) (hk : FltsV w w.heap.size d v l) (hl : l.length ≤ 1000)
  (hc:0<d→∀g∈l,∀W vg,Below w.heap.size w W→FltV W W.heap.size (d-1) vg g→Calls Tryz.prog 18 #[.pointer (some ⟨px,0,none⟩),vg] W (RetC W (C g))) :
  Calls Tryz.prog 70 #[.pointer (some ⟨px,0,none⟩),v] w (RetC w (bestC (l.map C) ([],false))):=by
 obtain ⟨A,c,rfl,_⟩:=SlV.shape hk
 obtain ⟨r,hr⟩:∃r,r=bestC (l.map C) ([],false):=⟨_,rfl⟩
 rw[←hr]
 have HF:Hid (r=bestC ((l.drop 0).map C) ([],false)):=hr
 clear hr
 go_enter Tryz.func70,Tryz.ntmps70
 go_wp2_with fail
 go_loopw [6,7,14] (fun bv sm i wr=>∃(k:Nat) (b:List Bs×Bool),k≤l.length∧i=.int .i64 k∧sm=.bool b.2∧wr.ownsRow w.heap.size 9 1 bv b.1.length (b.1.map sv)∧Below w.heap.size w wr∧Hid (r=bestC ((l.drop k).map C) b)) (fun _ _ i _=>l.length-(intOf i).toNat)
 case atStart=>exact ⟨0,([],false),Nat.zero_le _,rfl,rfl,World.ownsRow_nil _ _ _ _,Below.refl _ _,HF⟩
 case round=>
  obtain ⟨k,⟨bl,bt⟩,hk9,rfl,rfl,hown,hb,hinv⟩:=hrel
  clear HF
  obtain ⟨Ab,cb,hsh⟩:=own_shape hown
  dsimp only at hsh hown hinv
  subst hsh
  by_cases hlt:k<l.length
  ·obtain ⟨g,off,Ap',cp',Ak',ck',hA,hg,c0,c1,c2,c3,c4,hd,hkid⟩:=FltsV.kid2 (FltsV.keep hk hb) hlt
   subst hA
   have hltI:(k:Int)<(l.length:Int):=by omega
   have hmem:=List.getElem_mem hlt
   have HT:Hid (r=bestC ((l.drop (k+1)).map C) (if (C l[k]).2&&(!bt||decide ((C l[k]).1.length<bl.length))then ((C l[k]).1,true)else (bl,bt))):=by show _=_;rw[hinv.out,bestC_step hlt]
   clear hinv
   go_upto_region 6 with fail
   with_reducible refine gen1 (R:=fun W=>Code.wp Tryz.prog _ _ _ W) ?_
   intro W5 hbW5 hsz5 hc5 _
   have k0:W5.cell? ⟨wr.heap.size,0,none⟩=some (.int .i64 l[k].kind):=hc5 0 _ rfl
   have k1:W5.cell? ⟨wr.heap.size,1,none⟩=some (.string (B l[k].name)):=hc5 1 _ rfl
   have k2:W5.cell? ⟨wr.heap.size,2,none⟩=some (.string (B l[k].value)):=hc5 2 _ rfl
   have k3:W5.cell? ⟨wr.heap.size,3,none⟩=some (.slice Ap' l[k].parts.length cp'):=hc5 3 _ rfl
   have k4:W5.cell? ⟨wr.heap.size,4,none⟩=some (.slice Ak' l[k].kids.length ck'):=hc5 4 _ rfl
   have hb5:=hb.trans (hbW5.mono hb.size)
   have hcall:=hc hd l[k] hmem W5 _ hb5 (FltV.on (FltV.mono hkid hb.size) hbW5)
   have hown5:=own_below hown hbW5
   clear hc5 hsz5 hkid c0 c1 c2 c3 c4 hbW5 hc hk
   generalize C l[k]=cc at *
   obtain ⟨cl,ct⟩:=cc
   dsimp only at HT
   go_wp2_with fail
   refine hcall.mono ?_
   rintro e w6 ⟨u,rfl,hownu,hb6⟩
   obtain ⟨Au,cu,hsh⟩:=own_shape hownu
   dsimp only at hsh hownu
   subst hsh
   clear hcall k0 k1 k2 k3 k4
   have hown6:=own_below hown5 hb6
   have hb06:=hb5.trans (hb6.mono hb5.size)
   have hownu6:=own_lower hownu hb5.size
   clear hownu hown5 hown
   have hkeep:Hid (r=bestC ((l.drop (k+1)).map C) (bl,bt))∧(ct&&(!bt||decide (((cl.length:Nat):Int)<((bl.length:Nat):Int))))=false∨Hid (r=bestC ((l.drop (k+1)).map C) (cl,true))∧(ct&&(!bt||decide (((cl.length:Nat):Int)<((bl.length:Nat):Int))))=true:=by
    have e:decide (((cl.length:Nat):Int)<((bl.length:Nat):Int))=decide (cl.length<bl.length):=by simp
    rw[e]
    cases hx:(ct&&(!bt||decide (cl.length<bl.length)))with
    |false=>exact .inl ⟨by show _=_;rw[HT.out,hx];rfl,rfl⟩
    |true=>exact .inr ⟨by show _=_;rw[HT.out,hx];rfl,rfl⟩
   clear HT
   cases ct
   ·rcases hkeep with ⟨HV,_⟩|⟨_,h⟩
    ·go_wp2_with fail
     go_roundw
     case rel=>exact ⟨k+1,(bl,bt),by omega,by go_num,rfl,hown6,hb06,HV⟩
     case measure=>simp[intOf];omega
    ·cases h
   ·cases bt
    ·rcases hkeep with ⟨_,h⟩|⟨HV,_⟩
     ·cases h
     ·go_wp2_with fail
      go_roundw
      case rel=>exact ⟨k+1,(cl,true),by omega,by go_num,rfl,hownu6,hb06,HV⟩
      case measure=>simp[intOf];omega
    ·by_cases hl2:((cl.length:Nat):Int)<((bl.length:Nat):Int)
     ·rcases hkeep with ⟨_,h⟩|⟨HV,_⟩
      ·rw[decide_eq_true hl2]at h;cases h
      ·go_wp2_with fail
       go_roundw
       case rel=>exact ⟨k+1,(cl,true),by omega,by go_num,rfl,hownu6,hb06,HV⟩
       case measure=>simp[intOf];omega
     ·rcases hkeep with ⟨HV,_⟩|⟨_,h⟩
      ·go_wp2_with fail
       go_roundw
       case rel=>exact ⟨k+1,(bl,true),by omega,by go_num,rfl,hown6,hb06,HV⟩
       case measure=>simp[intOf];omega
      ·rw[decide_eq_false hl2]at h;cases h
  ·have hltI:¬(k:Int)<(l.length:Int):=by omega
   have HV:Hid (r=(bl,bt)):=by show _=_;rw[hinv.out,List.drop_eq_nil_of_le (by omega)];rfl
   clear hinv
   go_wp2_with fail
   go_ret2
   rw[HV.out]
   exact ⟨_,rfl,hown,hb⟩
theorem contains_next {l:List Bs} {j:Nat} (h:j<l.length) (n:Bs):(l.take (j+1)).contains n=(decide (n=l[j])||(l.take j).contains n):=by
 refine bool_ext ?_
 rw[Bool.or_eq_true,List.contains_iff_mem,List.contains_iff_mem,take_next h,List.mem_append,List.mem_singleton,decide_eq_true_eq]
 exact Or.comm
theorem any_next {C:Flt→List Bs×Bool} {l:List Flt} {k:Nat} (h:k<l.length) (n:Bs):((l.take (k+1)).any fun g=>(C g).1.contains n)=(((l.take k).any fun g=>(C g).1.contains n)||(C l[k]).1.contains n):=by
 rw[take_next h,List.any_append]
 simp
theorem ixSome_any (C : Flt → List Bs × Bool) (es : List IxE) (hok : OkE es) (hnl : (namesE es).length ≤ 1000000000) (hn6 : ∀ n ∈ namesE es, n.length ≤ 1000000) (px d : Nat) (v : Value) (l : List Flt) (w : World) (hk : FltsV w w.heap.size d v l) (hl : l.length ≤ 1000)
  (hC:∀g∈l,∀x∈(C g).1,x∈namesE es) (hCl:∀g∈l,(C g).1.length≤1000000000)
  (hc:0<d→∀g∈l,∀W vg,Below w.heap.size w W→FltV W W.heap.size (d-1) vg g→Calls Tryz.prog 18 #[.pointer (some ⟨px,0,none⟩),vg] W (RetC W (C g))) :
  Calls Tryz.prog 71 #[.pointer (some ⟨px,0,none⟩),v] w (RetC w (someC es (l.map C))):=by
 obtain ⟨A,c,rfl,_⟩:=SlV.shape hk
 obtain ⟨r,hr⟩:∃r,r=someC es (l.map C):=⟨_,rfl⟩
 rw[←hr]
 have HR:Hid (r=if l.all fun g=>(C g).2 then ((es.filter fun e=>l.any fun g=>(C g).1.contains e.1).map (·.1),true)else ([],false)):=by
  show _=_
  rw[hr]
  unfold someC
  rw[List.all_map,List.filter_map]
  simp only[List.any_map]
  rfl
 clear hr
 have hMn:∀(k:Nat) (m:Bs),((l.take k).any fun g=>(C g).1.contains m)=true→m∈namesE es:=fun k m h=>by
  rw[List.any_eq_true]at h
  obtain ⟨g,hg,h⟩:=h
  rw[List.contains_iff_mem]at h
  exact hC g (List.mem_of_mem_take hg) m h
 have hmm:=@run_makeMap Tryz.prog
 have hba:Below w.heap.size w (w.alloc (.map #[] 0)):=(Below.refl _ w).alloc (Nat.le_refl _) _
 have hm0:=MapF.made w
 have hsz2:(w.alloc (.map #[] 0)).heap.size=w.heap.size+1:=by simp
 go_enter Tryz.func71,Tryz.ntmps71
 go_upto_region 2 with fail
 generalize w.alloc (.map #[] 0)=W at *
 have hW1:w.heap.size<W.heap.size:=by omega
 clear hsz2
 go_wp2_with fail
 go_loopw [16] (fun i wr=>∃k:Nat,k≤l.length∧i=.int .i64 k∧MapF wr w.heap.size (setF fun n=>(l.take k).any fun g=>(C g).1.contains n)∧Below w.heap.size w wr∧Hid (∀g∈l.take k,(C g).2=true)) (fun i _=>l.length-(intOf i).toNat)
 case atStart=>
  refine ⟨0,Nat.zero_le _,rfl,?_,hba,fun g hg=>by simp at hg⟩
  rw[setF_none fun n=>by simp]
  exact hm0
 case round=>
  obtain ⟨k,hk9,rfl,hm,hb,hinv⟩:=hrel
  by_cases hlt:k<l.length
  ·obtain ⟨g,off,Ap',cp',Ak',ck',hA,hg,c0,c1,c2,c3,c4,hd,hkid⟩:=FltsV.kid2 (FltsV.keep hk hb) hlt
   subst hA
   have hltI:(k:Int)<(l.length:Int):=by omega
   have hmem:=List.getElem_mem hlt
   have hnx:=fun n=>any_next (C:=C) hlt n
   have hCk:=hC _ hmem
   have hcl:=hCl _ hmem
   have hmn:=hMn k
   go_upto_region 5 with fail
   with_reducible refine gen1 (R:=fun W=>Code.wp Tryz.prog _ _ _ W) ?_
   intro W5 hbW5 hsz5 hc5 _
   have k0:W5.cell? ⟨wr.heap.size,0,none⟩=some (.int .i64 l[k].kind):=hc5 0 _ rfl
   have k1:W5.cell? ⟨wr.heap.size,1,none⟩=some (.string (B l[k].name)):=hc5 1 _ rfl
   have k2:W5.cell? ⟨wr.heap.size,2,none⟩=some (.string (B l[k].value)):=hc5 2 _ rfl
   have k3:W5.cell? ⟨wr.heap.size,3,none⟩=some (.slice Ap' l[k].parts.length cp'):=hc5 3 _ rfl
   have k4:W5.cell? ⟨wr.heap.size,4,none⟩=some (.slice Ak' l[k].kids.length ck'):=hc5 4 _ rfl
   have hb5:=hb.trans (hbW5.mono hb.size)
   have hcall:=hc hd l[k] hmem W5 _ hb5 (FltV.on (FltV.mono hkid hb.size) hbW5)
   have hm5:=hm.keep hbW5
   have hall:(C l[k]).2=true→Hid (∀g∈l.take (k+1),(C g).2=true):=fun h g hg=>by
    rw[take_next hlt,List.mem_append,List.mem_singleton]at hg
    rcases hg with hg|rfl
    ·exact hinv.out g hg
    ·exact h
   have hbad:(C l[k]).2=false→Hid (r=([],false)):=fun h=>by
    show _=_
    rw[HR.out,if_neg]
    intro ha
    rw[List.all_eq_true]at ha
    rw[ha _ hmem]at h
    cases h
   clear hc5 hsz5 hkid c0 c1 c2 c3 c4 hbW5 hc hk hinv HR hMn hC hm hCl
   generalize C l[k]=cc at *
   obtain ⟨cl,ct⟩:=cc
   dsimp only at hnx hall hbad hCk hcl
   generalize hMg:(fun n=>(l.take k).any fun g=>(C g).1.contains n)=M at *
   have hnx':(fun n=>(l.take (k+1)).any fun g=>(C g).1.contains n)=fun n=>M n||cl.contains n:=funext fun n=>by rw[hnx,←hMg]
   have hmn':∀m,M m=true→m∈namesE es:=fun m h=>hmn m (by rw[←hMg]at h;exact h)
   clear hnx hmn hMg
   go_wp2_with fail
   refine hcall.mono ?_
   rintro e w6 ⟨u,rfl,hownu,hb6⟩
   obtain ⟨Au,cu,hsh⟩:=own_shape hownu
   dsimp only at hsh hownu
   subst hsh
   clear hcall k0 k1 k2 k3 k4
   have hb06:=hb5.trans (hb6.mono hb5.size)
   have hm6:=hm5.keep hb6
   have hS6:StrsV w6 w6.heap.size (.slice Au cl.length cu) cl:=StrsV.of_own hownu
   have hall6:AllMap w6 (·=w.heap.size):=fun k hk=>by have e:k=w.heap.size:=hk;rw[e];exact hm6.isMap
   clear hownu hm5
   cases ct
   ·have HF:=hbad rfl
    go_wp2_with fail
    go_ret2
    rw[HF.out]
    exact RetC.nil hb06
   ·have HA:=hall rfl
    clear hall hbad
    go_wp2_with fail
    go_loopw [30] (fun i wi=>∃j:Nat,j≤cl.length∧i=.int .i64 j∧MapF wi w.heap.size (setF fun n=>M n||(cl.take j).contains n)∧Mv (·=w.heap.size) w6 wi) (fun i _=>cl.length-(intOf i).toNat)
    case atStart=>
     refine ⟨0,Nat.zero_le _,rfl,?_,Mv.refl _ _⟩
     have e:(fun n=>M n||(cl.take 0).contains n)=M:=funext fun n=>by simp
     rw[e]
     exact hm6
    case round=>
     obtain ⟨j,hj9,rfl,hmi,hmv⟩:=hrel
     by_cases hjt:j<cl.length
     ·obtain ⟨q,qo,hqA,_,q0⟩:=StrsV.cell (SlV.keepC hS6 fun b off u _ hc=>hmv.cell hall6 hc) hjt
      subst hqA
      have hjI:(j:Int)<(cl.length:Int):=by omega
      have hxm:=hCk _ (List.getElem_mem hjt)
      have hx6:=hn6 _ hxm
      have hkl:∀y,setF (fun n=>M n||(cl.take j).contains n) y≠none→y∈namesE es:=fun y hy=>by
       have h1:=setF_some.1 hy
       rw[Bool.or_eq_true,List.contains_iff_mem]at h1
       exact h1.elim (hmn' y) fun h=>hCk y (List.mem_of_mem_take h)
      have hcn:=fun n=>contains_next hjt n
      generalize cl[j]=x at *
      go_wp2_with (at_mapUpdate;refine wpList_putF _ rfl _ _ _ 121 rfl Tryz.underlying121 rfl hmi (l:=namesE es) hkl hnl x rfl (by unfold maxLen;omega) (.bool true) rfl ?_;intro w7 hm7 hv7;go_frame)
      rw[setF_put]at hm7
      go_roundw
      case rel=>
       refine ⟨j+1,by omega,by go_num,?_,hmv.trans hv7 fun j hj=>.inl hj⟩
       have e:(fun n=>M n||(cl.take (j+1)).contains n)=fun n=>if n=x then true else M n||(cl.take j).contains n:=funext fun n=>by
        rw[hcn n]
        by_cases h:n=x
        ·simp[h]
        ·simp[h]
       rw[e]
       exact hm7
      case measure=>simp[intOf];omega
     ·have hjI:¬(j:Int)<(cl.length:Int):=by omega
      have e:(fun n=>M n||(cl.take j).contains n)=fun n=>M n||cl.contains n:=funext fun n=>by rw[List.take_of_length_le (by omega)]
      rw[e,←hnx']at hmi
      go_wp2_with fail
      go_roundw
      case rel=>exact ⟨k+1,by omega,by go_num,hmi,hb06.trans (hmv.below (lo:=w.heap.size) (fun j hj=>Nat.le_of_eq (Eq.symm hj)) hb06.size),HA⟩
      case measure=>simp[intOf];omega
  ·have hltI:¬(k:Int)<(l.length:Int):=by omega
   rw[List.take_of_length_le (by omega)]at hm hinv
   have hMl:=hMn l.length
   rw[List.take_length]at hMl
   have hS1:=srtNames_any w.heap.size _ wr hm (l:=namesE es) (fun m hm=>hMl m (setF_some.1 hm)) hnl (fun m hm=>hok.valN m (hMl m (setF_some.1 hm))) (fun m hm=>by have:=hn6 _ (hMl m (setF_some.1 hm));omega)
   have HV:Hid (r=((es.filter fun e=>l.any fun g=>(C g).1.contains e.1).map (·.1),true)):=by
    show _=_
    rw[HR.out,if_pos (List.all_eq_true.2 hinv.out)]
   have hsi:=fun (t:List Bs) (h1:srtN t) (h2:∀n,n∈t↔(l.any fun g=>(C g).1.contains n)=true)=>sorted_is hok (fun e=>l.any fun g=>(C g).1.contains e.1) h1 fun n=>(h2 n).trans (by
    rw[List.mem_map]
    constructor
    ·intro h
     obtain ⟨e,he,rfl⟩:=List.mem_map.1 (hMl n h)
     exact ⟨e,List.mem_filter.2 ⟨he,h⟩,rfl⟩
    ·rintro ⟨e,he,rfl⟩
     exact (List.mem_filter.1 he).2)
   clear hinv HR hc hk hC hMn hMl
   go_wp2_with (go_at_call 117;refine hS1.mono ?_;rintro e w3 ⟨u,t,rfl,hsl,hml,hown,hb3⟩)
   have hl:=hsi t hsl fun m=>(hml m).trans setF_some
   have HF:Hid (r=(t,true)):=by show _=_;rw[HV.out,hl]
   clear hl hsi HV
   go_ret2
   rw[HF.out]
   exact ⟨u,rfl,own_lower hown hb.size,hb.trans (hb3.mono hb.size)⟩
section
variable {hs lo px:Nat} {s:Idn.Sch} {ns:List Bs} {es:List IxE} {ta cb:Value} {eb vb:Nat} {g:Bs→Value} {ts:List (Bs×Nat)} {G:Bs→Bs→Option Nat}
theorem cand_any (hG : GdI s ns es) : ∀ (d : Nat) (v : Value) (f : Flt) (w : World), IxV w hs lo px s ns es ta cb eb vb g ts G → (∀ W, Below w.heap.size w W → Env W ∧ EnvU W) → FltV w w.heap.size d v f → FSm 1000 f →
  Calls Tryz.prog 18 #[.pointer (some ⟨px,0,none⟩),v] w (RetC w (ixCand s (ns.map Idn.lower) es f)):=by
 intro d
 induction d using Nat.strongRecOn with
 |_ d ih=>
 intro v f w hI hE hv hsm
 have hks:=hsm.kids
 have hkl:=hks.len
 obtain ⟨o1,o2,_,_⟩:=fOk_own hsm.2
 obtain ⟨Ap,cp,Ak,ck,rfl,hp,hk⟩:=hv.shape
 have hEW:=fun W (hW:Below w.heap.size w W) V (hV:Below W.heap.size W V)=>hE V (hW.trans (hV.mono hW.size))
 have kF:=fun W (hW:Below w.heap.size w W)=>ixFind_any (hI.keep hW) hG (hEW W hW) (B f.name) (B f.value) (by rw[Idn.size_B];omega) (by rw[Idn.size_B];omega)
 have kB:=fun W (hW:Below w.heap.size w W)=>bound_any (hI.keep hW) hG (hEW W hW) d _ f (hv.on hW) hsm
 have kP:=fun W (hW:Below w.heap.size w W)=>present_any (hI.keep hW) hG (B f.name) (by rw[Idn.size_B];omega)
 have kC:=fun W (hW:Below w.heap.size w W) (hd:0<d) g (hg:g∈f.kids) V vg (hV:Below W.heap.size W V) (hvg:FltV V V.heap.size (d-1) vg g)=>ih (d-1) (by omega) vg g V (hI.keep (hW.trans (hV.mono hW.size))) (hEW V (hW.trans (hV.mono hW.size))) hvg (hks.mem hg)
 have kA:=fun W (hW:Below w.heap.size w W)=>ixAll_any (ixCand s (ns.map Idn.lower) es) px d _ f.kids W (FltsV.on hk hW) (by omega) (kC W hW)
 have kS:=fun W (hW:Below w.heap.size w W)=>ixSome_any (ixCand s (ns.map Idn.lower) es) es hG.ok hG.names_len (fun n h=>hG.name_len h) px d _ f.kids W (FltsV.on hk hW) (by omega) (fun g _=>(cand_ok hG.ok g).2) (fun g _=>cdE_len hG.ok hG.names_len (cand_ok hG.ok g)) (kC W hW)
 simp only[Idn.L_B]at kF kP
 have hr:=ixCand_unf s (ns.map Idn.lower) es f
 have c2:=hI.c2
 generalize ixCand s (ns.map Idn.lower) es f=r at *
 generalize ixFind s (ns.map Idn.lower) es f.name f.value=r1 at *
 generalize ixPres (ns.map Idn.lower) es f.name=r3 at *
 generalize bestC (f.kids.map (ixCand s (ns.map Idn.lower) es)) ([],false)=r4 at *
 generalize someC es (f.kids.map (ixCand s (ns.map Idn.lower) es))=r5 at *
 have HR:=Lib.hid hr
 clear hr
 generalize f.kind=kd at *
 clear kC hEW hI hE hv hsm hks ih hp hk hG o1 o2
 go_enter Tryz.func18,Tryz.ntmps18
 go_upto_region 1 with fail
 with_reducible refine gen1 (R:=fun W=>Code.wp Tryz.prog _ _ _ W) ?_
 intro W hb hszW hc _
 have b0:W.cell? ⟨w.heap.size,0,none⟩=some (.int .i64 kd):=hc 0 _ rfl
 have b1:W.cell? ⟨w.heap.size,1,none⟩=some (.string (B f.name)):=hc 1 _ rfl
 have b2:W.cell? ⟨w.heap.size,2,none⟩=some (.string (B f.value)):=hc 2 _ rfl
 have b3:W.cell? ⟨w.heap.size,3,none⟩=some (.slice Ap f.parts.length cp):=hc 3 _ rfl
 have b4:W.cell? ⟨w.heap.size,4,none⟩=some (.slice Ak f.kids.length ck):=hc 4 _ rfl
 replace c2:=cell_later hb c2
 replace kF:=kF W hb
 replace kB:=kB W hb
 replace kP:=kP W hb
 replace kA:=kA W hb
 replace kS:=kS W hb
 clear hc hszW
 by_cases h4:kd=4
 ·subst h4
  have HF:Hid (r=r1):=HR.out
  clear HR kB kP kA kS
  go_wp2_with (go_at_call 57;refine (ready_any px eb W c2).mono ?_;rintro e w0 ⟨rfl,rfl⟩)
  refine kF.mono ?_
  rintro e w2 ⟨u,rfl,hown,hb2⟩
  go_wp2
  go_ret2
  rw[HF.out]
  exact ⟨u,rfl,own_lower hown hb.size,hb.trans (hb2.mono hb.size)⟩
 by_cases h5:kd=5
 ·subst h5
  generalize ixBound s (ns.map Idn.lower) es 5 f.name f.value=r2 at *
  have HF:Hid (r=r2):=HR.out
  clear HR kF kP kA kS h4
  go_wp2_with (go_at_call 57;refine (ready_any px eb W c2).mono ?_;rintro e w0 ⟨rfl,rfl⟩)
  refine kB.mono ?_
  rintro e w2 ⟨u,rfl,hown,hb2⟩
  go_wp2
  go_ret2
  rw[HF.out]
  exact ⟨u,rfl,own_lower hown hb.size,hb.trans (hb2.mono hb.size)⟩
 by_cases h6:kd=6
 ·subst h6
  generalize ixBound s (ns.map Idn.lower) es 6 f.name f.value=r2 at *
  have HF:Hid (r=r2):=HR.out
  clear HR kF kP kA kS h4 h5
  go_wp2_with (go_at_call 57;refine (ready_any px eb W c2).mono ?_;rintro e w0 ⟨rfl,rfl⟩)
  refine kB.mono ?_
  rintro e w2 ⟨u,rfl,hown,hb2⟩
  go_wp2
  go_ret2
  rw[HF.out]
  exact ⟨u,rfl,own_lower hown hb.size,hb.trans (hb2.mono hb.size)⟩
 by_cases h7:kd=7
 ·subst h7
  have HF:Hid (r=r3):=HR.out
  clear HR kF kB kA kS h4 h5 h6
  go_wp2_with (go_at_call 57;refine (ready_any px eb W c2).mono ?_;rintro e w0 ⟨rfl,rfl⟩)
  refine kP.mono ?_
  rintro e w2 ⟨u,rfl,hown,hb2⟩
  go_wp2
  go_ret2
  rw[HF.out]
  exact ⟨u,rfl,own_lower hown hb.size,hb.trans (hb2.mono hb.size)⟩
 by_cases h1:kd=1
 ·subst h1
  have HF:Hid (r=r4):=HR.out
  clear HR kF kB kP kS h4 h5 h6 h7
  go_wp2_with (go_at_call 57;refine (ready_any px eb W c2).mono ?_;rintro e w0 ⟨rfl,rfl⟩)
  refine kA.mono ?_
  rintro e w2 ⟨u,rfl,hown,hb2⟩
  go_wp2
  go_ret2
  rw[HF.out]
  exact ⟨u,rfl,own_lower hown hb.size,hb.trans (hb2.mono hb.size)⟩
 by_cases h2:kd=2
 ·subst h2
  have HF:Hid (r=r5):=HR.out
  clear HR kF kB kP kA h4 h5 h6 h7 h1
  go_wp2_with (go_at_call 57;refine (ready_any px eb W c2).mono ?_;rintro e w0 ⟨rfl,rfl⟩)
  refine kS.mono ?_
  rintro e w2 ⟨u,rfl,hown,hb2⟩
  go_wp2
  go_ret2
  rw[HF.out]
  exact ⟨u,rfl,own_lower hown hb.size,hb.trans (hb2.mono hb.size)⟩
 have HF:Hid (r=([],false)):=by show _=_;rw[HR.out,if_neg h4,if_neg (by omega),if_neg h7,if_neg h1,if_neg h2]
 have e4:(kd==4)=false:=beq_eq_false_iff_ne.2 h4
 have e5:(kd==5)=false:=beq_eq_false_iff_ne.2 h5
 have e6:(kd==6)=false:=beq_eq_false_iff_ne.2 h6
 have e7:(kd==7)=false:=beq_eq_false_iff_ne.2 h7
 have e1:(kd==1)=false:=beq_eq_false_iff_ne.2 h1
 have e2:(kd==2)=false:=beq_eq_false_iff_ne.2 h2
 clear HR kF kB kP kA kS h4 h5 h6 h7 h1 h2
 go_wp2_with (go_at_call 57;refine (ready_any px eb W c2).mono ?_;rintro e w0 ⟨rfl,rfl⟩)
 go_ret2
 rw[HF.out]
 exact RetC.nil hb
end
end Go.Proofs.YtbkkchhimhlhcaaGreatDoor
/- The values of the small case of identitylaw11, reckoned. -/
namespace Go.Proofs.YtbkkchhimhlhcaaGreatDoor
open Go.RowKit Go.Sort
open Idn (L B Bs)
namespace E11
def AGEN:Bs:=[65,71,69]
def smallS:Idn.Sch:=⟨[⟨Idn.mainN,1,false⟩,⟨E8.cnN,1,false⟩,⟨E9.mailN,1,false⟩,⟨E9.ageN,3,false⟩],[]⟩
def annN:Bs:=[99,110,61,97,110,110]
def annL:List Idn.Att:=[⟨E8.cnN,[[65,110,110]]⟩,⟨E9.ageN,[[55]]⟩]
def srtL:List Idn.Att:=[⟨E9.ageN,[[55]]⟩,⟨E8.cnN,[[65,110,110]]⟩]
def ns:List Bs:=[E8.cnN,AGEN]
def idx:List Bs:=[E8.cnN,E9.ageN]
def es:List IxE:=[(annN,srtL)]
def F2:Flt:=.mk 4 E8.cnN [97,110,110] [] []
theorem ev_idx:ns.map Idn.lower=idx:=by kernel_rfl
theorem ev_r2:ixRange smallS idx es E9.ageN [49,48] [57]=([],true):=by kernel_rfl
end E11
end Go.Proofs.YtbkkchhimhlhcaaGreatDoor
/- law11: alive. -/
namespace Go.Proofs.YtbkkchhimhlhcaaGreatDoor
open Go.RowKit Go.Sort
open Idn (L B Bs drop_L take_L size_L)
end Go.Proofs.YtbkkchhimhlhcaaGreatDoor
/- law11: light, nodes. -/
namespace Go.Proofs.YtbkkchhimhlhcaaGreatDoor
open Go.RowKit Go.Sort
open Idn (L B Bs drop_L take_L size_L)
def RetY (w:World) (Pr:Prop) (e:Ending) (w':World):Prop:=∃r:Bool,e=.returned (.bool r)∧(r=true→Pr)∧Below w.heap.size w w'
theorem RetY.no {w w':World} {Pr:Prop} (h:Below w.heap.size w w'):RetY w Pr (.returned (.bool false)) w':=⟨false,rfl,nofun,h⟩
theorem RetY.yes {w w':World} {Pr:Prop} (hp:Pr) (h:Below w.heap.size w w'):RetY w Pr (.returned (.bool true)) w':=⟨true,rfl,fun _=>hp,h⟩
end Go.Proofs.YtbkkchhimhlhcaaGreatDoor
/- law11: short, brief, contains, ready; nodes with what a small number promises. -/
namespace Go.Proofs.YtbkkchhimhlhcaaGreatDoor
open Go.RowKit Go.Sort
open Idn (L B Bs drop_L take_L size_L)
end Go.Proofs.YtbkkchhimhlhcaaGreatDoor
/- law11: ready. -/
namespace Go.Proofs.YtbkkchhimhlhcaaGreatDoor
open Go.RowKit Go.Sort
open Idn (L B Bs drop_L take_L size_L)
def ELen (es:List EntP):Prop:=es.length≤9223372036854775807∧∀e∈es,e.1.length≤9223372036854775807∧ALen8 e.2
end Go.Proofs.YtbkkchhimhlhcaaGreatDoor
/- law11: stored. -/
namespace Go.Proofs.YtbkkchhimhlhcaaGreatDoor
open Go.RowKit Go.Sort
open Idn (L B Bs drop_L take_L size_L)
def EntRef (w0 w:World) (base:Nat) (v:Value) (qs:List (EntP×Value)):Prop:=w.ownsRow base 48 2 v qs.length (rowEn qs)∧∀q∈qs,AttsV w0 w0.heap.size q.2 q.1.2
theorem EntRef.keep {w0 w w':World} {base:Nat} {v:Value} {qs:List (EntP×Value)} (h:EntRef w0 w base v qs) (hb:Below w.heap.size w w'):EntRef w0 w' base v qs:=⟨own_below h.1 hb,h.2⟩
theorem EntRef.ents {w0 w:World} {base:Nat} {v:Value} {qs:List (EntP×Value)} {l:List EntP} (h:EntRef w0 w base v qs) (hl:qs.map (·.1)=l) (hb:Below w0.heap.size w0 w):EntsV w w.heap.size v l:=by
 subst hl
 have h0:=h.1
 rw[show qs.length=(qs.map (·.1)).length by simp]at h0
 refine SlV.own h0 fun i x hx=>?_
 rw[List.getElem?_map]at hx
 obtain ⟨q,hq,rfl⟩:=Option.map_eq_some_iff.1 hx
 obtain ⟨e1,e2⟩:=rowEn_at qs i q hq
 refine ⟨[sv q.1.1,q.2],rfl,⟨q.2,rfl,AttsV.mono (AttsV.keep (h.2 q (List.mem_of_getElem? hq)) hb) hb.size⟩,fun j u hj=>?_⟩
 match j,hj with
 |0,hj=>simp at hj;subst hj;exact e1
 |1,hj=>simp at hj;subst hj;exact e2
end Go.Proofs.YtbkkchhimhlhcaaGreatDoor
/- The program's index: what every method says of an index that New did not return. -/
namespace Go.Proofs.YtbkkchhimhlhcaaGreatDoor
open Go.RowKit Go.Sort
open Idn (L B Bs drop_L take_L size_L)
def NilX (w:World) (v:Value):Prop:=v=.pointer none∨∃p,v=.pointer (some ⟨p,0,none⟩)∧w.cell? ⟨p,2,none⟩=some (.map none)
theorem NilX.keep {w w':World} {v:Value} (h:NilX w v) (hb:Below w.heap.size w w'):NilX w' v:=by
 rcases h with h|⟨p,h1,h2⟩
 ·exact .inl h
 ·exact .inr ⟨p,h1,cell_later hb h2⟩
end Go.Proofs.YtbkkchhimhlhcaaGreatDoor
