/- Part 35 of the proof that identitylaw12.SearchChecks returns true for every data that it may be called with: proof: the package variables hold what the program lays; nothing else is asked. -/
import Derived.Test.YtbkkchhimhlhcaaGreatDoorSrk32
import Derived.Test.YtbkkchhimhlhcaaGreatDoorSrk34
import Derived.StillTailTactics
set_option linter.unusedVariables false
set_option linter.unusedSimpArgs false
set_option maxRecDepth 100000
set_option maxHeartbeats 16000000
/- The program's index: small functions, the closures of Put and Drop. -/
namespace Go.Proofs.YtbkkchhimhlhcaaGreatDoor
open Go.RowKit Go.Sort
open Idn (L B Bs drop_L take_L size_L)
theorem zeroNames (w:World):(zeroValue 121).run Tryz.prog w=.ok (.map none) w:=by kernel_rfl
theorem zeroByV (w:World):(zeroValue 108).run Tryz.prog w=.ok (.map none) w:=by kernel_rfl
theorem zeroEnt (w:World):(zeroValue 48).run Tryz.prog w=.ok (.agg #[.string ⟨#[]⟩,.slice none 0 0]) w:=by kernel_rfl
theorem setF_some {p:Bs→Bool} {x:Bs}:setF p x≠none↔p x=true:=by unfold setF;cases p x<;>simp
theorem setF_put (p:Bs→Bool) (k:Bs):(fun y=>if y=k then some (.bool true)else setF p y)=setF fun y=>if y=k then true else p y:=by
 funext y
 unfold setF
 by_cases h:y=k<;>simp[h]
theorem setF_del (p:Bs→Bool) (k:Bs):(fun y=>if y=k then none else setF p y)=setF fun y=>if y=k then false else p y:=by
 funext y
 unfold setF
 by_cases h:y=k<;>simp[h]
theorem copy_any (bd bs : Nat) (p q : Bs → Bool) (w : World) (hd : MapF w bd (setF p)) (hs : MapF w bs (setF q)) (hne : bd ≠ bs) {l : List Bs} (hl : ∀ x, p x = true ∨ q x = true → x ∈ l) (hll : l.length ≤ 1000000000) :
    Calls Tryz.prog 119 #[.map (some bd),.map (some bs)] w fun e w'=>e=.returned (.tuple #[])∧MapF w' bd (setF fun x=>p x||q x)∧Mv (·=bd) w w':=by
 have hbd:=hd.lt
 go_enter Tryz.func119,Tryz.ntmps119
 go_wp2_with (first
  |(at_range;refine wpList_rangeF _ rfl _ 121 rfl Tryz.underlying121 rfl hs ?_;intro w0 hr0 hb0 hs0)
  |go_in)
 go_frame
 go_loopw [8] (fun _ wr=>∃left:Bs→Bool,RangeF wr bs w.heap.size (setF q) left∧MapF wr bd (setF fun x=>p x||(q x&&!left x))∧Mv (·=bd) w wr) (fun _ wr=>wr.rangeLeft bs w.heap.size)
 case atStart=>
  refine ⟨_,hr0,?_,Mv.of_below hb0 _⟩
  have e:(fun x=>p x||(q x&&!(setF q x).isSome))=p:=funext fun x=>by unfold setF;cases q x<;>cases p x<;>rfl
  rw[e]
  exact hd.keep hb0
 case round=>
  obtain ⟨left,hr,hm,hw⟩:=hrel
  go_wp2_with (first
   |(at_next;refine wpList_nextF _ rfl _ rfl rfl hr ?_ ?_)
   |go_in)
  ·intro hl0
   go_wp2
   go_end0
   have e:(fun x=>p x||(q x&&!left x))=fun x=>p x||q x:=funext fun x=>by rw[hl0 x];simp
   rw[e]at hm
   exact ⟨rfl,hm,hw⟩
  ·intro x c w1 hxl hlx hfx hr1 hlt hm1 hsz1 hen
   have hkd:∀y,setF (fun y=>p y||(q y&&!left y)) y≠none→y∈l:=fun y hy=>by
    have h1:=setF_some.1 hy
    refine hl y ?_
    cases hp:p y
    ·rw[hp,Bool.false_or,Bool.and_eq_true]at h1
     exact .inr h1.1
    ·exact .inl rfl
   have hq:q x=true:=setF_some.1 (by rw[hfx];simp)
   have hc:c=.bool true:=by
    unfold setF at hfx
    rw[hq]at hfx
    exact (Option.some.inj hfx).symm
   have hbr:¬(bd=w.heap.size):=by omega
   have hmd:=hm.mv hm1 hbr
   have hw1:Mv (·=bd) w w1:=hw.trans hm1 fun j hj=>.inr (by have:j=w.heap.size:=hj;omega)
   subst hc
   clear hsz1
   go_wp2_with (first
    |(at_mapUpdate;refine wpList_putF _ rfl _ _ _ 121 rfl Tryz.underlying121 rfl hmd (l:=l) hkd hll x rfl hxl (.bool true) rfl ?_;intro w2 hm2 hv2;go_frame)
    |go_in)
   rw[setF_put]at hm2
   have hr2:=hr1.mv hv2 (fun e=>hne e.symm) (fun e=>hbr e.symm)
   go_roundw
   case rel=>
    refine ⟨_,hr2,?_,hw1.trans hv2 fun j hj=>.inl hj⟩
    have e:(fun y=>p y||(q y&&!(left y&&!decide (y=x))))=fun y=>if y=x then true else p y||(q y&&!left y):=funext fun y=>by
     by_cases h:y=x
     ·subst h;rw[hq];simp
     ·simp[h]
    rw[e]
    exact hm2
   case measure=>
    rw[hr1.left_mv hv2 (fun e=>hne e.symm) (fun e=>hbr e.symm)]
    exact hlt
theorem neq_mapE (o:Option Nat) (w:World):(binOp .neq 102 (.map o) (.map none)).run Tryz.prog w=.ok (.bool o.isSome) w:=by
 rw[run_neq_map_nil w 102 _ _ o Tryz.underlying102]
 cases o<;>rfl
theorem eql_mapN (o:Option Nat) (w:World):(binOp .eql 121 (.map o) (.map none)).run Tryz.prog w=.ok (.bool o.isNone) w:=run_eql_map_nil w 121 _ _ o Tryz.underlying121
theorem ready_any (px eb:Nat) (w:World) (c2:w.cell? ⟨px,2,none⟩=some (.map (some eb))):Calls Tryz.prog 57 #[.pointer (some ⟨px,0,none⟩)] w fun e w'=>e=.returned (.bool true)∧w=w':=by
 have hq:=neq_mapE (some eb) w
 go_enter Tryz.func57,Tryz.ntmps57
 go_wp2
 go_ret
 exact ⟨rfl,rfl⟩
section
variable {w:World} {vb:Nat} {ts:List (Bs×Nat)} {G:Bs→Bs→Option Nat} {M:Bs→Bs→Bs→Bool}
theorem mapO_some {g:Bs→Option Nat} {v:Bs}:mapO g v≠none↔∃b,g v=some b:=by
 unfold mapO
 cases g v<;>simp
theorem mapO_upd (g:Bs→Option Nat) (v:Bs) (o:Option Nat):(fun y=>if y=v then o.map fun b=>Value.map (some b)else mapO g y)=mapO fun y=>if y=v then o else g y:=by
 funext y
 unfold mapO
 by_cases h:y=v<;>simp[h]
theorem updG_row (t v:Bs) (o:Option Nat):updG G t v o t=fun y=>if y=v then o else G t y:=by
 funext y
 unfold updG
 simp
theorem updM_row (t v n:Bs) (x:Bool):updM M t v n x t v=fun y=>if y=n then x else M t v y:=by
 funext y
 unfold updM
 simp
theorem put1_any (h : VlV w vb ts G M) {t : Bs × Nat} (ht : t ∈ ts) (v n : Bs) (q : Nat) (hq : w.cell? ⟨q, 0, none⟩ = some (.string (B n))) (hvl : v.length ≤ maxLen) (hnl : n.length ≤ maxLen) {lv ln : List Bs} (hM : ∀ x m, M t.1 x m = true → x ∈ lv ∧ m ∈ ln) (hlv : lv.length ≤ 1000000000) (hln : ln.length ≤ 1000000000) :
    Calls Tryz.prog 63 #[.map (some t.2),.string (B v),.pointer (some ⟨q,0,none⟩)] w fun e w'=>e=.returned (.tuple #[])∧∃G',VlV w' vb ts G' (updM M t.1 v n true)∧Mv (VlS ts G) w w'∧∀k,VlS ts G' k→VlS ts G k∨w.heap.size≤k:=by
 have hbt:=h.blk t ht
 have hkeys:∀y,mapO (G t.1) y≠none→y∈lv:=fun y hy=>by
  obtain ⟨b,hb⟩:=mapO_some.1 hy
  obtain ⟨m,hm⟩:=(h.set t ht y b hb).2
  exact (hM y m hm).1
 cases hG:G t.1 v with
 |none=>
  have hr:(mapO (G t.1) v).getD (.map none)=.map none:=by unfold mapO;rw[hG];rfl
  have hba:Below w.heap.size w (w.alloc (.map #[] 0)):=(Below.refl _ w).alloc (Nat.le_refl _) _
  have hnew:=MapF.made w
  have hbt1:=hbt.keep hba
  have hq1:=cell_later hba hq
  have hblt:=hbt.lt
  have heq:=eql_mapN none w
  have hmm:=@run_makeMap Tryz.prog
  go_enter Tryz.func63,Tryz.ntmps63
  go_upto_region 1 with (at_lookup;refine wpList_look1F w rfl _ _ 108 rfl Tryz.underlying108 (zeroNames w) rfl hbt v rfl hvl ?_;rw[hr])
  go_upto_region 2 with (at_mapUpdate;refine wpList_putF _ rfl _ _ _ 108 rfl Tryz.underlying108 rfl hbt1 (l:=lv) hkeys hlv v rfl hvl (.map (some w.heap.size)) rfl ?_;intro w2 hm2 hv2)
  have hne:¬(w.heap.size=t.2):=by omega
  have hnew2:=hnew.mv hv2 hne
  have hq2:=hv2.cell (fun k hk=>by have e:k=t.2:=hk;rw[e];exact hbt1.isMap) hq1
  have hr2:((fun y=>if y=v then some (Value.map (some w.heap.size))else mapO (G t.1) y) v).getD (.map none)=.map (some w.heap.size):=by simp
  go_wp2_with (first
     |(at_lookup;refine wpList_look1F w2 rfl _ _ 108 rfl Tryz.underlying108 (zeroNames w2) rfl hm2 v rfl hvl ?_;rw[hr2])
     |(at_mapUpdate;refine wpList_putF _ rfl _ _ _ 121 rfl Tryz.underlying121 rfl hnew2 (l:=[]) (fun y hy=>absurd rfl hy) (by simp) n rfl hnl (.bool true) rfl ?_;intro w3 hm3 hv3))
  go_end0
  have hmv:Mv (·=t.2) w w3:=((Mv.of_below hba _).trans hv2 fun j hj=>.inl hj).trans hv3 fun j hj=>.inr (Nat.le_of_eq (Eq.symm hj))
  refine ⟨rfl,_,h.turn ht v (some w.heap.size) n true hmv (fun k hk=>.inl hk) ?_ (fun b hb=>?_) (fun e=>by cases e),hmv.mono fun k hk=>.inl ⟨t,ht,Eq.symm hk⟩,fun k hk=>VlS_upd (fun b hb=>.inr (by cases hb;exact Nat.le_refl _)) ⟨t,ht,rfl⟩ hk⟩
  ·rw[updG_row,←mapO_upd]
   exact hm2.mv hv3 fun e=>hne (Eq.symm e)
  ·cases hb
   rw[updM_row]
   refine ⟨?_,⟨n,by simp⟩,.inr (Nat.le_refl _)⟩
   have e:(fun y=>if y=n then true else M t.1 v y)=fun y=>if y=n then true else false:=funext fun y=>by rw[h.non t ht v hG y]
   have e2:(fun y:Bs=>if y=n then some (Value.bool true)else none)=setF fun y=>if y=n then true else false:=funext fun y=>by
    unfold setF
    by_cases hy:y=n<;>simp[hy]
   rw[e,←e2]
   exact hm3
 |some b=>
  obtain ⟨hsb,hne⟩:=h.set t ht v b hG
  have hr:(mapO (G t.1) v).getD (.map none)=.map (some b):=by unfold mapO;rw[hG];rfl
  have hkn:∀y,setF (M t.1 v) y≠none→y∈ln:=fun y hy=>(hM v y (setF_some.1 hy)).2
  have hbl:=hsb.lt
  have heq:=eql_mapN (some b) w
  go_enter Tryz.func63,Tryz.ntmps63
  go_wp2_with (first
     |(at_lookup;refine wpList_look1F w rfl _ _ 108 rfl Tryz.underlying108 (zeroNames w) rfl hbt v rfl hvl ?_;rw[hr])
     |(at_mapUpdate;refine wpList_putF _ rfl _ _ _ 121 rfl Tryz.underlying121 rfl hsb (l:=ln) hkn hln n rfl hnl (.bool true) rfl ?_;intro w3 hm3 hv3))
  go_end0
  rw[setF_put]at hm3
  refine ⟨rfl,_,h.turn ht v (some b) n true hv3 (fun k hk=>.inr (by rw[hk];exact hG)) ?_ (fun b' hb=>?_) (fun e=>by cases e),hv3.mono fun k hk=>.inr ⟨t,ht,v,by rw[hk];exact hG⟩,fun k hk=>VlS_upd (w:=w) (fun b' hb=>.inl (by rw[hG];exact hb)) ⟨t,ht,rfl⟩ hk⟩
  ·have e : updG G t.1 v (some b) t.1 = G t.1 := by
     rw[updG_row]
     funext y
     by_cases hy:y=v
     ·rw[if_pos hy,hy,hG]
     ·rw[if_neg hy]
   rw[e]
   exact hbt.mv hv3 fun e=>(h.gne t ht v b hG).2 t ht e
  ·cases hb
   rw[updM_row]
   exact ⟨hm3,⟨n,by simp⟩,.inl hG⟩
theorem drop1_any (h : VlV w vb ts G M) {t : Bs × Nat} (ht : t ∈ ts) (v n : Bs) (q : Nat) (hq : w.cell? ⟨q, 0, none⟩ = some (.string (B n))) (hvl : v.length ≤ maxLen) (hnl : n.length ≤ maxLen) :
    Calls Tryz.prog 130 #[.map (some t.2),.string (B v),.pointer (some ⟨q,0,none⟩)] w fun e w'=>e=.returned (.tuple #[])∧∃G',VlV w' vb ts G' (updM M t.1 v n false)∧Mv (VlS ts G) w w'∧∀k,VlS ts G' k→VlS ts G k∨w.heap.size≤k:=by
 have hbt:=h.blk t ht
 have hdelO:∀g:Bs→Option Nat,(fun y=>if y=v then none else mapO g y)=mapO fun y=>if y=v then none else g y:=fun g=>by
  have:=mapO_upd g v none
  exact this
 cases hG:G t.1 v with
 |none=>
  have hr:(mapO (G t.1) v).getD (.map none)=.map none:=by unfold mapO;rw[hG];rfl
  go_enter Tryz.func130,Tryz.ntmps130
  go_wp2_with (first
   |(at_lookup;refine wpList_look1F w rfl _ _ 108 rfl Tryz.underlying108 (zeroNames w) rfl hbt v rfl hvl ?_;rw[hr])
   |(at_delete;refine wpList_delNilF _ rfl _ _ 121 rfl Tryz.underlying121 rfl n rfl hnl ?_)
   |(at_len;refine wpList_lenNilF _ rfl _ 121 rfl Tryz.underlying121 rfl ?_)
   |(at_delete;refine wpList_delF _ rfl _ _ 108 rfl Tryz.underlying108 rfl hbt v rfl hvl ?_;intro w2 hm2 hv2))
  go_end0
  rw[hdelO]at hm2
  refine ⟨rfl,_,h.turn ht v none n false hv2 (fun k hk=>.inl hk) (by rw[updG_row];exact hm2) (fun b hb=>by cases hb) (fun _ m=>?_),hv2.mono fun k hk=>.inl ⟨t,ht,Eq.symm hk⟩,fun k hk=>VlS_upd (w:=w) (fun b hb=>by cases hb) ⟨t,ht,rfl⟩ hk⟩
  rw[updM_row]
  show (if m=n then false else M t.1 v m)=false
  rw[h.non t ht v hG m]
  simp
 |some b=>
  obtain ⟨hsb,_⟩:=h.set t ht v b hG
  have hr:(mapO (G t.1) v).getD (.map none)=.map (some b):=by unfold mapO;rw[hG];rfl
  have hbb:¬(t.2=b):=(h.gne t ht v b hG).2 t ht
  go_enter Tryz.func130,Tryz.ntmps130
  go_upto_region 1 with (first
   |(at_lookup;refine wpList_look1F w rfl _ _ 108 rfl Tryz.underlying108 (zeroNames w) rfl hbt v rfl hvl ?_;rw[hr])
   |(at_delete;refine wpList_delF _ rfl _ _ 121 rfl Tryz.underlying121 rfl hsb n rfl hnl ?_;intro w1 hm1 hv1))
  rw[setF_del]at hm1
  have hbt1:=hbt.mv hv1 hbb
  by_cases hex:∃m,(if m=n then false else M t.1 v m)=true
  ·have hpos : ∀ ks : List Bs, (∀ x, x ∈ ks ↔ setF (fun y => if y = n then false else M t.1 v y) x ≠ none) → (((ks.length : Nat) : Int) == 0) = false := fun ks hks => by
     obtain ⟨m,hm⟩:=hex
     have:=List.length_pos_of_mem ((hks m).2 (setF_some.2 hm))
     have:((ks.length:Nat):Int)≠0:=by omega
     simpa using this
   go_wp2_with (first
    |(at_lookup;refine wpList_look1F w1 rfl _ _ 108 rfl Tryz.underlying108 (zeroNames w1) rfl hbt1 v rfl hvl ?_;rw[hr])
    |(at_len;refine wpList_lenF _ rfl _ 121 rfl Tryz.underlying121 rfl hm1 ?_;intro ks hnd hks;have hk0:=hpos ks hks))
   go_end0
   refine ⟨rfl,_,h.turn ht v (some b) n false hv1 (fun k hk=>.inr (by rw[hk];exact hG)) ?_ (fun b' hb=>?_) (fun e=>by cases e),hv1.mono fun k hk=>.inr ⟨t,ht,v,by rw[hk];exact hG⟩,fun k hk=>VlS_upd (w:=w) (fun b' hb=>.inl (by rw[hG];exact hb)) ⟨t,ht,rfl⟩ hk⟩
   ·have e : updG G t.1 v (some b) t.1 = G t.1 := by
      rw[updG_row]
      funext y
      by_cases hy:y=v
      ·rw[if_pos hy,hy,hG]
      ·rw[if_neg hy]
    rw[e]
    exact hbt1
   ·cases hb
    rw[updM_row]
    exact ⟨hm1,hex,.inl hG⟩
  ·have hnil : ∀ ks : List Bs, (∀ x, x ∈ ks ↔ setF (fun y => if y = n then false else M t.1 v y) x ≠ none) → (((ks.length : Nat) : Int) == 0) = true := fun ks hks => by
     cases ks with
     |nil=>rfl
     |cons m ks=>exact absurd ⟨m,setF_some.1 ((hks m).1 List.mem_cons_self)⟩ hex
   go_wp2_with (first
    |(at_lookup;refine wpList_look1F w1 rfl _ _ 108 rfl Tryz.underlying108 (zeroNames w1) rfl hbt1 v rfl hvl ?_;rw[hr])
    |(at_len;refine wpList_lenF _ rfl _ 121 rfl Tryz.underlying121 rfl hm1 ?_;intro ks hnd hks;have hk0:=hnil ks hks)
    |(at_delete;refine wpList_delF _ rfl _ _ 108 rfl Tryz.underlying108 rfl hbt1 v rfl hvl ?_;intro w2 hm2 hv2))
   go_end0
   rw[hdelO]at hm2
   have hmv:Mv (fun k=>k=t.2∨k=b) w w2:=(hv1.mono fun k hk=>.inr hk).trans hv2 fun j hj=>.inl (.inl hj)
   refine ⟨rfl,_,h.turn ht v none n false hmv (fun k hk=>hk.imp id fun e=>by rw[e];exact hG) (by rw[updG_row];exact hm2) (fun b hb=>by cases hb) (fun _ m=>?_),hmv.mono fun k hk=>?_,fun k hk=>VlS_upd (w:=w) (fun b hb=>by cases hb) ⟨t,ht,rfl⟩ hk⟩
   ·rw[updM_row]
    show (if m=n then false else M t.1 v m)=false
    cases hc:(if m=n then false else M t.1 v m)with
    |false=>rfl
    |true=>exact absurd ⟨m,hc⟩ hex
   ·rcases hk with hk|hk
    ·exact .inl ⟨t,ht,Eq.symm hk⟩
    ·exact .inr ⟨t,ht,v,by rw[hk];exact hG⟩
end
end Go.Proofs.YtbkkchhimhlhcaaGreatDoor
/- The program's index: of, Len, within, Find. -/
namespace Go.Proofs.YtbkkchhimhlhcaaGreatDoor
open Go.RowKit Go.Sort
open Idn (L B Bs drop_L take_L size_L)
theorem wp_still_drew {P:Program} {id:Nat} {Q:Exit→Act→World→Prop} {a:Act} {w:World} {l:List Oper} (hm:P.follows .mixedOrders=true) (hB:Region.lexB .any l.toArray=true) (h:wpStill P l.toArray w.drew (fun a'=>Q .normal a' w.drew) l a):(Code.region id l.toArray true).wp P Q a w:=
 wp_region_still_lit hm hB h
theorem wp_tail_drew {P : Program} {id : Nat} {Q : Exit → Act → World → Prop} {a : Act} {w : World} {l : List Oper} (n : Nat) (hm : P.follows .mixedOrders = true) (hB : Region.lexTailB .any l.toArray n = true)
  (h:wpStill P l.toArray w.drew (fun a'=>wpList P l.toArray Q (l.drop n) a' w.drew) (l.take n) a):(Code.region id l.toArray true).wp P Q a w:=
 wp_region_still_tail n hm hB h
def ofB (ts:List (Bs×Nat)) (n:Bs):Option Nat:=(ts.find? fun t=>decide (t.1=n)).map (·.2)
theorem tsF_of (ts:List (Bs×Nat)) (n:Bs):(tsF ts n).getD (.map none)=.map (ofB ts n)∧(tsF ts n).isSome=(ofB ts n).isSome:=by
 unfold tsF ofB
 cases ts.find? (fun t=>decide (t.1=n))<;>exact ⟨rfl,rfl⟩
theorem ofB_some {ts:List (Bs×Nat)} {n:Bs} {b:Nat} (h:ofB ts n=some b):(n,b)∈ts:=by
 unfold ofB at h
 cases hf:ts.find? (fun u=>decide (u.1=n))with
 |none=>rw[hf]at h;cases h
 |some u=>
  rw[hf]at h
  injection h with h
  have e:u.1=n:=by simpa using List.find?_some hf
  obtain ⟨u1,u2⟩:=u
  dsimp only at h e
  subst h e
  exact List.mem_of_find?_eq_some hf
theorem ofB_mem {ts:List (Bs×Nat)} {n:Bs}:(ofB ts n).isSome=true↔n∈ts.map (·.1):=by
 unfold ofB
 rw[Option.isSome_map,List.find?_isSome,List.mem_map]
 exact ⟨fun ⟨t,h1,h2⟩=>⟨t,h1,by simpa using h2⟩,fun ⟨t,h1,h2⟩=>⟨t,h1,by simpa using h2⟩⟩
theorem tyName_len {s:Idn.Sch} (hs:SSm s) (n:Bs):(tyLook (sound s) n).1.name.length≤1000000000:=by
 have h0:∀t∈(sound s).types,t.name.length≤1000000000:=by
  unfold sound
  split
  ·exact hs.1.2
  ·simp
 unfold tyLook
 cases Idn.ixT (sound s).types n with
 |none=>simp
 |some k=>
  dsimp only
  cases ht:(sound s).types[k]? with
  |none=>simp
  |some t=>exact h0 t (List.mem_of_getElem? ht)
section
variable {w:World} {hs lo px:Nat} {s:Idn.Sch} {ns:List Bs} {es:List IxE} {ta cb:Value} {eb vb:Nat} {g:Bs→Value} {ts:List (Bs×Nat)} {G:Bs→Bs→Option Nat}
theorem IxV.schema (h:IxV w hs lo px s ns es ta cb eb vb g ts G):SchV w w.heap.size (.agg #[ta,cb]) s:=SchV.mono h.sch h.hsz
theorem IxV.shapes (h:IxV w hs lo px s ns es ta cb eb vb g ts G):∃A n c A' n' c',ta=.slice A n c∧cb=.slice A' n' c':=by
 obtain ⟨a,b,e,hT,hC⟩:=h.sch
 injection e with e
 obtain ⟨A,ca,rfl,_⟩:=SlV.shape hT
 obtain ⟨A',cb',rfl,_⟩:=SlV.shape hC
 simp at e
 exact ⟨_,_,_,_,_,_,e.1,e.2⟩
theorem ixOf_any (hI : IxV w hs lo px s ns es ta cb eb vb g ts G) (hG : GdI s ns es) (a : ByteArray) (ha : a.size ≤ 1000000000) :
  Calls Tryz.prog 115 #[.pointer (some ⟨px,0,none⟩),.string a] w fun e w'=>e=.returned (.tuple #[.map (ofB ts (tyN s (L a))),.bool (ofB ts (tyN s (L a))).isSome])∧Below w.heap.size w w':=by
 have hsch:=hI.schema
 have c0:=hI.c0
 have c1:=hI.c1
 have c2:=hI.c2
 have c3:=hI.c3
 have htop:=hI.vl.top
 obtain ⟨A,n,c,A',n',c',rfl,rfl⟩:=hI.shapes
 have hT:=type_any _ s a w hsch hG.sm ha
 have hlen:=tyName_len hG.sm (L a)
 have htn:tyN s (L a)=(tyLook (sound s) (L a)).1.name:=rfl
 rw[htn]
 generalize tyLook (sound s) (L a)=tl at *
 obtain ⟨⟨tn,ty,tg⟩,tk⟩:=tl
 dsimp only at *
 unfold tyV at hT
 simp only[sv]at hT
 have hfo:=tsF_of ts tn
 generalize ofB ts tn=o at *
 clear hI hsch htn
 go_enter Tryz.func115,Tryz.ntmps115
 go_wp2_with (go_at_call 57;refine (ready_any px eb w c2).mono ?_;rintro e w0 ⟨rfl,rfl⟩)
 refine hT.mono ?_
 rintro e w1 ⟨rfl,hb1⟩
 go_upto_region 4 with fail
 with_reducible refine gen1 (R:=fun W=>Code.wp Tryz.prog _ _ _ W) ?_
 intro W2 hbW2 hszW2 hc _
 have hb2:=hb1.trans (hbW2.mono hb1.size)
 have k0:W2.drew.cell? ⟨w1.heap.size,0,none⟩=some (.string (B tn)):=hc 0 _ rfl
 have k3:W2.drew.cell? ⟨px,3,none⟩=some (.map (some vb)):=cell_later hb2.drew c3
 have hlk:(Instr.lookup 103 (.map (some vb)) (.string (B tn)) true).run Tryz.prog W2.drew=.ok (.tuple #[.map o,.bool o.isSome]) W2.drew:=by
  have hm:MapF W2.drew vb (tsF ts):=(htop.keep hb2).block rfl
  have:=hm.run_look Tryz.underlying103 (zeroByV _) (k:=tn) (by unfold maxLen;omega)
  rwa[hfo.1,hfo.2]at this
 clear hc hszW2
 refine wp_still_drew (by kernel_rfl) (by kernel_rfl) ?_
 repeat still_step
 refine wpStill_nil ?_
 go_wp2
 go_ret2
 exact ⟨rfl,hb2.drew⟩
theorem sComp_rng (s:Idn.Sch) (a v b:Bs):(sComp s a v b).1 = -1∨(sComp s a v b).1=0∨(sComp s a v b).1=1:=by
 have h1:=fun x y=>Idn.tot_int.rng x y
 have h2:=fun x y=>Idn.tot_bytes.rng x y
 unfold sComp
 split
 ·exact .inr (.inl rfl)
 ·split
  ·exact .inr (.inl rfl)
  ·split
   ·exact h1 _ _
   ·split
    ·unfold cmpNm
     split
     ·split
      ·exact tot_cmpL.rng _ _
      ·exact .inl rfl
     ·split
      ·exact .inr (.inr rfl)
      ·exact tot_cmpB.rng _ _
    ·exact h2 _ _
theorem within_any (hI : IxV w hs lo px s ns es ta cb eb vb g ts G) (hG : GdI s ns es) (hE : Env w) (hU : EnvU w) (a v b : ByteArray) (side : Int) (hsd : side = 1 ∨ side = -1) (ha : a.size ≤ 1000000000) (hv : v.size ≤ 100000000) (hb : b.size ≤ 100000000) :
  Calls Tryz.prog 118 #[.pointer (some ⟨px,0,none⟩),.string a,.string v,.string b,.int .i64 side] w fun e w'=>e=.returned (.bool (inB s (L a) (L v) (L b) side))∧Below w.heap.size w w':=by
 have hsch:=hI.schema
 have c0:=hI.c0
 have c1:=hI.c1
 obtain ⟨A,n,c,A',n',c',rfl,rfl⟩:=hI.shapes
 have hC:=schCompare_any _ s a v b w hsch hG.sm hE hU ha hv hb
 have hrng:=sComp_rng s (L a) (L v) (L b)
 have hr:inB s (L a) (L v) (L b) side=((L b).isEmpty||(decide ((sComp s (L a) (L v) (L b)).2=0)&&decide (0≤(sComp s (L a) (L v) (L b)).1*side))):=rfl
 generalize inB s (L a) (L v) (L b) side=r at *
 generalize sComp s (L a) (L v) (L b)=p at *
 obtain ⟨p1,p2⟩:=p
 dsimp only at *
 have HR:=Lib.hid hr
 clear hr hI hsch
 by_cases h0:b.size=0
 ·have hbe:b.toList.isEmpty=true:=by rw[toList_L,empty_L];exact decide_eq_true h0
  have HF:Hid (r=true):=by show _=_;rw[HR.out,empty_L,decide_eq_true h0];rfl
  go_enter Tryz.func118,Tryz.ntmps118
  go_wp2
  go_ret
  exact ⟨ret_bool HF.out.symm,Below.refl _ _⟩
 ·have hbe:b.toList.isEmpty=false:=by rw[toList_L,empty_L];exact decide_eq_false h0
  have HF:Hid (r=(decide (p2=0)&&decide (0≤p1*side))):=by show _=_;rw[HR.out,empty_L,decide_eq_false h0];rfl
  clear HR
  go_enter Tryz.func118,Tryz.ntmps118
  go_wp2_with fail
  refine hC.mono ?_
  rintro e w1 ⟨rfl,hb1⟩
  clear hC
  by_cases h2:p2=0
  ·subst h2
   rcases hrng with rfl|rfl|rfl<;>rcases hsd with rfl|rfl<;>(go_wp2;go_ret;exact ⟨ret_bool HF.out.symm,hb1⟩)
  ·have h2':(p2==0)=false:=by simpa using h2
   have HG:Hid (r=false):=by show _=_;rw[HF.out,decide_eq_false h2];rfl
   go_wp2
   go_ret
   exact ⟨ret_bool HG.out.symm,hb1⟩
end
end Go.Proofs.YtbkkchhimhlhcaaGreatDoor
/- The program's index: Find, Range, present. -/
namespace Go.Proofs.YtbkkchhimhlhcaaGreatDoor
open Go.RowKit Go.Sort
open Idn (L B Bs drop_L take_L size_L)
theorem setF_none {p:Bs→Bool} (h:∀n,p n=false):setF p=fun _=>none:=by
 funext n
 unfold setF
 rw[h n];rfl
theorem RangeF.keepB {w w':World} {b r:Nat} {f:Bs→Option Value} {left:Bs→Bool} (h:RangeF w b r f left) (hb:Below w.heap.size w w'):RangeF w' b r f left:=h.kept (hb.block b h.lt.1) (hb.block r h.lt.2.1)
theorem RangeF.leftB {w w':World} {b r:Nat} {f:Bs→Option Value} {left:Bs→Bool} (h:RangeF w b r f left) (hb:Below w.heap.size w w'):w'.rangeLeft b r=w.rangeLeft b r:=rangeLeft_same (hb.block b h.lt.1) (hb.block r h.lt.2.1)
def RetC (w:World) (r:List Bs×Bool) (e:Ending) (w':World):Prop:=
 ∃v,e=.returned (.tuple #[v,.bool r.2])∧w'.ownsRow w.heap.size 9 1 v r.1.length (r.1.map sv)∧Below w.heap.size w w'
theorem RetC.nil {w w':World} {c:Bool} (h:Below w.heap.size w w'):RetC w ([],c) (.returned (.tuple #[.slice none 0 0,.bool c])) w':=⟨_,rfl,World.ownsRow_nil _ _ _ _,h⟩
section
variable {w:World} {hs lo px:Nat} {s:Idn.Sch} {ns:List Bs} {es:List IxE} {ta cb:Value} {eb vb:Nat} {g:Bs→Value} {ts:List (Bs×Nat)} {G:Bs→Bs→Option Nat}
theorem IxV.indexed (hI:IxV w hs lo px s ns es ta cb eb vb g ts G) (hG:GdI s ns es) (a:Bs):(ofB ts (tyN s a)).isSome=(ns.map Idn.lower).contains (Idn.lower a):=by
 refine bool_ext ?_
 rw[ofB_mem,hI.tsn,look_idx hG.sch hG.typ]
theorem atB_name {es:List IxE} {s:Idn.Sch} {t v n:Bs} (h:atB s es t v n=true):n∈namesE es:=by
 obtain ⟨A,h1,_⟩:=atB_iff.1 h
 exact List.mem_map.2 ⟨_,h1,rfl⟩
theorem GdI.name_len (hG:GdI s ns es) {n:Bs} (h:n∈namesE es):n.length≤1000000:=by
 obtain ⟨e,he,rfl⟩:=List.mem_map.1 h
 exact hG.nam e he
theorem GdI.names_len (hG:GdI s ns es):(namesE es).length≤1000000000:=by
 have:=hG.len
 unfold namesE
 rw[List.length_map];omega
theorem indexed_typ (hG:GdI s ns es) {a:Bs} (h:(ns.map Idn.lower).contains (Idn.lower a)=true):(tyLook s a).2=true:=by
 rw[List.contains_iff_mem,List.mem_map]at h
 obtain ⟨m,hm,e⟩:=h
 rw[←tyLook_cong e]
 exact hG.typ m hm
theorem ixFind_any (hI : IxV w hs lo px s ns es ta cb eb vb g ts G) (hG : GdI s ns es) (hE : ∀ W, Below w.heap.size w W → Env W ∧ EnvU W) (a x : ByteArray) (ha : a.size ≤ 1000000000) (hx : x.size ≤ 100000000) :
    Calls Tryz.prog 47 #[.pointer (some ⟨px,0,none⟩),.string a,.string x] w (RetC w (ixFind s (ns.map Idn.lower) es (L a) (L x))):=by
 have hof:=ixOf_any hI hG a ha
 have hix:=hI.indexed hG (L a)
 have hr:ixFind s (ns.map Idn.lower) es (L a) (L x)=if !(ns.map Idn.lower).contains (Idn.lower (L a))then ([],false)else if (sNorm s (L a) (L x)).2 !=0 then ([],true)else ((es.filter fun e=>(nV s (L a) e.2).contains (sNorm s (L a) (L x)).1).map (·.1),true):=rfl
 rw[←hix]at hr
 generalize ixFind s (ns.map Idn.lower) es (L a) (L x)=r at *
 cases ho:ofB ts (tyN s (L a))with
 |none=>
  rw[ho]at hof hr
  have HR:Hid (r=([],false)):=hr
  clear hr hix
  go_enter Tryz.func47,Tryz.ntmps47
  go_wp2_with fail
  refine hof.mono ?_
  rintro e w1 ⟨rfl,hb1⟩
  go_wp2
  go_ret2
  rw[HR.out]
  exact RetC.nil hb1
 |some bt=>
  rw[ho]at hof hr hix
  have hmem:=ofB_some ho
  have hidx:=hix.symm
  have htl:=tyN_lower hG.sch (indexed_typ hG hidx)
  have HR:Hid (r=if (sNorm s (L a) (L x)).2 !=0 then ([],true)else ((es.filter fun e=>(nV s (L a) e.2).contains (sNorm s (L a) (L x)).1).map (·.1),true)):=hr
  clear hr hix hidx
  have hN:=fun W (hW:Below w.heap.size w W)=>schNormal_any _ s a x W (SchV.mono (SchV.keep hI.schema hW) hW.size) hG.sm (hE W hW).1 (hE W hW).2 ha hx
  have c0:=hI.c0
  have c1:=hI.c1
  have hvl:=hI.vl
  obtain ⟨A,n,c,A',n',c',rfl,rfl⟩:=hI.shapes
  have hsn:(sNorm s (L a) (L x)).1.length≤1000000000:=kNorm_len _ _ _ hx
  generalize sNorm s (L a) (L x)=nn at *
  obtain ⟨nv,ne⟩:=nn
  dsimp only at *
  go_enter Tryz.func47,Tryz.ntmps47
  go_wp2_with fail
  refine hof.mono ?_
  rintro e w1 ⟨rfl,hb1⟩
  clear hof
  replace c0:=cell_later hb1 c0
  replace c1:=cell_later hb1 c1
  go_wp2_with fail
  refine (hN w1 hb1).mono ?_
  rintro e w2 ⟨rfl,hb2⟩
  have hb12:=hb1.trans (hb2.mono hb1.size)
  by_cases h0:ne=0
  ·subst h0
   have hvl2:=hvl.keep hb12
   have hbt:=hvl2.blk _ hmem
   have hmt:∀m,atB s es (tyN s (L a)) nv m=true↔m∈(es.filter fun e=>(nV s (L a) e.2).contains nv).map (·.1):=fun m=>by
    rw[atB_iff,find_atV hG.ok]
    unfold atV
    simp only[nV_cong htl]
   have HG:Hid (r=((es.filter fun e=>(nV s (L a) e.2).contains nv).map (·.1),true)):=HR.out
   clear HR
   cases hg2:G (tyN s (L a)) nv with
   |none=>
    have hr:(mapO (G (tyN s (L a))) nv).getD (.map none)=.map none:=by unfold mapO;rw[hg2];rfl
    have hemp:(es.filter fun e=>(nV s (L a) e.2).contains nv).map (·.1)=[]:=List.eq_nil_iff_forall_not_mem.2 fun m hm=>by
     have:=(hmt m).2 hm
     rw[hvl2.non _ hmem nv hg2 m]at this
     cases this
    have HF:Hid (r=([],true)):=by show _=_;rw[HG.out,hemp]
    clear HG hemp hmt
    go_wp2_with (first
     |(at_lookup;refine wpList_look1F w2 rfl _ _ 108 rfl Tryz.underlying108 (zeroNames w2) rfl hbt nv rfl (by unfold maxLen;omega) ?_;rw[hr])
     |(go_at_call 117;refine (srtNamesNil_any w2).mono ?_;rintro e w3 ⟨rfl,hb3⟩))
    go_ret2
    rw[HF.out]
    exact RetC.nil (hb12.trans (hb3.mono hb12.size))
   |some b=>
    have hr:(mapO (G (tyN s (L a))) nv).getD (.map none)=.map (some b):=by unfold mapO;rw[hg2];rfl
    have hsb:=(hvl2.set _ hmem nv b hg2).1
    have hS:=srtNames_any b _ w2 hsb (l:=namesE es) (fun m hm=>atB_name (setF_some.1 hm)) hG.names_len (fun m hm=>hG.ok.valN m (atB_name (setF_some.1 hm))) (fun m hm=>by have:=hG.name_len (atB_name (setF_some.1 hm));omega)
    go_wp2_with (first
     |(at_lookup;refine wpList_look1F w2 rfl _ _ 108 rfl Tryz.underlying108 (zeroNames w2) rfl hbt nv rfl (by unfold maxLen;omega) ?_;rw[hr])
     |(go_at_call 117;refine hS.mono ?_;rintro e w3 ⟨v,l,rfl,hsl,hml,hown,hb3⟩))
    have hl:l=(es.filter fun e=>(nV s (L a) e.2).contains nv).map (·.1):=sorted_is hG.ok _ hsl fun m=>(hml m).trans (setF_some.trans (hmt m))
    have HF:Hid (r=(l,true)):=by show _=_;rw[HG.out,hl]
    clear hl HG hmt
    go_ret2
    rw[HF.out]
    exact ⟨v,rfl,own_lower hown hb12.size,hb12.trans (hb3.mono hb12.size)⟩
  ·have h0':(ne !=0)=true:=by simpa using h0
   have HF:Hid (r=([],true)):=by show _=_;rw[HR.out,if_pos h0']
   clear HR
   go_wp2
   go_ret2
   rw[HF.out]
   exact RetC.nil hb12
theorem ixRange_any (hI : IxV w hs lo px s ns es ta cb eb vb g ts G) (hG : GdI s ns es) (hE : ∀ W, Below w.heap.size w W → Env W ∧ EnvU W) (a low hi : ByteArray) (ha : a.size ≤ 1000000000) (hlo : low.size ≤ 100000000) (hhi : hi.size ≤ 100000000) :
    Calls Tryz.prog 48 #[.pointer (some ⟨px,0,none⟩),.string a,.string low,.string hi] w (RetC w (ixRange s (ns.map Idn.lower) es (L a) (L low) (L hi))):=by
 have hof:=ixOf_any hI hG a ha
 have hix:=hI.indexed hG (L a)
 have hr:ixRange s (ns.map Idn.lower) es (L a) (L low) (L hi)=if !(ns.map Idn.lower).contains (Idn.lower (L a))then ([],false)else ((es.filter fun e=>(nV s (L a) e.2).any fun v=>inB s (L a) v (L low) 1&&inB s (L a) v (L hi) (-1)).map (·.1),true):=rfl
 rw[←hix]at hr
 generalize ixRange s (ns.map Idn.lower) es (L a) (L low) (L hi)=r at *
 cases ho:ofB ts (tyN s (L a))with
 |none=>
  rw[ho]at hof hr
  have HR:Hid (r=([],false)):=hr
  clear hr hix
  go_enter Tryz.func48,Tryz.ntmps48
  go_wp2_with fail
  refine hof.mono ?_
  rintro e w1 ⟨rfl,hb1⟩
  go_wp2
  go_ret2
  rw[HR.out]
  exact RetC.nil hb1
 |some bt=>
  rw[ho]at hof hr hix
  have hmem:=ofB_some ho
  have hidx:=hix.symm
  have htl:=tyN_lower hG.sch (indexed_typ hG hidx)
  have HR:Hid (r=((es.filter fun e=>(nV s (L a) e.2).any fun v=>inB s (L a) v (L low) 1&&inB s (L a) v (L hi) (-1)).map (·.1),true)):=hr
  clear hr hix hidx
  have hmt:∀m,m∈(es.filter fun e=>(nV s (L a) e.2).any fun v=>inB s (L a) v (L low) 1&&inB s (L a) v (L hi) (-1)).map (·.1)↔∃v,(inB s (L a) v (L low) 1&&inB s (L a) v (L hi) (-1))=true∧atB s es (tyN s (L a)) v m=true:=fun m=>by
   rw[range_atV]
   simp only[atB_iff]
   unfold atV
   simp only[nV_cong htl]
  have hbt:=hI.vl.blk _ hmem
  obtain ⟨ks,hnd,hks,_⟩:=hbt.keys
  have hkm:∀v m,atB s es (tyN s (L a)) v m=true→v∈ks:=fun v m h=>by
   rw[hks]
   cases hg2:G (tyN s (L a)) v with
   |none=>rw[hI.vl.non _ hmem v hg2 m]at h;cases h
   |some b=>exact mapO_some.2 ⟨b,hg2⟩
  have hnames:∀v m,atB s es (tyN s (L a)) v m=true→m∈namesE es:=fun v m h=>atB_name h
  have hvlen:∀x b,G (tyN s (L a)) x=some b→x.length≤256:=fun x b h=>by
   obtain ⟨m,hm⟩:=(hI.vl.set _ hmem x b h).2
   exact atB_len hm
  have hbtl:=hbt.lt
  have hmm:=@run_makeMap Tryz.prog
  obtain ⟨Q,hQ⟩:∃Q:Bs→Bs→Bool,∀v n,Q v n=((inB s (L a) v (L low) 1&&inB s (L a) v (L hi) (-1))&&atB s es (tyN s (L a)) v n):=⟨_,fun _ _=>rfl⟩
  have hQm:∀m,(ks.any fun v=>Q v m)=true↔m∈(es.filter fun e=>(nV s (L a) e.2).any fun v=>inB s (L a) v (L low) 1&&inB s (L a) v (L hi) (-1)).map (·.1):=fun m=>by
   rw[hmt,List.any_eq_true]
   constructor
   ·rintro ⟨v,_,h⟩
    rw[hQ,Bool.and_eq_true]at h
    exact ⟨v,h.1,h.2⟩
   ·rintro ⟨v,h1,h2⟩
    exact ⟨v,hkm v m h2,by rw[hQ,Bool.and_eq_true];exact ⟨h1,h2⟩⟩
  have hQn:∀m,(ks.any fun v=>Q v m)=true→m∈namesE es:=fun m h=>by
   rw[List.any_eq_true]at h
   obtain ⟨v,_,h⟩:=h
   rw[hQ,Bool.and_eq_true]at h
   exact hnames v m h.2
  clear hmt hkm
  go_enter Tryz.func48,Tryz.ntmps48
  go_wp2_with fail
  refine hof.mono ?_
  rintro e w1 ⟨rfl,hb1⟩
  clear hof
  have hbt1:=hbt.keep hb1
  have hba:Below w1.heap.size w1 (w1.alloc (.map #[] 0)):=(Below.refl _ w1).alloc (Nat.le_refl _) _
  have hm0:=MapF.made w1
  have hbt2:=hbt1.keep hba
  have hsz2:(w1.alloc (.map #[] 0)).heap.size=w1.heap.size+1:=by simp
  have hlt1:bt<w1.heap.size:=hbt1.lt
  go_upto_region 5 with fail
  generalize w1.alloc (.map #[] 0)=W at *
  have hW1:w1.heap.size<W.heap.size:=by omega
  clear hsz2
  go_wp2_with (first
   |(at_range;refine wpList_rangeF _ rfl _ 108 rfl Tryz.underlying108 rfl hbt2 ?_;intro w0 hr0 hb0 hs0)
   |go_in)
  go_frame
  have hb0':=hba.trans (hb0.mono hba.size)
  go_loopw [26] (fun _ wr=>∃left:Bs→Bool,RangeF wr bt W.heap.size (mapO (G (tyN s (L a)))) left∧MapF wr w1.heap.size (setF fun n=>ks.any fun v=>!left v&&Q v n)∧Below w1.heap.size w1 wr) (fun _ wr=>wr.rangeLeft bt W.heap.size)
  case atStart=>
   refine ⟨_,hr0,?_,hb0'⟩
   rw[setF_none fun n=>by
    rw[List.any_eq_false]
    intro v hv
    have:=(hks v).1 hv
    cases hmo:mapO (G (tyN s (L a))) v with
    |none=>exact absurd hmo this
    |some u=>simp]
   exact hm0.keep hb0
  case round=>
   obtain ⟨left,hr,hm,hb⟩:=hrel
   go_wp2_with (first
    |(at_next;refine wpList_nextF _ rfl _ rfl rfl hr ?_ ?_)
    |go_in)
   ·intro hl0
    have e:(fun n=>ks.any fun v=>!left v&&Q v n)=fun n=>ks.any fun v=>Q v n:=funext fun n=>by simp[hl0]
    rw[e]at hm
    have hS:=srtNames_any w1.heap.size _ wr hm (l:=namesE es) (fun m hm=>hQn m (setF_some.1 hm)) hG.names_len (fun m hm=>hG.ok.valN m (hQn m (setF_some.1 hm))) (fun m hm=>by have:=hG.name_len (hQn m (setF_some.1 hm));omega)
    go_wp2_with (go_at_call 117;refine hS.mono ?_;rintro e w3 ⟨v,l,rfl,hsl,hml,hown,hb3⟩)
    have hl:l=(es.filter fun e=>(nV s (L a) e.2).any fun v=>inB s (L a) v (L low) 1&&inB s (L a) v (L hi) (-1)).map (·.1):=sorted_is hG.ok _ hsl fun m=>(hml m).trans (setF_some.trans (hQm m))
    have HF:Hid (r=(l,true)):=by show _=_;rw[HR.out,hl]
    have hbw:=hb1.trans ((hb.trans (hb3.mono hb.size)).mono hb1.size)
    have hws:w.heap.size≤wr.heap.size:=Nat.le_trans hb1.size hb.size
    clear hl HR hQm hQn
    go_ret2
    rw[HF.out]
    exact ⟨v,rfl,own_lower hown hws,hbw⟩
   ·intro x c w2 hxl hlx hfx hr2 hlt2 hm2 hsz2 hen
    obtain ⟨b,hgb,rfl⟩:∃b,G (tyN s (L a)) x=some b∧c=.map (some b):=by
     unfold mapO at hfx
     cases hgx:G (tyN s (L a)) x with
     |none=>rw[hgx]at hfx;cases hfx
     |some b=>rw[hgx]at hfx;exact ⟨b,rfl,(Option.some.inj hfx).symm⟩
    have hxk:x∈ks:=(hks x).2 (by rw[hfx];simp)
    have hb2:Below w1.heap.size w1 w2:=hb.trans (hm2.below (lo:=w1.heap.size) (fun j hj=>by have:j=W.heap.size:=hj;omega) hb.size)
    have hbw2:=hb1.trans (hb2.mono hb1.size)
    have hI2:=hI.keep hbw2
    have hx6:=hvlen x b hgb
    have hbb:b<w.heap.size:=(hI.vl.set _ hmem x b hgb).1.lt
    have h1:=within_any hI2 hG (hE w2 hbw2).1 (hE w2 hbw2).2 a (B x) low 1 (.inl rfl) ha (by rw[Idn.size_B];omega) hlo
    have h2:=fun W (hW:Below w2.heap.size w2 W)=>within_any (hI2.keep hW) hG (hE W (hbw2.trans (hW.mono hbw2.size))).1 (hE W (hbw2.trans (hW.mono hbw2.size))).2 a (B x) hi (-1) (.inr rfl) ha (by rw[Idn.size_B];omega) hhi
    rw[Idn.L_B]at h1 h2
    have hQx:=fun n=>hQ x n
    have hmv:MapF w2 w1.heap.size (setF fun n=>ks.any fun v=>!left v&&Q v n):=hm.mv hm2 (by omega)
    have hstep:=fun n=>any_step ks left (fun v=>Q v n) hxk
    clear hsz2 hfx hE hI hlx hxl
    generalize inB s (L a) x (L low) 1=i1 at *
    generalize inB s (L a) x (L hi) (-1)=i2 at *
    cases i1 with
    |false=>
     go_wp2_with fail
     refine h1.mono ?_
     rintro e w3 ⟨rfl,hb3⟩
     go_wp2
     go_roundw
     case rel=>
      refine ⟨_,hr2.keepB hb3,?_,hb2.trans (hb3.mono hb2.size)⟩
      have e:(fun n=>ks.any fun v=>!(left v&&!decide (v=x))&&Q v n)=fun n=>ks.any fun v=>!left v&&Q v n:=funext fun n=>by
       rw[hstep n,hQx n];simp
      rw[e]
      exact hmv.keep hb3
     case measure=>rw[hr2.leftB hb3];exact hlt2
    |true=>
     go_wp2_with fail
     refine h1.mono ?_
     rintro e w3 ⟨rfl,hb3⟩
     go_wp2_with fail
     refine (h2 w3 hb3).mono ?_
     rintro e w4 ⟨rfl,hb4⟩
     have hb24:=hb3.trans (hb4.mono hb3.size)
     have hmv4:=hmv.keep hb24
     have hr4:=hr2.keepB hb24
     have hlt4:w4.rangeLeft bt W.heap.size<wr.rangeLeft bt W.heap.size:=by rw[hr2.leftB hb24];exact hlt2
     cases i2 with
     |false=>
      go_wp2
      go_roundw
      case rel=>
       refine ⟨_,hr4,?_,hb2.trans (hb24.mono hb2.size)⟩
       have e:(fun n=>ks.any fun v=>!(left v&&!decide (v=x))&&Q v n)=fun n=>ks.any fun v=>!left v&&Q v n:=funext fun n=>by
        rw[hstep n,hQx n];simp
       rw[e]
       exact hmv4
      case measure=>exact hlt4
     |true=>
      have hI4:=hI2.keep hb24
      have hsb:=(hI4.vl.set _ hmem x b hgb).1
      have hne:w1.heap.size≠b:=by have:=hb1.size;omega
      have hC:=copy_any w1.heap.size b _ _ w4 hmv4 hsb hne (l:=namesE es) (fun m hm=>by
       rcases hm with hm|hm
       ·refine hQn m ?_
        rw[List.any_eq_true]at hm⊢
        obtain ⟨v,h5,h6⟩:=hm
        rw[Bool.and_eq_true]at h6
        exact ⟨v,h5,h6.2⟩
       ·exact hnames x m hm) hG.names_len
      go_wp2_with (go_at_call 119;refine hC.mono ?_;rintro e w5 ⟨rfl,hm5,hv5⟩)
      go_roundw
      case rel=>
       refine ⟨_,hr4.mv hv5 (by omega) (by omega),?_,(hb2.trans (hb24.mono hb2.size)).trans (hv5.below (lo:=w1.heap.size) (fun j hj=>Nat.le_of_eq (Eq.symm hj)) (by have:=hb2.size;have:=hb24.size;omega))⟩
       have e:(fun n=>ks.any fun v=>!(left v&&!decide (v=x))&&Q v n)=fun n=>(ks.any fun v=>!left v&&Q v n)||atB s es (tyN s (L a)) x n:=funext fun n=>by
        rw[hstep n,hQx n];simp
       rw[e]
       exact hm5
      case measure=>rw[hr4.left_mv hv5 (by omega) (by omega)];exact hlt4
end
end Go.Proofs.YtbkkchhimhlhcaaGreatDoor
