/- Part 30 of the proof that identitylaw12.SearchChecks returns true for every data that it may be called with: proof: the package variables hold what the program lays; nothing else is asked. -/
import Derived.Test.YtbkkchhimhlhcaaGreatDoorSrk28
import Derived.Test.YtbkkchhimhlhcaaGreatDoorSrk29
set_option linter.unusedVariables false
set_option linter.unusedSimpArgs false
set_option maxRecDepth 100000
set_option maxHeartbeats 16000000
/- Plain law of SchemaInherits. -/
namespace Go.Proofs.YtbkkchhimhlhcaaGreatDoor
open Go.RowKit Go.Sort
open Idn (L B Bs)
theorem vals_clean:∀(l p:List Bs),Idn.valsErr p l=0→∀x∈l,Idn.clean x=true
 |[],_,_,x,hx=>by simp at hx
 |v :: l,p,h,x,hx=>by
  unfold Idn.valsErr at h
  split at h
  ·cases h
  ·rename_i h1
   split at h
   ·cases h
   ·rcases List.mem_cons.1 hx with rfl|hx
    ·simpa using h1
    ·exact vals_clean l _ h x hx
theorem atts_clean:∀(l p:List Idn.Att),Idn.attsErr p l=0→∀a∈l,∀x∈a.vals,Idn.clean x=true
 |[],_,_,a,ha=>by simp at ha
 |b :: l,p,h,a,ha=>by
  unfold Idn.attsErr at h
  split at h
  ·rename_i hn;simp[h]at hn
  ·rename_i hn
   have h0:Idn.attErr p b=0:=by simpa using hn
   rcases List.mem_cons.1 ha with rfl|ha
   ·unfold Idn.attErr at h0
    split at h0
    ·cases h0
    ·split at h0
     ·cases h0
     ·split at h0
      ·cases h0
      ·split at h0
       ·cases h0
       ·exact vals_clean _ _ h0
   ·exact atts_clean l _ h a ha
theorem aCheck_clean {l:List Idn.Att} (h:Idn.aCheck l=0):∀a∈l,∀x∈a.vals,Idn.clean x=true:=by
 unfold Idn.aCheck at h
 split at h
 ·cases h
 ·exact atts_clean l [] h
end Go.Proofs.YtbkkchhimhlhcaaGreatDoor
/- Plain functions: what the layer entry and the rest of the layer attrs compute. -/
namespace Go.Proofs.YtbkkchhimhlhcaaGreatDoor
open Go.RowKit Go.Sort
open Idn (L B Bs)
def eCheck (n:Bs) (l:List Idn.Att):Int:=if n.isEmpty||!validN n then 5 else Idn.aCheck l
def aSet (l:List Idn.Att) (n:Bs) (v:List Bs):List Idn.Att:=Idn.rSorted (l.filter (fun a=>!decide (a.name=Idn.lower n))++[⟨Idn.lower n,v⟩])
def aLim (l:List Idn.Att) (n:Bs):List Idn.Att×Int:=if 32<l.length∨16<(rGet l n).length then ([],3)else (l,0)
structure Md where
 op:Int
 name:Bs
 vals:List Bs
def minus (a b:List Bs):List Bs:=a.filter fun x=>!b.contains x
end Go.Proofs.YtbkkchhimhlhcaaGreatDoor
/- Plain laws: the general normal form of attributes; attributes in the order of their names. -/
namespace Idn
open Go
theorem mem_lows {l:List Att} {m:Bs}:m∈lows l↔valsOf l m≠[]:=by
 unfold lows valsOf
 rw[Ne,List.flatMap_eq_nil_iff,List.mem_map]
 constructor
 ·rintro ⟨a,ha,rfl⟩ h
  rw[List.mem_filter]at ha
  have:=h a (List.mem_filter.2 ⟨ha.1,by simp⟩)
  rw[this]at ha;simp at ha
 ·intro h
  refine Decidable.byContradiction fun hn=>h fun a ha=>?_
  rw[List.mem_filter]at ha
  refine Decidable.byContradiction fun hv=>hn ⟨a,List.mem_filter.2 ⟨ha.1,?_⟩,by simpa using ha.2⟩
  simpa using List.length_pos_iff.2 hv
theorem sort_names {q : List Att} {ns : List Bs} {f : Bs → Att} (h1 : ∀ a ∈ q, a = f a.name) (h2 : (q.map (·.name)).Nodup) (h3 : ∀ m, m ∈ q.map (·.name) ↔ m ∈ ns) (h4 : ns.Pairwise (· < ·)) :
  q.mergeSort (fun a b=>decide (a.name≤b.name))=ns.map f:=by
 have hp:(q.mergeSort fun a b=>decide (a.name≤b.name)).Perm q:=List.mergeSort_perm _ _
 have hs : (q.mergeSort fun a b => decide (a.name ≤ b.name)).Pairwise fun a b => decide (a.name ≤ b.name) = true := List.pairwise_mergeSort (fun a b c h1 h2 => by
   rw[decide_eq_true_eq]at *;exact List.le_trans h1 h2) (fun a b=>by
   rw[Bool.or_eq_true,decide_eq_true_eq,decide_eq_true_eq];exact List.le_total _ _) _
 generalize (q.mergeSort fun a b=>decide (a.name≤b.name))=r at *
 have e:r.map (·.name)=ns:=by
  refine uniq _ _ ?_ h4 fun x=>by rw[(hp.map (·.name)).mem_iff];exact h3 x
  rw[←(hp.map (·.name)).nodup_iff]at h2
  rw[List.pairwise_map]
  rw[List.nodup_iff_pairwise_ne,List.pairwise_map]at h2
  refine List.Pairwise.imp₂ ?_ hs h2
  intro a b h1 h2
  rw[decide_eq_true_eq]at h1
  exact Decidable.byContradiction fun hn=>h2 (List.le_antisymm h1 (List.not_lt.1 hn))
 rw[←e,List.map_map]
 have:∀a∈r,(f∘(·.name)) a=a:=fun a ha=>(h1 a (hp.mem_iff.1 ha)).symm
 rw[List.map_congr_left this,List.map_id']
theorem grp_vals {l:List Att} {b:Att} (hb:b∈grp [] l):b.vals=valsOf l b.name:=by
 have h1:=tot_self (grp [] l) (grp_nd l [] (by simp)) b hb
 rw[grp_tot _ l [] (by simp)]at h1
 exact h1.symm
def full (a:Att):Bool:=decide (a.vals.length≠0)
theorem sortedG_law (l:List Att):(((grp [] l).filter full).map normA).mergeSort (fun a b=>decide (a.name≤b.name))=rSorted l:=by
 refine sort_names (f:=rOne l) (fun a ha=>?_) ?_ (fun m=>?_) (insAll_lt _)
 ·obtain ⟨b,hb,rfl⟩:=List.mem_map.1 ha
  have hv:=grp_vals (List.mem_filter.1 hb).1
  unfold normA rOne
  dsimp only
  rw[←hv]
  congr 1
  exact law b.vals
 ·rw[norm_names]
  exact (List.filter_sublist.map _).nodup (grp_nd l [] (by simp))
 ·rw[norm_names,insAll_mem,mem_lows]
  constructor
  ·intro h
   obtain ⟨b,hb,rfl⟩:=List.mem_map.1 h
   rw[List.mem_filter]at hb
   rw[←grp_vals hb.1]
   intro e
   have:=hb.2
   unfold full at this
   rw[e]at this
   simp at this
  ·intro h
   have hm:m∈(grp [] l).map (·.name):=by
    rw[grp_names]
    have h2:=mem_lows.2 h
    unfold lows at h2
    obtain ⟨a,ha,rfl⟩:=List.mem_map.1 h2
    exact .inr (List.mem_map.2 ⟨a,(List.mem_filter.1 ha).1,rfl⟩)
   obtain ⟨b,hb,rfl⟩:=List.mem_map.1 hm
   refine List.mem_map.2 ⟨b,List.mem_filter.2 ⟨hb,?_⟩,rfl⟩
   unfold full
   rw[grp_vals hb,decide_eq_true_eq]
   intro e
   exact h (List.eq_nil_of_length_eq_zero e)
theorem attErr_zero {p:List Att} {a:Att} (h:attErr p a=0):name a.name=true∧ixA p a.name=none∧a.vals.length≠0∧a.vals.length≤16∧valsErr [] a.vals=0:=by
 unfold attErr at h
 split at h
 ·cases h
 ·rename_i h1
  split at h
  ·cases h
  ·rename_i h2
   split at h
   ·cases h
   ·rename_i h3
    split at h
    ·cases h
    ·rename_i h4
     exact ⟨by simpa using h1,by simpa using h2,h3,by omega,h⟩
theorem atts_nd:∀(l p:List Att),attsErr p l=0→(∀a∈l,∀b∈p,lower b.name≠lower a.name)∧(l.map fun a=>lower a.name).Nodup∧∀a∈l,name a.name=true∧valsErr [] a.vals=0
 |[],_,_=>by simp
 |c :: l,p,h=>by
  rw[attsErr]at h
  by_cases hb:attErr p c=0
  ·rw[if_neg (by simpa using hb)]at h
   obtain ⟨z1,z2,z3,z4,z5⟩:=attErr_zero hb
   obtain ⟨i1,i2,i3⟩:=atts_nd l (p++[c]) h
   have hc:∀b∈p,lower b.name≠lower c.name:=fun b hbm=>by
    have:=List.findIdx?_eq_none_iff.1 z2 b hbm
    simpa using this
   refine ⟨fun a ha b hbm=>?_,?_,fun a ha=>?_⟩
   ·rcases List.mem_cons.1 ha with rfl|ha
    ·exact hc b hbm
    ·exact i1 a ha b (List.mem_append_left _ hbm)
   ·rw[List.map_cons,List.nodup_cons]
    refine ⟨fun hm=>?_,i2⟩
    obtain ⟨a,ha,e⟩:=List.mem_map.1 hm
    exact i1 a ha c (List.mem_append_right _ (by simp)) e.symm
   ·rcases List.mem_cons.1 ha with rfl|ha
    ·exact ⟨z1,z5⟩
    ·exact i3 a ha
  ·rw[if_pos (by simpa using hb)]at h
   exact absurd h hb
theorem aCheck_all {l:List Att} (h:aCheck l=0):l.length≤32∧(l.map fun a=>lower a.name).Nodup∧∀a∈l,name a.name=true∧valsErr [] a.vals=0:=by
 unfold aCheck at h
 split at h
 ·cases h
 ·obtain ⟨_,h2,h3⟩:=atts_nd l [] h
  exact ⟨by omega,h2,h3⟩
def lastV (l:List Att) (n:Bs):List Bs:=l.foldl (fun acc a=>if lower a.name=n then a.vals else acc) []
end Idn
namespace Go.Proofs.YtbkkchhimhlhcaaGreatDoor
open Go.RowKit Go.Sort
open Idn (L B Bs)
theorem tyLook_low (s:Idn.Sch) (n:Bs):tyLook s (Idn.lower n)=tyLook s n:=by unfold tyLook Idn.ixT;rw[Idn.lower_lower]
theorem sNorm_low (s:Idn.Sch) (n v:Bs):sNorm s (Idn.lower n) v=sNorm s n v:=by unfold sNorm kNorm;rw[tyLook_low]
end Go.Proofs.YtbkkchhimhlhcaaGreatDoor
/- Plain laws: the changes of attributes by the reference are the layer's; differences. -/
namespace Idn
open Go
theorem find_name (f : Bs → Att) (hf : ∀ n, (f n).name = n) (n : Bs) : ∀ ns : List Bs, (match (ns.map f).findIdx? (fun a => decide (a.name = n)) with
    |none=>[]
    |some k=>match (ns.map f)[k]? with|none=>[]|some a=>a.vals)=if n∈ns then (f n).vals else []
 |[]=>by simp
 |m :: ns=>by
  have ih:=find_name f hf n ns
  rw[List.map_cons,List.findIdx?_cons,hf m]
  by_cases h:m=n
  ·subst h;simp
  ·have hn:n≠m:=fun e=>h e.symm
   simp only[h,decide_false,Bool.false_eq_true,if_false,List.mem_cons,hn,false_or]
   rw[←ih]
   cases (ns.map f).findIdx? (fun a=>decide (a.name=n))with
   |none=>rfl
   |some k=>simp
theorem insAll_length {v:List Bs} (h:v.Nodup):(insAll v).length=v.length:=by
 have h1:(insAll v).Nodup:=(insAll_lt v).imp fun h e=>by subst e;exact List.lt_irrefl _ h
 exact ((List.perm_ext_iff_of_nodup h1 h).2 fun x=>insAll_mem v x).length_eq
theorem insAll_nodup (v:List Bs):(insAll v).Nodup:=(insAll_lt v).imp fun h e=>by subst e;exact List.lt_irrefl _ h
theorem valsOf_app (x y:List Att) (n:Bs):valsOf (x++y) n=valsOf x n++valsOf y n:=by unfold valsOf;rw[List.filter_append,List.flatMap_append]
theorem rSorted_name {l:List Att} {a:Att} (h:a∈rSorted l):lower a.name=a.name:=by
 unfold rSorted at h
 obtain ⟨m,hm,rfl⟩:=List.mem_map.1 h
 rw[insAll_mem]at hm
 unfold lows at hm
 obtain ⟨b,_,rfl⟩:=List.mem_map.1 hm
 exact lower_lower _
end Idn
namespace Go.Proofs.YtbkkchhimhlhcaaGreatDoor
open Go.RowKit Go.Sort
open Idn (L B Bs)
theorem rGet_law (l:List Idn.Att) (n:Bs):rGet l n=Idn.insAll (Idn.valsOf l (Idn.lower n)):=by
 unfold rGet Idn.rSorted
 refine Eq.trans (Idn.find_name (Idn.rOne l) (fun _=>rfl) (Idn.lower n) (Idn.insAll (Idn.lows l))) ?_
 split
 ·rfl
 ·rename_i h
  rw[Idn.insAll_mem,Idn.mem_lows]at h
  rw[Decidable.not_not.1 h];rfl
theorem valsOf_sorted (m:List Idn.Att) (n:Bs):Idn.valsOf (Idn.rSorted m) (Idn.lower n)=Idn.insAll (Idn.valsOf m (Idn.lower n)):=by
 unfold Idn.rSorted
 have hlow:∀x∈Idn.insAll (Idn.lows m),Idn.lower x=x:=fun x hx=>by
  rw[Idn.insAll_mem]at hx
  unfold Idn.lows at hx
  obtain ⟨b,_,rfl⟩:=List.mem_map.1 hx
  exact Idn.lower_lower _
 have hnd:=Idn.insAll_nodup (Idn.lows m)
 have hmem:Idn.lower n∈Idn.insAll (Idn.lows m)↔Idn.valsOf m (Idn.lower n)≠[]:=by rw[Idn.insAll_mem,Idn.mem_lows]
 generalize Idn.insAll (Idn.lows m)=ns at *
 have key:∀ns:List Bs,(∀x∈ns,Idn.lower x=x)→ns.Nodup→Idn.valsOf (ns.map (Idn.rOne m)) (Idn.lower n)=if Idn.lower n∈ns then Idn.insAll (Idn.valsOf m (Idn.lower n))else []:=by
  intro ns
  induction ns with
  |nil=>intro _ _;rfl
  |cons x ns ih=>
   intro h1 h2
   rw[List.nodup_cons]at h2
   have ih:=ih (fun y hy=>h1 y (List.mem_cons_of_mem _ hy)) h2.2
   have hx:=h1 x List.mem_cons_self
   unfold Idn.valsOf at ih⊢
   rw[List.map_cons]
   by_cases he:x=Idn.lower n
   ·have hn:Idn.lower n∉ns:=he▸h2.1
    rw[if_neg hn]at ih
    rw[List.filter_cons_of_pos (by show decide (Idn.lower x=Idn.lower n)=true;rw[hx,he];simp),List.flatMap_cons,ih,List.append_nil,if_pos (by rw[he];exact List.mem_cons_self)]
    show Idn.insAll (Idn.valsOf m x)=_
    rw[he];rfl
   ·rw[List.filter_cons_of_neg (by show ¬decide (Idn.lower x=Idn.lower n)=true;rw[hx];simpa using he),ih]
    have:Idn.lower n∈x :: ns↔Idn.lower n∈ns:=by
     rw[List.mem_cons]
     exact ⟨fun h=>h.resolve_left fun e=>he e.symm,.inr⟩
    simp only[this]
 rw[key ns hlow hnd]
 split
 ·rfl
 ·rename_i h
  rw[hmem,Decidable.not_not]at h
  rw[h];rfl
theorem insAll_idem (v:List Bs):Idn.insAll (Idn.insAll v)=Idn.insAll v:=Idn.uniq _ _ (Idn.insAll_lt _) (Idn.insAll_lt _) fun x=>by rw[Idn.insAll_mem]
theorem vErr_nd (old:List Bs):∀(l p:List Bs),vErr old p l=0→p.Nodup→(∀x∈p,x∉old)→(p++l).Nodup∧∀x∈p++l,x∉old
 |[],p,_,h1,h2=>by rw[List.append_nil];exact ⟨h1,h2⟩
 |v :: l,p,h,h1,h2=>by
  rw[vErr]at h
  split at h
  ·cases h
  ·split at h
   ·cases h
   ·rename_i h3
    split at h
    ·cases h
    ·rename_i h4
     rw[List.contains_iff_mem]at h3 h4
     have:=vErr_nd old l (p++[v]) h (by rw[List.nodup_append];exact ⟨h1,by simp,fun a ha b hb e=>by simp at hb;subst hb;subst e;exact h4 ha⟩) (fun x hx=>by
      rcases List.mem_append.1 hx with hx|hx
      ·exact h2 x hx
      ·simp at hx;subst hx;exact h3)
     rw[List.append_assoc]at this
     exact this
end Go.Proofs.YtbkkchhimhlhcaaGreatDoor
/- Plain laws: the differences of two entries by the reference are the layer's. -/
namespace Go.Proofs.YtbkkchhimhlhcaaGreatDoor
open Go.RowKit Go.Sort
open Idn (L B Bs)
theorem rSorted_pw (l:List Idn.Att):((Idn.rSorted l).map (·.name)).Pairwise (· < ·):=by
 have:(Idn.rSorted l).map (·.name)=Idn.insAll (Idn.lows l):=by
  unfold Idn.rSorted
  rw[List.map_map]
  exact List.map_id' _
 rw[this]
 exact Idn.insAll_lt _
theorem insAll_ne {v:List Bs} (h:v≠[]):(Idn.insAll v).length≠0:=by
 intro e
 have e2:=List.eq_nil_of_length_eq_zero e
 cases v with
 |nil=>exact h rfl
 |cons x v=>
  have:=(Idn.insAll_mem (x :: v) x).2 List.mem_cons_self
  rw[e2]at this;cases this
theorem rSorted_full (l:List Idn.Att):∀a∈Idn.rSorted l,a.vals.length≠0:=by
 intro a ha
 unfold Idn.rSorted at ha
 obtain ⟨m,hm,rfl⟩:=List.mem_map.1 ha
 rw[Idn.insAll_mem,Idn.mem_lows]at hm
 exact insAll_ne hm
end Go.Proofs.YtbkkchhimhlhcaaGreatDoor
/- Plain law of EntryStable. -/
namespace Go.Proofs.YtbkkchhimhlhcaaGreatDoor
open Go.RowKit Go.Sort
open Idn (L B Bs)
def Nor (s:Idn.Sch) (n:Bs) (l:List Bs):Prop:=∀x∈l,sNorm s n x=(x,0)
def QN (s:Idn.Sch) (l:List Idn.Att):Prop:=Idn.rSorted l=l∧∀a∈l,Nor s a.name a.vals
theorem Nor.low {s:Idn.Sch} {n:Bs} {l:List Bs} (h:Nor s n l):Nor s (Idn.lower n) l:=fun x hx=>by rw[sNorm_low];exact h x hx
theorem Nor.same {s:Idn.Sch} {n m:Bs} {l:List Bs} (h:Nor s n l) (e:Idn.lower n=Idn.lower m):Nor s m l:=fun x hx=>by rw[←sNorm_low,←e,sNorm_low];exact h x hx
theorem mem_valsOf {l:List Idn.Att} {n x:Bs}:x∈Idn.valsOf l n↔∃a∈l,Idn.lower a.name=n∧x∈a.vals:=by
 unfold Idn.valsOf
 rw[List.mem_flatMap]
 constructor
 ·rintro ⟨a,ha,hx⟩
  rw[List.mem_filter,decide_eq_true_eq]at ha
  exact ⟨a,ha.1,ha.2,hx⟩
 ·rintro ⟨a,h1,h2,hx⟩
  exact ⟨a,List.mem_filter.2 ⟨h1,by rw[decide_eq_true_eq];exact h2⟩,hx⟩
theorem valsOf_nor {s:Idn.Sch} {l:List Idn.Att} (h:∀a∈l,Nor s a.name a.vals) (n:Bs):Nor s n (Idn.valsOf l (Idn.lower n)):=fun x hx=>by
 obtain ⟨a,ha,e,hx⟩:=mem_valsOf.1 hx
 exact Nor.same (h a ha) e x hx
theorem rSorted_nor {s:Idn.Sch} {l:List Idn.Att} (h:∀a∈l,Nor s a.name a.vals):∀a∈Idn.rSorted l,Nor s a.name a.vals:=by
 intro a ha x hx
 have hl:=Idn.rSorted_name ha
 unfold Idn.rSorted at ha
 obtain ⟨m,hm,rfl⟩:=List.mem_map.1 ha
 have hx:x∈Idn.insAll (Idn.valsOf l m):=hx
 rw[Idn.insAll_mem]at hx
 have hl:Idn.lower m=m:=hl
 rw[←hl]at hx
 exact valsOf_nor h m x hx
theorem rSorted_idem (l:List Idn.Att):Idn.rSorted (Idn.rSorted l)=Idn.rSorted l:=by
 have e1:Idn.insAll (Idn.lows (Idn.rSorted l))=Idn.insAll (Idn.lows l):=by
  refine Idn.uniq _ _ (Idn.insAll_lt _) (Idn.insAll_lt _) fun x=>?_
  rw[Idn.insAll_mem]
  have:Idn.lows (Idn.rSorted l)=Idn.insAll (Idn.lows l):=by
   rw[Idn.lows_all (rSorted_full l)]
   have h2:∀a∈Idn.rSorted l,Idn.lower a.name=a.name:=fun a ha=>Idn.rSorted_name ha
   rw[List.map_congr_left h2]
   unfold Idn.rSorted
   rw[List.map_map]
   exact List.map_id' _
  rw[this]
 have e2:∀n∈Idn.insAll (Idn.lows l),Idn.rOne (Idn.rSorted l) n=Idn.rOne l n:=fun n hn=>by
  have hn:Idn.lower n=n:=by
   rw[Idn.insAll_mem]at hn
   unfold Idn.lows at hn
   obtain ⟨b,_,rfl⟩:=List.mem_map.1 hn
   exact Idn.lower_lower _
  have h:=valsOf_sorted l n
  rw[hn]at h
  unfold Idn.rOne
  rw[h,insAll_idem]
 rw[show Idn.rSorted (Idn.rSorted l)=(Idn.insAll (Idn.lows (Idn.rSorted l))).map (Idn.rOne (Idn.rSorted l)) from rfl,e1,List.map_congr_left e2]
 rfl
theorem QN.sorted {s:Idn.Sch} {l:List Idn.Att} (h:∀a∈l,Nor s a.name a.vals):QN s (Idn.rSorted l):=⟨rSorted_idem l,rSorted_nor h⟩
theorem QN.full {s:Idn.Sch} {l:List Idn.Att} (h:QN s l):∀a∈l,a.vals.length≠0:=fun a ha=>rSorted_full l a (h.1.symm▸ha)
theorem QN.name {s:Idn.Sch} {l:List Idn.Att} (h:QN s l):∀a∈l,Idn.lower a.name=a.name:=fun a ha=>Idn.rSorted_name (l:=l) (h.1.symm▸ha)
theorem QN.set {s:Idn.Sch} {l:List Idn.Att} (h:QN s l) {n:Bs} {v:List Bs} (hv:Nor s n v):QN s (aSet (Idn.rSorted l) n v):=by
 unfold aSet
 refine QN.sorted fun a ha=>?_
 rcases List.mem_append.1 ha with ha|ha
 ·have:=(List.mem_filter.1 ha).1
  rw[h.1]at this
  exact h.2 a this
 ·rw[List.mem_singleton]at ha
  subst ha
  exact hv.low
theorem QN.lim {s:Idn.Sch} {l:List Idn.Att} (h:QN s l) (n:Bs) {r:List Idn.Att} (hr:aLim l n=(r,0)):QN s r:=by
 unfold aLim at hr
 split at hr
 ·simp at hr
 ·simp only[Prod.mk.injEq,and_true]at hr
  subst hr;exact h
end Go.Proofs.YtbkkchhimhlhcaaGreatDoor
/- Plain law of EntryTurns. -/
namespace Go.Proofs.YtbkkchhimhlhcaaGreatDoor
open Go.RowKit Go.Sort
open Idn (L B Bs)
theorem rSorted_ext {S T:List Idn.Att} (h:∀m,rGet S m=rGet T m):Idn.rSorted S=Idn.rSorted T:=by
 have hv:∀m,Idn.lower m=m→Idn.insAll (Idn.valsOf S m)=Idn.insAll (Idn.valsOf T m):=fun m hm=>by
  have:=h m
  rw[rGet_law,rGet_law,hm]at this
  exact this
 have low:∀(l:List Idn.Att) m,m∈Idn.lows l→Idn.lower m=m:=fun l m hm=>by
  unfold Idn.lows at hm
  obtain ⟨a,_,rfl⟩:=List.mem_map.1 hm
  exact Idn.lower_lower _
 have ne:∀v:List Bs,v≠[]↔Idn.insAll v≠[]:=fun v=>by
  constructor
  ·intro h e;exact insAll_ne h (by rw[e];rfl)
  ·intro h e;exact h (by rw[e];rfl)
 have hmem:∀m,m∈Idn.lows S↔m∈Idn.lows T:=fun m=>by
  constructor
  ·intro hm
   have hl:=low S m hm
   rw[Idn.mem_lows,ne,←hv m hl,←ne,←Idn.mem_lows];exact hm
  ·intro hm
   have hl:=low T m hm
   rw[Idn.mem_lows,ne,hv m hl,←ne,←Idn.mem_lows];exact hm
 have e1:Idn.insAll (Idn.lows S)=Idn.insAll (Idn.lows T):=Idn.uniq _ _ (Idn.insAll_lt _) (Idn.insAll_lt _) fun x=>by rw[Idn.insAll_mem,Idn.insAll_mem];exact hmem x
 unfold Idn.rSorted
 rw[e1]
 refine List.map_congr_left fun m hm=>?_
 rw[Idn.insAll_mem]at hm
 unfold Idn.rOne
 rw[hv m (low T m hm)]
theorem QN.ext {s:Idn.Sch} {S T:List Idn.Att} (h1:QN s S) (h2:QN s T) (h:∀m,rGet S m=rGet T m):S=T:=by
 rw[←h1.1,←h2.1];exact rSorted_ext h
structure Turned (s:Idn.Sch) (S:List Idn.Att) (n:Bs) (v:List Bs) (S':List Idn.Att):Prop where
 q:QN s S'
 g:∀m,Idn.lower m=m→rGet S' m=if m=n then v else rGet S m
theorem Turned.trans {s:Idn.Sch} {S S' S'':List Idn.Att} {n:Bs} {v v':List Bs} (h:Turned s S n v S') (h':Turned s S' n v' S''):Turned s S n v' S'':=
 ⟨h'.q,fun m hm=>by
  rw[h'.g m hm]
  split
  ·rfl
  ·rename_i e;rw[h.g m hm,if_neg e]⟩
section
variable {s:Idn.Sch} {S:List Idn.Att} {n:Bs} {old new:List Bs}
end
end Go.Proofs.YtbkkchhimhlhcaaGreatDoor
/- The values of the small case of identitylaw08, reckoned. -/
namespace Go.Proofs.YtbkkchhimhlhcaaGreatDoor
open Go.RowKit Go.Sort
open Idn (L B Bs)
namespace E8
def personN:Bs:=[112,101,114,115,111,110]
def cnN:Bs:=[99,110]
def snN:Bs:=[115,110]
def numN:Bs:=[110,117,109]
def smallS:Idn.Sch:=⟨[⟨Idn.mainN,1,false⟩,⟨cnN,1,false⟩,⟨snN,1,false⟩,⟨numN,3,false⟩],[⟨personN,[],[Idn.mainN,cnN],[snN,numN]⟩]⟩
def annN:Bs:=[99,110,61,97,110,110]
def bobL:List Idn.Att:=[⟨Idn.mainN,[personN]⟩,⟨cnN,[[98,111,98]]⟩,⟨numN,[[55]]⟩]
def twoL:List Idn.Att:=[⟨numN,[[50],[51]]⟩]
theorem ev_c5:eCheck annN twoL=0:=by kernel_rfl
end E8
end Go.Proofs.YtbkkchhimhlhcaaGreatDoor
/- Modifications and entries in memory. -/
namespace Go.Proofs.YtbkkchhimhlhcaaGreatDoor
open Go.RowKit Go.Sort
open Idn (L B Bs)
def EMd (w:World) (hi:Nat) (x:Md) (cs:List Value):Prop:=∃v,cs=[.int .i64 x.op,sv x.name,v]∧StrsV w hi v x.vals
abbrev ModsV (w:World) (hi:Nat) (v:Value) (l:List Md):Prop:=SlV (EMd w hi) w hi 3 v l
theorem EMd.keep {w w':World} {hi:Nat} {x:Md} {cs:List Value} (h:EMd w hi x cs) (hb:Below hi w w'):EMd w' hi x cs:=by
 obtain ⟨v,h1,h2⟩:=h
 exact ⟨v,h1,SlV.keep h2 hb⟩
theorem EMd.mono {w:World} {hi hi':Nat} {x:Md} {cs:List Value} (h:EMd w hi x cs) (hh:hi≤hi'):EMd w hi' x cs:=by
 obtain ⟨v,h1,h2⟩:=h
 exact ⟨v,h1,SlV.mono h2 hh⟩
theorem ModsV.keep {w w':World} {hi:Nat} {v:Value} {l:List Md} (h:ModsV w hi v l) (hb:Below hi w w'):ModsV w' hi v l:=SlV.keepE h hb fun _ _ _ he=>he.keep hb
theorem ModsV.mono {w:World} {hi hi':Nat} {v:Value} {l:List Md} (h:ModsV w hi v l) (hh:hi≤hi'):ModsV w hi' v l:=
 SlV.mono (SlV.keepE h (Below.refl _ _) fun _ _ _ he=>he.mono hh) hh
theorem ModsV.cell {w : World} {hi : Nat} {A : Option Addr} {n c : Nat} {l : List Md} (h : ModsV w hi (.slice A n c) l) {k : Nat} (hk : k < l.length) :
  ∃b off v,A=some ⟨b,off,none⟩∧b<hi∧w.cell? ⟨b,off+k*3,none⟩=some (.int .i64 l[k].op)∧w.cell? ⟨b,off+k*3+1,none⟩=some (.string (B l[k].name))∧w.cell? ⟨b,off+k*3+2,none⟩=some v∧StrsV w hi v l[k].vals:=by
 obtain ⟨b,off,hA,hb,cs,h1,⟨v,h2,h4⟩,h3⟩:=h.at_ hk
 subst h2
 exact ⟨b,off,v,hA,hb,by simpa using h3 0 _ rfl,by simpa[sv,Nat.add_assoc]using h3 1 _ rfl,by simpa[Nat.add_assoc]using h3 2 _ rfl,h4⟩
def EntW (w:World) (hi:Nat) (v:Value) (n:Bs) (l:List Idn.Att):Prop:=∃a,v=.agg #[.string (B n),a]∧AttsV w hi a l
theorem EntW.keep {w w':World} {hi:Nat} {v:Value} {n:Bs} {l:List Idn.Att} (h:EntW w hi v n l) (hb:Below hi w w'):EntW w' hi v n l:=by
 obtain ⟨a,e,h1⟩:=h
 exact ⟨a,e,AttsV.keep h1 hb⟩
theorem EntW.mono {w:World} {hi hi':Nat} {v:Value} {n:Bs} {l:List Idn.Att} (h:EntW w hi v n l) (hh:hi≤hi'):EntW w hi' v n l:=by
 obtain ⟨a,e,h1⟩:=h
 exact ⟨a,e,AttsV.mono h1 hh⟩
end Go.Proofs.YtbkkchhimhlhcaaGreatDoor
/- name.Valid, entry.Check. -/
namespace Go.Proofs.YtbkkchhimhlhcaaGreatDoor
open Go.RowKit Go.Sort
open Idn (L B Bs drop_L take_L size_L)
theorem nm_valid_any (s : ByteArray) (w : World) (hs : s.size ≤ 1000000000) :
  Calls Tryz.prog 58 #[.string s] w fun e w'=>e=.returned (.bool (validN (L s)))∧Below w.heap.size w w':=by
 have hN:=nm_normal_any s w hs
 have hv:=normal_valid (L s)
 generalize Idn.normal (L s)=r at *
 generalize validN (L s)=b at *
 obtain ⟨l,d⟩:=r
 subst hv
 go_enter Tryz.func58,Tryz.ntmps58
 go_wp2_with fail
 refine hN.mono ?_
 rintro e w1 ⟨v,rfl,hown,hb⟩
 clear hN
 go_wp2
 go_ret
 exact ⟨rfl,hb⟩
end Go.Proofs.YtbkkchhimhlhcaaGreatDoor
/- entry: normal, twice. -/
namespace Go.Proofs.YtbkkchhimhlhcaaGreatDoor
open Go.RowKit Go.Sort
open Idn (L B Bs drop_L take_L size_L)
end Go.Proofs.YtbkkchhimhlhcaaGreatDoor
/- entry: the order of Normal: slices.SortFunc at attributes, by their names in lower case. -/
namespace Go.Proofs.YtbkkchhimhlhcaaGreatDoor
open Go.RowKit Go.Sort
open Idn (L B Bs drop_L take_L size_L)
def RowV (w:World) (base:Nat) (v:Value) (ps:List (Idn.Att×Value)):Prop:=
 w.ownsRow base 96 2 v ps.length (rowA ps)∧∀p∈ps,∃A c,p.2=.slice A p.1.vals.length c
end Go.Proofs.YtbkkchhimhlhcaaGreatDoor
/- Plain functions: what the layer filter computes. -/
namespace Go.Proofs.YtbkkchhimhlhcaaGreatDoor
open Go.RowKit Go.Sort
open Idn (L B Bs)
inductive Flt where
 |mk (kind:Int) (name value:Bs) (parts:List Bs) (kids:List Flt)
namespace Flt
def kind:Flt→Int|.mk k _ _ _ _=>k
def name:Flt→Bs|.mk _ n _ _ _=>n
def value:Flt→Bs|.mk _ _ v _ _=>v
def parts:Flt→List Bs|.mk _ _ _ p _=>p
def kids:Flt→List Flt|.mk _ _ _ _ l=>l
end Flt
mutual
def fSize:Flt→Nat
 |.mk _ _ _ _ ks=>fSizes ks+1
def fSizes:List Flt→Nat
 |[]=>0
 |f :: l=>fSize f+fSizes l
end
mutual
def fDep:Flt→Nat
 |.mk _ _ _ _ ks=>fDeps ks+1
def fDeps:List Flt→Nat
 |[]=>0
 |f :: l=>max (fDep f) (fDeps l)
end
def isCmp (k:Int):Bool:=decide (4≤k)&&decide (k≤8)
def prtF (s:Bs):Bool:=s.all Idn.printable&&decide (s.length≤256)
def partsF (l:List Bs):Bool:=decide (2≤l.length)&&(decide (l.length≤16)&&(!((l.drop 1).dropLast.contains [])&&l.any fun s=>!s.isEmpty))
def formF (k:Int) (n v:Bs) (ps:List Bs) (m:Nat):Bool:=
 if k=1∨k=2 then n.isEmpty&&(v.isEmpty&&ps.isEmpty)
 else if k=3 then n.isEmpty&&(v.isEmpty&&(ps.isEmpty&&decide (m=1)))
 else if k=4∨k=5∨k=6 then ps.isEmpty&&decide (m=0)
 else if k=7 then v.isEmpty&&(ps.isEmpty&&decide (m=0))
 else if k=8 then v.isEmpty&&(decide (m=0)&&partsF ps)
 else false
def ownErr (k:Int) (n v:Bs) (ps:List Bs) (m:Nat):Int:=
 if !formF k n v ps m then 4 else if isCmp k then (if !Idn.name n then 5 else if (decide (k≤6)&&!Idn.clean v)||ps.any fun s=>!prtF s then 8 else 0)else 0
mutual
def nodeErr:Flt→Int
 |.mk k n v ps ks=>if ownErr k n v ps ks.length !=0 then ownErr k n v ps ks.length else nodeErrs ks
def nodeErrs:List Flt→Int
 |[]=>0
 |f :: l=>if nodeErr f !=0 then nodeErr f else nodeErrs l
end
def fCheck (f:Flt):Int:=if 64<fSize f∨8<fDep f then 3 else nodeErr f
def escF1 (c:UInt8):Bs:=if c=40 then [92,50,56]else if c=41 then [92,50,57]else if c=42 then [92,50,97]else if c=92 then [92,53,99]else [c]
def escF (l:Bs):Bs:=l.flatMap escF1
def txtF (k:Int) (n v:Bs) (ps:List Bs) (kids:Bs):Bs:=
 if k=1 then [40,38]++kids++[41]
 else if k=2 then [40,124]++kids++[41]
 else if k=3 then [40,33]++kids++[41]
 else if k=4 then [40]++n++[61]++escF v++[41]
 else if k=5 then [40]++n++[62,61]++escF v++[41]
 else if k=6 then [40]++n++[60,61]++escF v++[41]
 else if k=7 then [40]++n++[61,42,41]
 else [40]++n++[61]++Idn.joinL [42] (ps.map escF)++[41]
mutual
def fTxt:Flt→Bs
 |.mk k n v ps ks=>txtF k n v ps (fTxts ks)
def fTxts:List Flt→Bs
 |[]=>[]
 |f :: l=>fTxt f++fTxts l
end
def fText (f:Flt):Bs×Int:=if fCheck f !=0 then ([],fCheck f)else if 4096<(fTxt f).length then ([],3)else (fTxt f,0)
def fnd (p:Bs):Bs→Option Bs
 |[]=>if p=[]then some []else none
 |c :: l=>if p.isPrefixOf (c :: l)then some ((c :: l).drop p.length)else fnd p l
def fnds:List Bs→Bs→Option Bs
 |[],r=>some r
 |p :: l,r=>(fnd p r).bind (fnds l)
def cutP (p s:Bs):Option Bs:=if p.isPrefixOf s then some (s.drop p.length)else none
def cutS (p s:Bs):Option Bs:=if p.isSuffixOf s then some (s.take (s.length-p.length))else none
def exactF (x:Bs) (l:List Bs):Bool:=((cutP (l.headD []) x).bind fun r=>(cutS (l.getLastD []) r).bind fun r=>fnds (l.drop 1).dropLast r).isSome
def foldF (x:Bs) (l:List Bs):Bool:=
 if l.length<2 then false else match (cutP (Idn.lower (l.headD [])) (Idn.fold x)).bind fun r=>fnds ((l.drop 1).dropLast.map Idn.lower) r with
 |none=>false
 |some r=>(Idn.lower (l.getLastD [])).isSuffixOf r
def satF (s:Idn.Sch) (y k:Int) (n v:Bs) (ps:List Bs) (x:Bs):Bool:=
 if k=7 then true
 else if k=8 then decide ((sNorm s n x).2=0)&&((decide (y=1)&&foldF x ps)||(decide (y=2)&&exactF x ps))
 else decide ((sComp s n x v).2=0)&&((decide (k=4)&&decide ((sComp s n x v).1=0))||((decide (k=5)&&decide (0≤(sComp s n x v).1))||(decide (k=6)&&decide ((sComp s n x v).1≤0))))
def cmpF (s:Idn.Sch) (A:List Idn.Att) (k:Int) (n v:Bs) (ps:List Bs):Bool:=
 (tyLook (sound s) n).2&&(rGet A n).any fun x=>satF s (tyLook (sound s) n).1.syn k n v ps x
mutual
def fMat (s:Idn.Sch) (A:List Idn.Att):Flt→Bool
 |.mk k n v ps ks=>if k=1 then fAll s A ks else if k=2 then fAny s A ks else if k=3 then !fAll s A ks else cmpF s A k n v ps
def fAll (s:Idn.Sch) (A:List Idn.Att):List Flt→Bool
 |[]=>true
 |f :: l=>fMat s A f&&fAll s A l
def fAny (s:Idn.Sch) (A:List Idn.Att):List Flt→Bool
 |[]=>false
 |f :: l=>fMat s A f||fAny s A l
end
def fMatch (s:Idn.Sch) (A:List Idn.Att) (f:Flt):Bool:=decide (fCheck f=0)&&fMat s A f
end Go.Proofs.YtbkkchhimhlhcaaGreatDoor
/- Plain laws of filters: induction, lists of kids, negations moved inward. -/
namespace Go.Proofs.YtbkkchhimhlhcaaGreatDoor
open Go.RowKit Go.Sort
open Idn (L B Bs)
theorem fSize_mem {f:Flt}:∀{l:List Flt},f∈l→fSize f≤fSizes l
 |g :: l,h=>by
  rw[fSizes]
  rcases List.mem_cons.1 h with rfl|h
  ·omega
  ·have:=fSize_mem h;omega
theorem Flt.ind {p:Flt→Prop} (h:∀k n v ps ks,(∀f∈ks,p f)→p (.mk k n v ps ks)):∀f,p f:=by
 have key:∀(m:Nat) (f:Flt),fSize f≤m→p f:=by
  intro m
  induction m with
  |zero=>intro f hf;cases f;rw[fSize]at hf;omega
  |succ m ih=>
   intro f hf
   cases f with
   |mk k n v ps ks=>
    refine h k n v ps ks fun g hg=>ih g ?_
    have:=fSize_mem hg
    rw[fSize]at hf;omega
 exact fun f=>key _ f (Nat.le_refl _)
theorem fSizes_sum:∀l:List Flt,fSizes l=(l.map fSize).sum
 |[]=>rfl
 |f :: l=>by rw[fSizes,fSizes_sum l];simp
theorem fSizes_append (a b:List Flt):fSizes (a++b)=fSizes a+fSizes b:=by simp[fSizes_sum]
theorem fSize_pos (f:Flt):0<fSize f:=by cases f;rw[fSize];omega
theorem fDep_pos (f:Flt):0<fDep f:=by cases f;rw[fDep];omega
theorem fDeps_le {l:List Flt} {n:Nat}:fDeps l≤n↔∀f∈l,fDep f≤n:=by
 induction l with
 |nil=>simp[fDeps]
 |cons g l ih=>rw[fDeps,List.forall_mem_cons,←ih];omega
theorem fAll_eq (s:Idn.Sch) (A:List Idn.Att):∀l:List Flt,fAll s A l=l.all (fMat s A)
 |[]=>rfl
 |f :: l=>by rw[fAll,fAll_eq s A l];simp
theorem fAny_eq (s:Idn.Sch) (A:List Idn.Att):∀l:List Flt,fAny s A l=l.any (fMat s A)
 |[]=>rfl
 |f :: l=>by rw[fAny,fAny_eq s A l];simp
theorem nodeErrs_zero {l:List Flt}:nodeErrs l=0↔∀f∈l,nodeErr f=0:=by
 induction l with
 |nil=>simp[nodeErrs]
 |cons g l ih=>
  rw[nodeErrs,List.forall_mem_cons,←ih]
  by_cases h:nodeErr g=0<;>simp[h]
theorem nodeErr_zero {k:Int} {n v:Bs} {ps:List Bs} {ks:List Flt}:nodeErr (.mk k n v ps ks)=0↔ownErr k n v ps ks.length=0∧∀f∈ks,nodeErr f=0:=by
 rw[nodeErr,←nodeErrs_zero]
 by_cases h:ownErr k n v ps ks.length=0<;>simp[h]
theorem ownErr_form {k:Int} {n v:Bs} {ps:List Bs} {m:Nat} (h:ownErr k n v ps m=0):formF k n v ps m=true:=by
 unfold ownErr at h
 by_cases hf:formF k n v ps m=true
 ·exact hf
 ·simp[hf]at h
theorem form_not {n v:Bs} {ps:List Bs} {m:Nat} (h:formF 3 n v ps m=true):n=[]∧v=[]∧ps=[]∧m=1:=by
 unfold formF at h
 rw[if_neg (by omega),if_pos rfl]at h
 simpa using h
theorem one_kid {l:List Flt} (h:l.length=1):∃g,l=[g]:=by
 match l,h with
 |[g],_=>exact ⟨g,rfl⟩
theorem fCheck_zero {f:Flt}:fCheck f=0↔fSize f≤64∧fDep f≤8∧nodeErr f=0:=by
 unfold fCheck
 by_cases h:64<fSize f∨8<fDep f
 ·rw[if_pos h];constructor
  ·intro e;cases e
  ·omega
 ·rw[if_neg h]
  have:fSize f≤64∧fDep f≤8:=by omega
  simp[this]
end Go.Proofs.YtbkkchhimhlhcaaGreatDoor
/- Filters in memory: a value of api.Filter that reads as a filter; d bounds the depth of its kids. -/
namespace Go.Proofs.YtbkkchhimhlhcaaGreatDoor
open Go.RowKit Go.Sort
open Idn (L B Bs drop_L take_L size_L)
def FltC (w:World) (hi:Nat):Nat→Flt→List Value→Prop
 |0,_,_=>False
 |d+1,f,cs=>∃pv kv,cs=[.int .i64 f.kind,sv f.name,sv f.value,pv,kv]∧StrsV w hi pv f.parts∧SlV (FltC w hi d) w hi 5 kv f.kids
abbrev FltsV (w:World) (hi d:Nat) (v:Value) (l:List Flt):Prop:=SlV (FltC w hi d) w hi 5 v l
def FltV (w:World) (hi d:Nat) (v:Value) (f:Flt):Prop:=
 ∃pv kv,v=.agg #[.int .i64 f.kind,.string (B f.name),.string (B f.value),pv,kv]∧StrsV w hi pv f.parts∧FltsV w hi d kv f.kids
theorem FltC.keep {w w':World} {hi:Nat} (hb:Below hi w w'):∀{d:Nat} {f:Flt} {cs:List Value},FltC w hi d f cs→FltC w' hi d f cs
 |0,_,_,h=>h
 |d+1,_,_,h=>by
  obtain ⟨pv,kv,h1,h2,h3⟩:=h
  exact ⟨pv,kv,h1,SlV.keep h2 hb,SlV.keepE h3 hb fun _ _ _ he=>FltC.keep hb he⟩
theorem FltC.mono {w:World} {hi hi':Nat} (hh:hi≤hi'):∀{d:Nat} {f:Flt} {cs:List Value},FltC w hi d f cs→FltC w hi' d f cs
 |0,_,_,h=>h
 |d+1,_,_,h=>by
  obtain ⟨pv,kv,h1,h2,h3⟩:=h
  exact ⟨pv,kv,h1,SlV.mono h2 hh,SlV.mono (SlV.keepE h3 (Below.refl _ _) fun _ _ _ he=>FltC.mono hh he) hh⟩
theorem FltC.deep {w:World} {hi:Nat}:∀{d d':Nat} {f:Flt} {cs:List Value},d≤d'→FltC w hi d f cs→FltC w hi d' f cs
 |0,_,_,_,_,h=>h.elim
 |d+1,0,_,_,hd,_=>by omega
 |d+1,d'+1,_,_,hd,h=>by
  obtain ⟨pv,kv,h1,h2,h3⟩:=h
  exact ⟨pv,kv,h1,h2,SlV.keepE h3 (Below.refl _ _) fun _ _ _ he=>FltC.deep (by omega) he⟩
theorem FltsV.keep {w w':World} {hi d:Nat} {v:Value} {l:List Flt} (h:FltsV w hi d v l) (hb:Below hi w w'):FltsV w' hi d v l:=SlV.keepE h hb fun _ _ _ he=>FltC.keep hb he
theorem FltsV.mono {w:World} {hi hi' d:Nat} {v:Value} {l:List Flt} (h:FltsV w hi d v l) (hh:hi≤hi'):FltsV w hi' d v l:=
 SlV.mono (SlV.keepE h (Below.refl _ _) fun _ _ _ he=>FltC.mono hh he) hh
theorem FltV.keep {w w':World} {hi d:Nat} {v:Value} {f:Flt} (h:FltV w hi d v f) (hb:Below hi w w'):FltV w' hi d v f:=by
 obtain ⟨pv,kv,h1,h2,h3⟩:=h
 exact ⟨pv,kv,h1,SlV.keep h2 hb,FltsV.keep h3 hb⟩
theorem FltV.mono {w:World} {hi hi' d:Nat} {v:Value} {f:Flt} (h:FltV w hi d v f) (hh:hi≤hi'):FltV w hi' d v f:=by
 obtain ⟨pv,kv,h1,h2,h3⟩:=h
 exact ⟨pv,kv,h1,SlV.mono h2 hh,FltsV.mono h3 hh⟩
theorem FltV.on {w w':World} {d:Nat} {v:Value} {f:Flt} (h:FltV w w.heap.size d v f) (hb:Below w.heap.size w w'):FltV w' w'.heap.size d v f:=FltV.mono (FltV.keep h hb) hb.size
theorem FltsV.on {w w':World} {d:Nat} {v:Value} {l:List Flt} (h:FltsV w w.heap.size d v l) (hb:Below w.heap.size w w'):FltsV w' w'.heap.size d v l:=FltsV.mono (FltsV.keep h hb) hb.size
theorem FltsV.cell {w : World} {hi d : Nat} {A : Option Addr} {n c : Nat} {l : List Flt} (h : FltsV w hi d (.slice A n c) l) {k : Nat} (hk : k < l.length) :
    ∃b off pv kv,A=some ⟨b,off,none⟩∧b<hi∧w.cell? ⟨b,off+k*5,none⟩=some (.int .i64 l[k].kind)∧w.cell? ⟨b,off+k*5+1,none⟩=some (.string (B l[k].name))∧w.cell? ⟨b,off+k*5+2,none⟩=some (.string (B l[k].value))∧
     w.cell? ⟨b,off+k*5+3,none⟩=some pv∧w.cell? ⟨b,off+k*5+4,none⟩=some kv∧0<d∧StrsV w hi pv l[k].parts∧FltsV w hi (d-1) kv l[k].kids:=by
 obtain ⟨b,off,hA,hb,cs,h1,h2,h3⟩:=h.at_ hk
 cases d with
 |zero=>exact h2.elim
 |succ d=>
  obtain ⟨pv,kv,rfl,hp,hq⟩:=h2
  exact ⟨b,off,pv,kv,hA,hb,by simpa using h3 0 _ rfl,by simpa[sv,Nat.add_assoc]using h3 1 _ rfl,by simpa[sv,Nat.add_assoc]using h3 2 _ rfl,by simpa[Nat.add_assoc]using h3 3 _ rfl,by simpa[Nat.add_assoc]using h3 4 _ rfl,by omega,hp,by simpa using hq⟩
end Go.Proofs.YtbkkchhimhlhcaaGreatDoor
/- One block that a reader turns: what reads with the block emptied reads whatever the block holds. -/
namespace Go.Proofs.YtbkkchhimhlhcaaGreatDoor
open Go.RowKit Go.Sort
open Idn (L B Bs drop_L take_L size_L)
section
variable {w w':World} {b:Nat}
end
end Go.Proofs.YtbkkchhimhlhcaaGreatDoor
/- Plain: the filters whose text forms are read back; what a filter that Check accepts is. -/
namespace Go.Proofs.YtbkkchhimhlhcaaGreatDoor
open Go.RowKit Go.Sort
open Idn (L B Bs)
def nStop (c:UInt8):Bool:=[40,41,42,92,61,60,62].contains c
def rdName (n:Bs):Bool:=n.all (fun c=>!nStop c)&&!([38,124,33].contains (n.headD 0))
mutual
def rdOk:Flt→Prop
 |.mk k n v ps ks=>((k=1∨k=2∨(k=3∧ks.length=1))∧n=[]∧v=[]∧ps=[]∧rdOks ks)∨(rdName n=true∧ks=[]∧(((k=4∨k=5∨k=6)∧ps=[])∨(k=7∧v=[]∧ps=[])∨(k=8∧v=[]∧2≤ps.length∧ps≠[[],[]])))
def rdOks:List Flt→Prop
 |[]=>True
 |f :: l=>rdOk f∧rdOks l
end
theorem nameC_plain:((List.range 256).all fun n=>!Idn.nameC (UInt8.ofNat n)||(!nStop (UInt8.ofNat n)&&![38,124,33].contains (UInt8.ofNat n)))=true:=by decide +kernel
mutual
def fOk:Flt→Prop
 |.mk _ n v ps ks=>(n.length≤100000∧v.length≤100000∧ps.length≤1000∧∀x∈ps,x.length≤1100000)∧fOks ks
def fOks:List Flt→Prop
 |[]=>True
 |f :: l=>fOk f∧fOks l
end
theorem fOks_all {l:List Flt}:fOks l↔∀f∈l,fOk f:=by
 induction l with
 |nil=>simp[fOks]
 |cons f l ih=>rw[fOks,List.forall_mem_cons,ih]
theorem fOk_own {f:Flt} (h:fOk f):f.name.length≤100000∧f.value.length≤100000∧f.parts.length≤1000∧∀x∈f.parts,x.length≤1100000:=by
 cases f;rw[fOk]at h;exact h.1
theorem fOk_kids {f:Flt} (h:fOk f):∀g∈f.kids,fOk g:=by
 cases f;rw[fOk]at h;exact fOks_all.1 h.2
def FSm (n:Nat) (f:Flt):Prop:=fSize f≤n∧fOk f
def FSms (n:Nat) (l:List Flt):Prop:=fSizes l≤n∧∀f∈l,fOk f
theorem FSm.kids {n:Nat} {f:Flt} (h:FSm n f):FSms n f.kids:=⟨by have:=h.1;cases f;rw[fSize]at this;show fSizes _≤_;simp only[Flt.kids];omega,fOk_kids h.2⟩
theorem FSms.mem {n:Nat} {l:List Flt} (h:FSms n l) {f:Flt} (hf:f∈l):FSm n f:=⟨Nat.le_trans (fSize_mem hf) h.1,h.2 f hf⟩
theorem fSizes_len:∀l:List Flt,l.length≤fSizes l
 |[]=>Nat.le_refl _
 |f :: l=>by have h1:=fSizes_len l;have h2:=fSize_pos f;rw[fSizes,List.length_cons];omega
theorem FSms.len {n:Nat} {l:List Flt} (h:FSms n l):l.length≤n:=Nat.le_trans (fSizes_len l) h.1
theorem fDep_size:∀f:Flt,fDep f≤fSize f:=by
 intro f
 induction f using Flt.ind with
 |h k n v ps ks ih=>
  rw[fDep,fSize]
  have:fDeps ks≤fSizes ks:=fDeps_le.2 fun f hf=>Nat.le_trans (ih f hf) (fSize_mem hf)
  omega
end Go.Proofs.YtbkkchhimhlhcaaGreatDoor
/- Plain functions: what the layer index computes. -/
namespace Go.Proofs.YtbkkchhimhlhcaaGreatDoor
open Go.RowKit Go.Sort
open Idn (L B Bs)
abbrev IxE:=Bs×List Idn.Att
def nV (s:Idn.Sch) (a:Bs) (A:List Idn.Att):List Bs:=(rGet A a).filterMap fun v=>if (sNorm s a v).2=0 then some (sNorm s a v).1 else none
def ixNew (s:Idn.Sch):List Bs→List Bs→Int×List Bs
 |[],acc=>(0,acc)
 |n :: l,acc=>if !(tyLook (sound s) n).2 then (6,[])else if acc.contains (Idn.lower n)then (7,[])else ixNew s l (acc++[Idn.lower n])
def insE (n:Bs) (A:List Idn.Att):List IxE→List IxE
 |[]=>[(n,A)]
 |x :: l=>if cmpNm x.1 n<0 then x :: insE n A l else if x.1=n then (n,A) :: l else (n,A) :: x :: l
def hasE (es:List IxE) (n:Bs):Bool:=es.any fun e=>e.1==n
def ixPut (es:List IxE) (n:Bs) (A:List Idn.Att):Int×List IxE:=
 if n.isEmpty||!validN n then (5,es)else if Idn.aCheck A !=0 then (Idn.aCheck A,es)else if !hasE es n&&decide (256≤es.length)then (3,es)else (0,insE n (Idn.rSorted A) es)
def ixDrop (es:List IxE) (n:Bs):List IxE:=es.filter fun e=>e.1 !=n
def inB (s:Idn.Sch) (a v b:Bs) (side:Int):Bool:=b.isEmpty||(decide ((sComp s a v b).2=0)&&decide (0≤(sComp s a v b).1*side))
def ixRange (s:Idn.Sch) (idx:List Bs) (es:List IxE) (a low hi:Bs):List Bs×Bool:=
 if !idx.contains (Idn.lower a)then ([],false)else ((es.filter fun e=>(nV s a e.2).any fun v=>inB s a v low 1&&inB s a v hi (-1)).map (·.1),true)
def ixFind (s:Idn.Sch) (idx:List Bs) (es:List IxE) (a x:Bs):List Bs×Bool:=
 if !idx.contains (Idn.lower a)then ([],false)else if (sNorm s a x).2 !=0 then ([],true)else ((es.filter fun e=>(nV s a e.2).contains (sNorm s a x).1).map (·.1),true)
def ixPres (idx:List Bs) (es:List IxE) (a:Bs):List Bs×Bool:=
 if !idx.contains (Idn.lower a)then ([],false)else ((es.filter fun e=>decide (0<(rGet e.2 a).length)).map (·.1),true)
def ixBound (s:Idn.Sch) (idx:List Bs) (es:List IxE) (k:Int) (a x:Bs):List Bs×Bool:=
 if !idx.contains (Idn.lower a)then ([],false)else if x.isEmpty then ([],true)else if k=5 then ixRange s idx es a x []else ixRange s idx es a [] x
def bestC:List (List Bs×Bool)→List Bs×Bool→List Bs×Bool
 |[],b=>b
 |c :: l,b=>bestC l (if c.2&&(!b.2||decide (c.1.length<b.1.length))then (c.1,true)else b)
def someC (es:List IxE) (l:List (List Bs×Bool)):List Bs×Bool:=if l.all (·.2)then ((es.map (·.1)).filter fun n=>l.any fun c=>c.1.contains n,true)else ([],false)
mutual
def ixCand (s:Idn.Sch) (idx:List Bs) (es:List IxE):Flt→List Bs×Bool
 |.mk k n v _ ks=>if k=4 then ixFind s idx es n v else if k=5∨k=6 then ixBound s idx es k n v else if k=7 then ixPres idx es n
  else if k=1 then bestC (ixCands s idx es ks) ([],false)else if k=2 then someC es (ixCands s idx es ks)else ([],false)
def ixCands (s:Idn.Sch) (idx:List Bs) (es:List IxE):List Flt→List (List Bs×Bool)
 |[]=>[]
 |f :: l=>ixCand s idx es f :: ixCands s idx es l
end
end Go.Proofs.YtbkkchhimhlhcaaGreatDoor
/- Plain laws of the layer index: ranges by normal forms and by values; entries in their order. -/
namespace Go.Proofs.YtbkkchhimhlhcaaGreatDoor
open Go.RowKit Go.Sort
open Idn (L B Bs)
def srtE (es:List IxE):Prop:=es.Pairwise fun x y=>cmpNm x.1 y.1<0
end Go.Proofs.YtbkkchhimhlhcaaGreatDoor
/- Plain laws of the layer index: the order of names, lists in that order, unions of lists. -/
namespace Go.Proofs.YtbkkchhimhlhcaaGreatDoor
open Go.RowKit Go.Sort
open Idn (L B Bs)
theorem ordr_nm:Ordr cmpNm (fun u=>validN u=true):=by
 have key:∀u,validN u=true→∃l,Idn.check l=0∧u=Idn.fmtJ l∧Idn.normal u=(l.map Idn.nrm,true):=fun u hu=>by
  unfold validN at hu
  rw[Bool.and_eq_true,beq_iff_eq,beq_iff_eq]at hu
  obtain ⟨l,hc,e,_,_,hn⟩:=Idn.clean_form (v:=u) (u:=u) (Prod.ext hu.2 hu.1)
  exact ⟨l,hc,e,hn⟩
 refine Ordr.of_key tot_cmpL (fun a=>(Idn.normal a).1.reverse) ?_ ?_
 ·intro a b ha hb
  obtain ⟨l,_,_,hn⟩:=key a ha
  obtain ⟨m,_,_,hm⟩:=key b hb
  unfold cmpNm
  rw[hn,hm];rfl
 ·intro a b ha hb e
  obtain ⟨l,_,hu,hn⟩:=key a ha
  obtain ⟨m,_,hu2,hm⟩:=key b hb
  rw[hn,hm]at e
  have e2:l.map Idn.nrm=m.map Idn.nrm:=by simpa using e
  rw[hu,hu2,←Idn.fmtJ_nrm l,←Idn.fmtJ_nrm m,e2]
theorem nm_irr {a:Bs} (ha:validN a=true):cmpNm a a=0:=(ordr_nm.eq a a ha ha).2 rfl
theorem nm_lt {a b c:Bs} (ha:validN a=true) (hb:validN b=true) (hc:validN c=true) (h1:cmpNm a b<0) (h2:cmpNm b c<0):cmpNm a c<0:=by
 have h:=ordr_nm.tr a b c ha hb hc (by omega) (by omega)
 rcases Int.lt_or_eq_of_le h with h|h
 ·exact h
 ·have e:=(ordr_nm.eq a c ha hc).1 h
  subst e
  have:=ordr_nm.neg a b ha hb
  omega
def srtN (l:List Bs):Prop:=l.Pairwise fun x y=>cmpNm x y<0
theorem srtN_uniq:∀{l m:List Bs},srtN l→srtN m→(∀x∈l,validN x=true)→(∀x,x∈l↔x∈m)→l=m
 |[],[],_,_,_,_=>rfl
 |[],y :: m,_,_,_,h=>absurd ((h y).2 List.mem_cons_self) (by simp)
 |x :: l,[],_,_,_,h=>absurd ((h x).1 List.mem_cons_self) (by simp)
 |x :: l,y :: m,hl,hm,hv,h=>by
  have hx:=hv x List.mem_cons_self
  have hy:=hv y ((h y).2 List.mem_cons_self)
  obtain ⟨l1,l2⟩:=List.pairwise_cons.1 hl
  obtain ⟨m1,m2⟩:=List.pairwise_cons.1 hm
  have e:x=y:=by
   rcases List.mem_cons.1 ((h x).1 List.mem_cons_self)with e|e
   ·exact e
   ·rcases List.mem_cons.1 ((h y).2 List.mem_cons_self)with e'|e'
    ·exact e'.symm
    ·have a1:=m1 x e
     have a2:=l1 y e'
     have:=ordr_nm.neg x y hx hy
     omega
  subst e
  rw[srtN_uniq l2 m2 (fun z hz=>hv z (List.mem_cons_of_mem _ hz)) fun z=>?_]
  constructor
  ·intro hz
   rcases List.mem_cons.1 ((h z).1 (List.mem_cons_of_mem _ hz))with e|e
   ·subst e
    have:=l1 z hz
    rw[nm_irr hx]at this;omega
   ·exact e
  ·intro hz
   rcases List.mem_cons.1 ((h z).2 (List.mem_cons_of_mem _ hz))with e|e
   ·subst e
    have:=m1 z hz
    rw[nm_irr hx]at this;omega
   ·exact e
end Go.Proofs.YtbkkchhimhlhcaaGreatDoor
/- Plain laws of the layer index: entries put into their place, candidates. -/
namespace Go.Proofs.YtbkkchhimhlhcaaGreatDoor
open Go.RowKit Go.Sort
open Idn (L B Bs)
def namesE (es:List IxE):List Bs:=es.map (·.1)
structure OkE (es:List IxE):Prop where
 srt:srtE es
 val:∀e∈es,validN e.1=true
theorem OkE.tail {x:IxE} {l:List IxE} (h:OkE (x :: l)):OkE l:=⟨(List.pairwise_cons.1 h.srt).2,fun e he=>h.val e (List.mem_cons_of_mem _ he)⟩
theorem OkE.srtN {es:List IxE} (h:OkE es):srtN (namesE es):=List.pairwise_map.2 h.srt
theorem OkE.valN {es:List IxE} (h:OkE es):∀n∈namesE es,validN n=true:=fun n hn=>by
 obtain ⟨e,he,rfl⟩:=List.mem_map.1 hn
 exact h.val e he
theorem OkE.nil:OkE []:=⟨List.Pairwise.nil,by simp⟩
theorem insE_mem {n:Bs} {A:List Idn.Att} (hn:validN n=true):∀{es:List IxE},OkE es→∀e:IxE,e∈insE n A es↔e=(n,A)∨(e∈es∧e.1≠n)
 |[],_,e=>by simp[insE]
 |x :: l,h,e=>by
  obtain ⟨h1,h2⟩:=List.pairwise_cons.1 h.srt
  have hx:=h.val x List.mem_cons_self
  have hl:=fun y (hy:y∈l)=>h.val y (List.mem_cons_of_mem _ hy)
  unfold insE
  by_cases c1:cmpNm x.1 n<0
  ·rw[if_pos c1,List.mem_cons,insE_mem hn h.tail e,List.mem_cons]
   have hne:x.1≠n:=fun e=>by rw[e,nm_irr hn]at c1;omega
   constructor
   ·rintro (rfl|h|h)
    ·exact .inr ⟨.inl rfl,hne⟩
    ·exact .inl h
    ·exact .inr ⟨.inr h.1,h.2⟩
   ·rintro (h|⟨rfl|h,h'⟩)
    ·exact .inr (.inl h)
    ·exact .inl rfl
    ·exact .inr (.inr ⟨h,h'⟩)
  ·rw[if_neg c1]
   have later:∀y∈l,y.1≠n:=fun y hy e=>by
    have:=h1 y hy
    rw[e]at this
    exact c1 this
   by_cases c2:x.1=n
   ·rw[if_pos c2,List.mem_cons,List.mem_cons]
    constructor
    ·rintro (h|h)
     ·exact .inl h
     ·exact .inr ⟨.inr h,later e h⟩
    ·rintro (h|⟨rfl|h,h'⟩)
     ·exact .inl h
     ·exact absurd c2 h'
     ·exact .inr h
   ·rw[if_neg c2,List.mem_cons,List.mem_cons]
    constructor
    ·rintro (h|rfl|h)
     ·exact .inl h
     ·exact .inr ⟨.inl rfl,c2⟩
     ·exact .inr ⟨.inr h,later e h⟩
    ·rintro (h|⟨h,_⟩)
     ·exact .inl h
     ·exact .inr h
theorem insE_ok {n:Bs} {A:List Idn.Att} (hn:validN n=true):∀{es:List IxE},OkE es→OkE (insE n A es)
 |[],_=>⟨by unfold insE srtE;simp,by simp[insE,hn]⟩
 |x :: l,h=>by
  obtain ⟨h1,h2⟩:=List.pairwise_cons.1 h.srt
  have hx:=h.val x List.mem_cons_self
  have hl:=fun y (hy:y∈l)=>h.val y (List.mem_cons_of_mem _ hy)
  have hval:∀e∈insE n A (x :: l),validN e.1=true:=fun e he=>by
   rcases (insE_mem hn h e).1 he with rfl|⟨he,_⟩
   ·exact hn
   ·exact h.val e he
  refine ⟨?_,hval⟩
  unfold insE
  by_cases c1:cmpNm x.1 n<0
  ·rw[if_pos c1]
   refine List.pairwise_cons.2 ⟨fun y hy=>?_,(insE_ok hn h.tail).srt⟩
   rcases (insE_mem hn h.tail y).1 hy with rfl|⟨hy,_⟩
   ·exact c1
   ·exact h1 y hy
  ·rw[if_neg c1]
   by_cases c2:x.1=n
   ·rw[if_pos c2]
    exact List.pairwise_cons.2 ⟨fun y hy=>by have:=h1 y hy;rw[c2]at this;exact this,h2⟩
   ·rw[if_neg c2]
    have hnx:cmpNm n x.1<0:=by
     have e1:=ordr_nm.neg x.1 n hx hn
     have e2:cmpNm x.1 n≠0:=fun e=>c2 ((ordr_nm.eq x.1 n hx hn).1 e)
     omega
    refine List.pairwise_cons.2 ⟨fun y hy=>?_,h.srt⟩
    rcases List.mem_cons.1 hy with rfl|hy
    ·exact hnx
    ·exact nm_lt hn hx (hl y hy) hnx (h1 y hy)
theorem filter_ok {es:List IxE} (h:OkE es) (p:IxE→Bool):OkE (es.filter p):=⟨h.srt.filter _,fun e he=>h.val e (List.mem_filter.1 he).1⟩
def CdE (es:List IxE) (l:List Bs):Prop:=srtN l∧∀x∈l,x∈namesE es
theorem CdE.nil (es:List IxE):CdE es []:=⟨List.Pairwise.nil,by simp⟩
theorem CdE.of {es:List IxE} (h:OkE es) (p:IxE→Bool):CdE es ((es.filter p).map (·.1)):=⟨(filter_ok h p).srtN,fun x hx=>by
 obtain ⟨e,he,rfl⟩:=List.mem_map.1 hx
 exact List.mem_map.2 ⟨e,(List.mem_filter.1 he).1,rfl⟩⟩
theorem bestC_ok {es:List IxE}:∀(l:List (List Bs×Bool)) (b:List Bs×Bool),CdE es b.1→(∀c∈l,CdE es c.1)→CdE es (bestC l b).1
 |[],b,hb,_=>hb
 |c :: l,b,hb,hl=>by
  rw[bestC]
  refine bestC_ok l _ ?_ fun d hd=>hl d (List.mem_cons_of_mem _ hd)
  split
  ·exact hl c List.mem_cons_self
  ·exact hb
theorem someC_ok {es:List IxE} (h:OkE es) (l:List (List Bs×Bool)):CdE es (someC es l).1:=by
 unfold someC
 split
 ·exact ⟨h.srtN.filter _,fun x hx=>(List.mem_filter.1 hx).1⟩
 ·exact CdE.nil es
theorem range_ok {s:Idn.Sch} {idx:List Bs} {es:List IxE} (h:OkE es) (a low hi:Bs):CdE es (ixRange s idx es a low hi).1:=by
 unfold ixRange
 split
 ·exact CdE.nil es
 ·exact CdE.of h _
theorem cands_mem {s:Idn.Sch} {idx:List Bs} {es:List IxE}:∀{ks:List Flt} {c:List Bs×Bool},c∈ixCands s idx es ks→∃f∈ks,c=ixCand s idx es f
 |[],c,h=>by rw[ixCands]at h;simp at h
 |f :: l,c,h=>by
  rw[ixCands]at h
  rcases List.mem_cons.1 h with rfl|h
  ·exact ⟨f,List.mem_cons_self,rfl⟩
  ·obtain ⟨g,hg,e⟩:=cands_mem h
   exact ⟨g,List.mem_cons_of_mem _ hg,e⟩
theorem cand_ok {s:Idn.Sch} {idx:List Bs} {es:List IxE} (h:OkE es) (f:Flt):CdE es (ixCand s idx es f).1:=by
 induction f using Flt.ind with
 |h k n v ps ks ih=>
  have hk:∀c∈ixCands s idx es ks,CdE es c.1:=fun c hc=>by
   obtain ⟨g,hg,rfl⟩:=cands_mem hc
   exact ih g hg
  rw[ixCand]
  split
  ·unfold ixFind
   split
   ·exact CdE.nil es
   ·split
    ·exact CdE.nil es
    ·exact CdE.of h _
  ·split
   ·unfold ixBound
    split
    ·exact CdE.nil es
    ·split
     ·exact CdE.nil es
     ·split
      ·exact range_ok h _ _ _
      ·exact range_ok h _ _ _
   ·split
    ·unfold ixPres
     split
     ·exact CdE.nil es
     ·exact CdE.of h _
    ·split
     ·exact bestC_ok _ _ (CdE.nil es) hk
     ·split
      ·exact someC_ok h _
      ·exact CdE.nil es
end Go.Proofs.YtbkkchhimhlhcaaGreatDoor
/- Plain laws of the layer index: what the reference computes is what the layer computes. -/
namespace Go.Proofs.YtbkkchhimhlhcaaGreatDoor
open Go.RowKit Go.Sort
open Idn (L B Bs)
end Go.Proofs.YtbkkchhimhlhcaaGreatDoor
/- Plain laws of the layer index: candidates of the reference; all that satisfy a filter are among them. -/
namespace Go.Proofs.YtbkkchhimhlhcaaGreatDoor
open Go.RowKit Go.Sort
open Idn (L B Bs)
end Go.Proofs.YtbkkchhimhlhcaaGreatDoor
/- The values of the small case of identitylaw09, reckoned. -/
namespace Go.Proofs.YtbkkchhimhlhcaaGreatDoor
open Go.RowKit Go.Sort
open Idn (L B Bs)
namespace E9
def ageN:Bs:=[97,103,101]
def mailN:Bs:=[109,97,105,108]
def annL:List Idn.Att:=[⟨Idn.mainN,[E8.personN]⟩,⟨E8.cnN,[[65,110,110,32,76,101,101]]⟩,⟨ageN,[[51,48]]⟩]
def eqF (n v:Bs):Flt:=.mk 4 n v [] []
def F2:Flt:=.mk 8 [97] [] [[98],[],[99]] []
def F4:Flt:=eqF E8.cnN [97,42,98]
def T4:Bs:=[40,99,110,61,97,92,50,97,98,41]
theorem ev_x4:fText F4=(T4,0):=by kernel_rfl
theorem ev_r2:rdOk F2:=by unfold F2;rw[rdOk];exact .inr ⟨by decide,rfl,.inr (.inr ⟨rfl,rfl,by decide,by decide⟩)⟩
end E9
end Go.Proofs.YtbkkchhimhlhcaaGreatDoor
/- Plain laws of the layer index: entries put one after the other, and those that remain. -/
namespace Go.Proofs.YtbkkchhimhlhcaaGreatDoor
open Go.RowKit Go.Sort
open Idn (L B Bs)
theorem hasE_iff {es:List IxE} {n:Bs}:hasE es n=true↔∃A,(n,A)∈es:=by
 unfold hasE
 rw[List.any_eq_true]
 constructor
 ·rintro ⟨⟨m,A⟩,he,h⟩
  have:m=n:=by simpa using h
  subst this
  exact ⟨A,he⟩
 ·rintro ⟨A,h⟩
  exact ⟨(n,A),h,by simp⟩
theorem insE_len {n:Bs} {A:List Idn.Att} (hn:validN n=true):∀{es:List IxE},OkE es→(insE n A es).length=if hasE es n then es.length else es.length+1
 |[],_=>rfl
 |x :: l,h=>by
  obtain ⟨h1,h2⟩:=List.pairwise_cons.1 h.srt
  have hc:hasE (x :: l) n=(x.1==n||hasE l n):=by unfold hasE;rw[List.any_cons]
  unfold insE
  by_cases c1:cmpNm x.1 n<0
  ·have hne : (x.1 == n) = false := by
     rw[beq_eq_false_iff_ne]
     intro e
     rw[e,nm_irr hn]at c1
     omega
   rw[if_pos c1,List.length_cons,insE_len hn h.tail,hc,hne,Bool.false_or,List.length_cons]
   cases hasE l n
   ·rw[if_neg Bool.false_ne_true,if_neg Bool.false_ne_true]
   ·rw[if_pos rfl,if_pos rfl]
  ·rw[if_neg c1]
   by_cases c2:x.1=n
   ·have e1:(x.1==n)=true:=beq_iff_eq.2 c2
    rw[if_pos c2,hc,e1,Bool.true_or,if_pos rfl,List.length_cons,List.length_cons]
   ·have hl : hasE l n = false := by
      apply Bool.eq_false_iff.2
      intro hh
      obtain ⟨A',hA⟩:=hasE_iff.1 hh
      have h3:=h1 (n,A') hA
      dsimp only at h3
      omega
    have e1:(x.1==n)=false:=beq_eq_false_iff_ne.2 c2
    rw[if_neg c2,hc,e1,Bool.false_or,hl,if_neg Bool.false_ne_true,List.length_cons]
structure SamE (out es:List IxE):Prop where
 ok:OkE es
 mem:∀n A,(n,A)∈es↔∃A0,(n,A0)∈out∧Idn.rSorted A0=A
 len:es.length=out.length
 one:(out.map (·.1)).Nodup
theorem SamE.has {out es:List IxE} (h:SamE out es) (n:Bs):hasE es n=true↔n∈out.map (·.1):=by
 rw[hasE_iff,List.mem_map]
 constructor
 ·rintro ⟨A,hA⟩
  obtain ⟨A0,h0,_⟩:=(h.mem n A).1 hA
  exact ⟨(n,A0),h0,rfl⟩
 ·rintro ⟨⟨m,A0⟩,h0,rfl⟩
  exact ⟨_,(h.mem _ _).2 ⟨A0,h0,rfl⟩⟩
theorem filter_len:∀{l:List IxE} {n:Bs},(l.map (·.1)).Nodup→n∈l.map (·.1)→(l.filter fun y=>y.1 !=n).length+1=l.length
 |[],_,_,h=>by simp at h
 |x :: l,n,hn,h=>by
  rw[List.map_cons,List.nodup_cons]at hn
  by_cases e:x.1=n
  ·rw[List.filter_cons,if_neg (by simp[e]),List.filter_eq_self.2 fun y hy=>?_]
   ·rfl
   ·have:y.1≠n:=fun e'=>hn.1 (by rw[e,←e'];exact List.mem_map.2 ⟨y,hy,rfl⟩)
    simpa using this
  ·rw[List.map_cons]at h
   rcases List.mem_cons.1 h with h|h
   ·exact absurd h.symm e
   ·rw[List.filter_cons,if_pos (by simp[e]),List.length_cons,List.length_cons,filter_len hn.2 h]
theorem filter_none {l:List IxE} {n:Bs} (h:n∉l.map (·.1)):(l.filter fun y=>y.1 !=n)=l:=List.filter_eq_self.2 fun y hy=>by
 have:y.1≠n:=fun e=>h (List.mem_map.2 ⟨y,hy,e⟩)
 simpa using this
theorem SamE.put {out es:List IxE} (h:SamE out es) {n:Bs} {A:List Idn.Att} (hv:validN n=true):SamE (out.filter (fun y=>y.1 !=n)++[(n,A)]) (insE n (Idn.rSorted A) es):=by
 refine ⟨insE_ok hv h.ok,fun m X=>?_,?_,?_⟩
 ·rw[insE_mem hv h.ok]
  constructor
  ·rintro (e|⟨e,hne⟩)
   ·injection e with e1 e2
    exact ⟨A,List.mem_append_right _ (by rw[e1];exact List.mem_singleton_self _),e2.symm⟩
   ·obtain ⟨A0,h0,h1⟩:=(h.mem m X).1 e
    exact ⟨A0,List.mem_append_left _ (List.mem_filter.2 ⟨h0,by simpa using hne⟩),h1⟩
  ·rintro ⟨A0,h0,h1⟩
   rcases List.mem_append.1 h0 with h0|h0
   ·obtain ⟨h2,h3⟩:=List.mem_filter.1 h0
    exact .inr ⟨(h.mem m X).2 ⟨A0,h2,h1⟩,by simpa using h3⟩
   ·rw[List.mem_singleton]at h0
    injection h0 with e1 e2
    subst e1 e2
    exact .inl (by rw[h1])
 ·rw[insE_len hv h.ok,List.length_append,List.length_singleton]
  by_cases hh:hasE es n=true
  ·rw[if_pos hh,filter_len h.one ((h.has n).1 hh),h.len]
  ·rw[if_neg hh,filter_none (fun e=>hh ((h.has n).2 e)),h.len]
 ·rw[List.map_append,List.nodup_append]
  refine ⟨h.one.sublist (List.filter_sublist.map _),by simp,?_⟩
  intro a ha b hb e
  rw[List.map_cons,List.map_nil,List.mem_singleton]at hb
  subst hb
  subst e
  obtain ⟨y,hy,e⟩:=List.mem_map.1 ha
  have:=(List.mem_filter.1 hy).2
  simp[e]at this
theorem SamE.nil:SamE [] []:=⟨OkE.nil,by simp,rfl,by simp⟩
end Go.Proofs.YtbkkchhimhlhcaaGreatDoor
/- Plain laws of the layer index: the types that are looked up. -/
namespace Go.Proofs.YtbkkchhimhlhcaaGreatDoor
open Go.RowKit Go.Sort
open Idn (L B Bs)
theorem tyLook_cong {s:Idn.Sch} {n m:Bs} (h:Idn.lower n=Idn.lower m):tyLook s n=tyLook s m:=by
 unfold tyLook Idn.ixT
 rw[h]
theorem tyLook_name {s:Idn.Sch} {n:Bs} (h:(tyLook s n).2=true):Idn.lower (tyLook s n).1.name=Idn.lower n:=by
 unfold tyLook at h⊢
 cases hi:Idn.ixT s.types n with
 |none=>rw[hi]at h;cases h
 |some k=>
  rw[hi]at h
  dsimp only at h⊢
  cases ht:s.types[k]? with
  |none=>rw[ht]at h;cases h
  |some t=>
   dsimp only
   unfold Idn.ixT at hi
   obtain ⟨hk,hp,_⟩:=List.findIdx?_eq_some_iff_getElem.1 hi
   have e:s.types[k]=t:=(List.getElem?_eq_some_iff.1 ht).2
   rw[e]at hp
   simpa using hp
theorem same_type {s:Idn.Sch} {n m:Bs} (hn:(tyLook s n).2=true) (hm:(tyLook s m).2=true):(tyLook s n).1.name=(tyLook s m).1.name↔Idn.lower n=Idn.lower m:=
 ⟨fun h=>by rw[←tyLook_name hn,←tyLook_name hm,h],fun h=>by rw[tyLook_cong h]⟩
theorem new_twice {s : Idn.Sch} {n : Bs} (hn : (tyLook s n).2 = true) (l : List Bs) (hl : ∀ m ∈ l, (tyLook s m).2 = true) :
  ((l.map fun m=>(tyLook s m).1.name).contains (tyLook s n).1.name)=((l.map Idn.lower).contains (Idn.lower n)):=by
 rw[Bool.eq_iff_iff,List.contains_iff_mem,List.contains_iff_mem,List.mem_map,List.mem_map]
 constructor
 ·rintro ⟨m,hm,e⟩
  exact ⟨m,hm,(same_type (hl m hm) hn).1 e⟩
 ·rintro ⟨m,hm,e⟩
  exact ⟨m,hm,(same_type (hl m hm) hn).2 e⟩
end Go.Proofs.YtbkkchhimhlhcaaGreatDoor
/- Plain laws of the layer index: what IndexAgrees asks. -/
namespace Go.Proofs.YtbkkchhimhlhcaaGreatDoor
open Go.RowKit Go.Sort
open Idn (L B Bs)
theorem okE_uniq:∀{l m:List IxE},OkE l→OkE m→(∀e,e∈l↔e∈m)→l=m
 |[],[],_,_,_=>rfl
 |[],y :: m,_,_,h=>absurd ((h y).2 List.mem_cons_self) (by simp)
 |x :: l,[],_,_,h=>absurd ((h x).1 List.mem_cons_self) (by simp)
 |x :: l,y :: m,hl,hm,h=>by
  have hx:=hl.val x List.mem_cons_self
  have hy:=hm.val y List.mem_cons_self
  obtain ⟨l1,_⟩:=List.pairwise_cons.1 hl.srt
  obtain ⟨m1,_⟩:=List.pairwise_cons.1 hm.srt
  have e:x=y:=by
   rcases List.mem_cons.1 ((h x).1 List.mem_cons_self)with e|e
   ·exact e
   ·rcases List.mem_cons.1 ((h y).2 List.mem_cons_self)with e'|e'
    ·exact e'.symm
    ·have a1:=m1 x e
     have a2:=l1 y e'
     have:=ordr_nm.neg x.1 y.1 hx hy
     omega
  subst e
  rw[okE_uniq hl.tail hm.tail fun z=>?_]
  constructor
  ·intro hz
   rcases List.mem_cons.1 ((h z).1 (List.mem_cons_of_mem _ hz))with e|e
   ·subst e
    have:=l1 z hz
    rw[nm_irr hx]at this;omega
   ·exact e
  ·intro hz
   rcases List.mem_cons.1 ((h z).2 (List.mem_cons_of_mem _ hz))with e|e
   ·subst e
    have:=m1 z hz
    rw[nm_irr hx]at this;omega
   ·exact e
end Go.Proofs.YtbkkchhimhlhcaaGreatDoor
/- Plain laws of the layer index: what IndexReplaces asks. -/
namespace Go.Proofs.YtbkkchhimhlhcaaGreatDoor
open Go.RowKit Go.Sort
open Idn (L B Bs)
theorem get_sorted (A:List Idn.Att) (n:Bs):rGet (Idn.rSorted A) n=rGet A n:=by
 unfold rGet
 rw[rSorted_idem]
theorem drop_ok {es:List IxE} (h:OkE es) (n:Bs):OkE (ixDrop es n):=filter_ok h _
theorem drop_mem {es:List IxE} {n:Bs} {e:IxE}:e∈ixDrop es n↔e∈es∧e.1≠n:=by
 unfold ixDrop
 rw[List.mem_filter]
 simp
theorem drop_none {es:List IxE} {n:Bs} (h:hasE es n=false):ixDrop es n=es:=List.filter_eq_self.2 fun e he=>by
 have:e.1≠n:=fun e'=>by
  rw[hasE_iff.2 ⟨e.2,by rw[←e'];exact he⟩]at h
  cases h
 simpa using this
theorem drop_len (es:List IxE) (n:Bs):(ixDrop es n).length≤es.length:=List.length_filter_le _ _
end Go.Proofs.YtbkkchhimhlhcaaGreatDoor
/- Plain laws of the layer index: what the map of values holds. -/
namespace Go.Proofs.YtbkkchhimhlhcaaGreatDoor
open Go.RowKit Go.Sort
open Idn (L B Bs)
theorem ins_drop {es:List IxE} (h:OkE es) {n:Bs} (hn:validN n=true) (A:List Idn.Att):insE n A (ixDrop es n)=insE n A es:=by
 refine okE_uniq (insE_ok hn (drop_ok h n)) (insE_ok hn h) fun e=>?_
 rw[insE_mem hn (drop_ok h n),insE_mem hn h,drop_mem]
 constructor
 ·rintro (h1|⟨⟨h1,_⟩,h2⟩)
  ·exact .inl h1
  ·exact .inr ⟨h1,h2⟩
 ·rintro (h1|⟨h1,h2⟩)
  ·exact .inl h1
  ·exact .inr ⟨⟨h1,h2⟩,h2⟩
def atV (s:Idn.Sch) (es:List IxE) (a v n:Bs):Prop:=∃A,(n,A)∈es∧v∈nV s a A
theorem atV_ins {s:Idn.Sch} {es:List IxE} (h:OkE es) {n:Bs} (hn:validN n=true) {A:List Idn.Att} (hno:hasE es n=false) (a v m:Bs):atV s (insE n A es) a v m↔atV s es a v m∨(m=n∧v∈nV s a A):=by
 unfold atV
 constructor
 ·rintro ⟨X,h1,h2⟩
  rcases (insE_mem hn h _).1 h1 with e|⟨h3,_⟩
  ·injection e with e1 e2
   subst e1 e2
   exact .inr ⟨rfl,h2⟩
  ·exact .inl ⟨X,h3,h2⟩
 ·rintro (⟨X,h1,h2⟩|⟨rfl,h2⟩)
  ·refine ⟨X,(insE_mem hn h _).2 (.inr ⟨h1,fun e=>?_⟩),h2⟩
   have e:m=n:=e
   subst e
   rw[hasE_iff.2 ⟨X,h1⟩]at hno
   cases hno
  ·exact ⟨A,(insE_mem hn h _).2 (.inl rfl),h2⟩
theorem atV_drop {s:Idn.Sch} {es:List IxE} (n a v m:Bs):atV s (ixDrop es n) a v m↔atV s es a v m∧m≠n:=by
 unfold atV
 constructor
 ·rintro ⟨X,h1,h2⟩
  obtain ⟨h3,h4⟩:=drop_mem.1 h1
  exact ⟨⟨X,h3,h2⟩,h4⟩
 ·rintro ⟨⟨X,h1,h2⟩,h3⟩
  exact ⟨X,drop_mem.2 ⟨h1,h3⟩,h2⟩
theorem atV_own {s:Idn.Sch} {es:List IxE} (h:OkE es) {n:Bs} {A:List Idn.Att} (hA:(n,A)∈es) (a v:Bs):atV s es a v n↔v∈nV s a A:=by
 have one:∀{l:List IxE},OkE l→∀{X Y:List Idn.Att},(n,X)∈l→(n,Y)∈l→X=Y:=by
  intro l
  induction l with
  |nil=>intro _ X Y hx;simp at hx
  |cons z l ih=>
   intro ho X Y hx hy
   obtain ⟨l1,_⟩:=List.pairwise_cons.1 ho.srt
   have hv:=ho.val
   rcases List.mem_cons.1 hx with e|hx'
   ·rcases List.mem_cons.1 hy with e'|hy'
    ·rw[←e]at e'
     injection e' with _ e2
     exact e2.symm
    ·have h2:=l1 _ hy'
     rw[←e]at h2
     dsimp only at h2
     rw[nm_irr (hv _ hx)]at h2
     omega
   ·rcases List.mem_cons.1 hy with e'|hy'
    ·have h2:=l1 _ hx'
     rw[←e']at h2
     dsimp only at h2
     rw[nm_irr (hv _ hy)]at h2
     omega
    ·exact ih ho.tail hx' hy'
 unfold atV
 constructor
 ·rintro ⟨X,h1,h2⟩
  rw[one h hA h1];exact h2
 ·intro h2
  exact ⟨A,hA,h2⟩
theorem find_atV {s:Idn.Sch} {es:List IxE} (h:OkE es) (a v:Bs) (n:Bs):n∈(es.filter fun e=>(nV s a e.2).contains v).map (·.1)↔atV s es a v n:=by
 rw[List.mem_map]
 unfold atV
 constructor
 ·rintro ⟨⟨m,X⟩,he,rfl⟩
  obtain ⟨h1,h2⟩:=List.mem_filter.1 he
  exact ⟨X,h1,by rwa[List.contains_iff_mem]at h2⟩
 ·rintro ⟨X,h1,h2⟩
  exact ⟨(n,X),List.mem_filter.2 ⟨h1,by rw[List.contains_iff_mem];exact h2⟩,rfl⟩
theorem range_atV {s:Idn.Sch} {es:List IxE} (p:Bs→Bool) (a:Bs) (n:Bs):n∈(es.filter fun e=>(nV s a e.2).any p).map (·.1)↔∃v,p v=true∧atV s es a v n:=by
 rw[List.mem_map]
 unfold atV
 constructor
 ·rintro ⟨⟨m,X⟩,he,rfl⟩
  obtain ⟨h1,h2⟩:=List.mem_filter.1 he
  obtain ⟨v,h3,h4⟩:=List.any_eq_true.1 h2
  exact ⟨v,h4,X,h1,h3⟩
 ·rintro ⟨v,h3,X,h1,h2⟩
  exact ⟨(n,X),List.mem_filter.2 ⟨h1,List.any_eq_true.2 ⟨v,h2,h3⟩⟩,rfl⟩
end Go.Proofs.YtbkkchhimhlhcaaGreatDoor
/- attrs: Sorted, at attributes that may have no values. -/
namespace Go.Proofs.YtbkkchhimhlhcaaGreatDoor
open Go.RowKit Go.Sort
open Idn (L B Bs drop_L take_L size_L)
theorem sorted2_pred (g:Nat) (w:World):PredG g 134 #[] (fun x=>((x.2:Nat):Int)==0) w:=fun W x A c _=>sorted2_any x.1 A x.2 c W
theorem full_map (ps:List (Idn.Att×Value)):(ps.filter fun q=>!((((nmA q).2:Nat):Int)==0)).map (·.1)=(ps.map (·.1)).filter Idn.full:=by
 rw[List.filter_map]
 congr 1
 refine List.filter_congr fun q _=>?_
 show (!((q.1.vals.length:Int)==0))=decide (q.1.vals.length≠0)
 by_cases h:q.1.vals.length=0
 ·rw[h];rfl
 ·rw[decide_eq_true h]
  have:((q.1.vals.length:Int)==0)=false:=by rw[beq_eq_false_iff_ne];omega
  rw[this];rfl
theorem sortedG_any (v : Value) (l : List Idn.Att) (w : World) (hv : AttsV w w.heap.size v l) (hs : Idn.ASm7 l) :
    Calls Tryz.prog 61 #[v] w fun e w'=>∃v' ps,e=.returned v'∧AttOwn w' w.heap.size v' ps∧ps.map (·.1)=Idn.rSorted l∧Below w.heap.size w w':=by
 obtain ⟨A,c,rfl,hc⟩:=SlV.shape hv
 have hl1:=hs.1
 go_enter Tryz.func61,Tryz.ntmps61
 go_upto_block 0 with fail
 go_cut [3] (fun u wx=>∃ps,AttOwn wx w.heap.size u ps∧Below w.heap.size w wx∧Hid (ps.map (·.1)=Idn.grp [] l)∧ps.length≤1000∧∀p∈ps,p.1.vals.length≤1000000000)
 case first=>
  go_wp2_with fail
  go_loopw [3,11] (fun u i wr=>∃(k:Nat) (ps:List (Idn.Att×Value)),k≤l.length∧i=.int .i64 k∧AttOwn wr w.heap.size u ps∧Below w.heap.size w wr∧Hid (Idn.grp (ps.map (·.1)) (l.drop k)=Idn.grp [] l)∧ps.length≤k∧∀p∈ps,p.1.vals.length≤k*1100000) (fun _ i _=>l.length-(intOf i).toNat)
  case atStart=>exact ⟨0,[],Nat.zero_le _,rfl,AttOwn.nil _ _,Below.refl _ _,rfl,Nat.le_refl _,by simp⟩
  case round=>
   obtain ⟨k,ps,hk,rfl,hown,hb,hinv,hpl,hpv⟩:=hrel
   by_cases hlt:k<l.length
   ·obtain ⟨b,off,va,rfl,hbl,c0,c1,hva⟩:=AttsV.cell hv hlt
    obtain ⟨Av,cv,rfl,hcv⟩:=SlV.shape hva
    replace c0:=(hb.cell (p:=⟨b,off+k*2,none⟩) hbl).trans c0
    replace c1:=(hb.cell (p:=⟨b,off+k*2+1,none⟩) hbl).trans c1
    have hltI:(k:Int)<(l.length:Int):=by omega
    obtain ⟨hn9,hv9,_⟩:=hs.2 l[k] (List.getElem_mem hlt)
    have hL:=fun W=>lower_any (B l[k].name) W (by rw[Idn.size_B];omega)
    rw[Idn.L_B]at hL
    have hstep:=Idn.grp_step l k hlt (ps.map (·.1))
    generalize Idn.lower l[k].name=nm at *
    obtain ⟨wo,hwo⟩:∃wo:World,wo=wr:=⟨_,rfl⟩
    subst hwo
    go_wp2_with fail
    with_reducible refine gen1 (R:=fun W=>Calls Tryz.prog 125 _ W _) ?_
    intro W hbW hszW hc1 _
    have d0:W.cell? ⟨wo.heap.size,0,none⟩=some (.string (B l[k].name)):=hc1 0 _ rfl
    have d1:W.cell? ⟨wo.heap.size,1,none⟩=some (.slice Av l[k].vals.length cv):=hc1 1 _ rfl
    clear hc1 hszW c0 c1
    refine (hL W).mono ?_
    rintro e w1 ⟨rfl,hb1⟩
    clear hL
    have hbo1:=hbW.trans (hb1.mono hbW.size)
    replace d1:=cell_later hb1 d1
    have hown1:=hown.keep hbo1
    have hlo:=fun g=>own_lt hown.1 (g:=g)
    clear hown d0
    obtain ⟨Au,cu,hu⟩:=own_shape hown1.1
    rw[hu]at hlo
    subst hu
    go_wp2_with fail
    with_reducible refine gen1 (R:=fun W=>Calls Tryz.prog 131 _ W _) ?_
    intro W2 hbW2 hszW2 hc2 _
    have q0:W2.cell? ⟨w1.heap.size,0,none⟩=some (.string (B nm)):=hc2 0 _ rfl
    clear hc2
    have hI:=idxA_any 132 #[.pointer (some ⟨w1.heap.size,0,none⟩)] fn_sorted1 _ _ _ W2 (hown1.keep hbW2).names (by rw[List.length_map];omega) (sorted1_any.pred w1.heap.size (B nm) _ W2 q0)
    rw[Idn.L_B]at hI
    have hix:idxP (fun x:Bs×Nat=>decide (x.1=nm)) (ps.map fun p=>(p.1.name,p.1.vals.length))=idxP (fun a:Idn.Att=>decide (a.name=nm)) (ps.map (·.1)):=by unfold idxP;rw[ixAdd]
    rw[hix]at hI
    clear hix
    refine hI.mono ?_
    rintro e w2 ⟨rfl,hb2⟩
    have hb12:=hbW2.trans (hb2.mono hbW2.size)
    have hown2:=hown1.keep hb12
    have q2:=cell_later hb2 q0
    have d2:=cell_later hb12 d1
    have hbo2:=hbo1.trans (hb12.mono hbo1.size)
    have hbw2:=hb.trans (hbo2.mono hb.size)
    clear hI hown1 d1 q0 hszW2
    go_upto_if 22 with fail
    go_cut [3,7] (fun u i wx=>∃(qs:List (Idn.Att×Value)) (j:Nat) (p:Idn.Att×Value),i=.int .i64 j∧AttOwn wx w.heap.size u qs∧qs[j]?=some p∧Hid ((qs.map (·.1)).set j ⟨p.1.name,p.1.vals++l[k].vals⟩=Idn.addA (ps.map (·.1)) nm l[k].vals)∧qs.length≤k+1∧(∀p∈qs,p.1.vals.length≤k*1100000)∧Below w.heap.size w wx∧wx.cell? ⟨wo.heap.size,1,none⟩=some (.slice Av l[k].vals.length cv))
    case first=>
     cases hx:(ps.map (·.1)).findIdx? (fun a=>decide (a.name=nm))with
     |none=>
      have hAd:=Idn.addA_none l[k].vals hx
      rw[idxP_none hx]
      clear hx
      go_wp2_with (at_builtin;refine wpList_push w2 rfl _ _ 46 rfl w.heap.size 96 (.agg #[.string ⟨#[]⟩,.slice none 0 0]) 2 40 Tryz.underlying46 info_attr rfl (by decide) _ ps.length _ hown2.1 rfl [.string (B nm),.slice none 0 0] rfl rfl (by intro u hu;simp at hu;rcases hu with rfl|rfl<;>rfl) (by omega) hbw2.size ?_ rfl)
      intro v' w3 hown3 hg3 hat3 hb3 _
      have hP:=hown2.push (n:=nm) hown3 hg3
      have d3:w3.cell? ⟨wo.heap.size,1,none⟩=some (.slice Av l[k].vals.length cv):=by
       rw[World.cell?_of_block (w:=w2) (hg3.block wo.heap.size (World.block_lt_of_cell? _ _ d2) (fun e=>by have:=hlo _ e.symm;omega))]
       exact d2
      have HS:Hid (((ps++[((⟨nm,[]⟩:Idn.Att),Value.slice none 0 0)]).map (·.1)).set ps.length ⟨nm,[]++l[k].vals⟩=Idn.addA (ps.map (·.1)) nm l[k].vals):=by
       show _=_
       rw[hAd,List.map_append,List.set_append_right _ _ (by simp)]
       simp
      clear hAd
      go_wp2_with fail
      go_meet
      refine ⟨_,ps.length,(⟨nm,[]⟩,.slice none 0 0),rfl,hP,by simp,HS,by simp;omega,?_,hbw2.trans hb3,d3⟩
      intro p hp
      rcases List.mem_append.1 hp with hp|hp
      ·exact hpv p hp
      ·simp at hp;subst hp;simp
     |some j=>
      have hjl:j<(ps.map (·.1)).length:=(List.findIdx?_eq_some_iff_getElem.1 hx).1
      have hAd:=Idn.addA_some l[k].vals hx hjl
      rw[idxP_some hx]
      have hj0:¬((j:Int)<0):=by omega
      rw[List.length_map]at hjl
      have HS:Hid ((ps.map (·.1)).set j ⟨ps[j].1.name,ps[j].1.vals++l[k].vals⟩=Idn.addA (ps.map (·.1)) nm l[k].vals):=by
       show _=_
       rw[hAd];simp
      clear hx hAd
      go_wp2_with fail
      go_meet
      exact ⟨ps,j,ps[j],rfl,hown2,List.getElem?_eq_getElem hjl,HS,by omega,hpv,hbw2,d2⟩
    case rest=>
     obtain ⟨qs,j,p,rfl,hownc,hpj,hset,hql,hqv,hbc,d3⟩:=hcut
     have hjl:=(List.getElem?_eq_some_iff.1 hpj).1
     obtain ⟨g,cap,hu,_,hgl⟩:=hownc.1.form (by omega)
     subst hu
     have hjI:(j:Int)<(qs.length:Int):=by omega
     obtain ⟨Ap,cp,hup⟩:=own_shape (hownc.2.1 p (List.mem_of_getElem? hpj))
     have hcells:wc.cell? ⟨g,j*2+1,none⟩=some (.slice Ap p.1.vals.length cp):=by
      have e:∀j,((⟨g,0,none⟩:Addr).add j)=⟨g,j,none⟩:=fun j=>by unfold Addr.add;split<;>simp_all
      have:=hownc.1.cells (g:=g) rfl _ _ (rowA_at qs j p hpj).2
      rw[e,hup]at this
      exact this
     have hownd:AttOwn wc.drew w.heap.size (.slice (some ⟨g,0,none⟩) qs.length cap) qs:=hownc
     have hownp:wc.drew.ownsRow w.heap.size 9 1 (.slice Ap p.1.vals.length cp) p.1.vals.length (p.1.vals.map sv):=by
      have:=hownc.2.1 p (List.mem_of_getElem? hpj)
      rw[hup]at this
      exact this
     have hvd:StrsV wc.drew w.heap.size (.slice Av l[k].vals.length cv) l[k].vals:=by
      have:StrsV wc w.heap.size (.slice Av l[k].vals.length cv) l[k].vals:=SlV.keep hva hbc
      exact this
     have hbd:w.heap.size≤wc.drew.heap.size:=hbc.size
     have hpk:=hqv p (List.mem_of_getElem? hpj)
     have hkk:k*1100000≤900*1100000:=Nat.mul_le_mul_right _ (by omega)
     clear hownc hown2 hb12 hb1 hbW hbo1 hbo2 hbw2 hb2 hbW2 q2 d2
     go_wp2_with fail
     go_region_law (refine step_appendS rfl _ _ 26 rfl w.heap.size 9 Tryz.underlying26 info_str _ _ _ hownp rfl _ l[k].vals _ hvd rfl (by omega) hbd ?_;intro v' w' hown' hg' hat';obtain ⟨st1,st2,hnew⟩:=hownd.grow hpj hown' (by rw[hup];exact hg') (by rw[hup];exact hat');rw[hup]at st1;obtain ⟨A9,c9,hv9⟩:=own_shape hown';subst hv9)
     all_goals
      have hHF:Hid (Idn.grp ((qs.set j (⟨p.1.name,p.1.vals++l[k].vals⟩,.slice A9 (p.1.vals.length+l[k].vals.length) c9)).map (·.1)) (l.drop (k+1))=Idn.grp [] l):=by
       show _=_
       rw[List.map_set,hset.out,←hstep];exact hinv.out
      have hgb:w.heap.size≤g:=(hownd.1.lt g rfl).1
      have hbf:Below w.heap.size w (w'.setCell ⟨g,j*2+1,none⟩ (.slice A9 (p.1.vals.length+l[k].vals.length) c9)):=
       (((hbc.drew).grown hg' hbc.size (fun k' hk'=>(hownp.lt k' hk').1))).setCell (p:=⟨g,j*2+1,none⟩) hgb _
      go_wp2_with fail
      go_roundw
      case rel=>
       refine ⟨k+1,_,by omega,by go_num,hnew,hbf,hHF,by rw[List.length_set];exact hql,fun q hq=>?_⟩
       rcases List.mem_or_eq_of_mem_set hq with hq|rfl
       ·exact Nat.le_trans (hqv q hq) (Nat.mul_le_mul_right _ (Nat.le_succ k))
       ·show (p.1.vals++l[k].vals).length≤_;rw[List.length_append,Nat.succ_mul];exact Nat.add_le_add hpk hv9
      case measure=>simp[intOf];omega
   ·have hltI:¬(k:Int)<(l.length:Int):=by omega
    have HF:Hid (ps.map (·.1)=Idn.grp [] l):=by show _=_;rw[←hinv.out,List.drop_eq_nil_of_le (by omega)];rfl
    go_wp2_with fail
    go_meet
    refine ⟨ps,hown,hb,HF,by omega,fun p hp=>?_⟩
    have:=hpv p hp
    have:k*1100000≤900*1100000:=Nat.mul_le_mul_right _ (by omega)
    omega
 case rest=>
  obtain ⟨ps0,hown0,hb,hps0,hpl0,hpv0⟩:=hcut
  have hD:=delA_any 134 #[] fn_sorted2 (fun x=>((x.2:Nat):Int)==0) w.heap.size _ ps0 wc hown0 hb.size (by omega) (fun g _=>sorted2_pred g wc)
  have hps1:=full_map ps0
  have hne0:∀p∈(ps0.filter fun q=>!((((nmA q).2:Nat):Int)==0)),p.1.vals.length≠0:=fun p hp h0=>by
   have:=(List.mem_filter.1 hp).2
   unfold nmA at this
   rw[h0]at this
   simp at this
  have hpl1:(ps0.filter fun q=>!((((nmA q).2:Nat):Int)==0)).length≤1000:=Nat.le_trans (List.length_filter_le _ _) hpl0
  have hpv1:∀p∈(ps0.filter fun q=>!((((nmA q).2:Nat):Int)==0)),p.1.vals.length≤1000000000:=fun p hp=>hpv0 p (List.mem_filter.1 hp).1
  rw[hps0.out]at hps1
  generalize (ps0.filter fun q=>!((((nmA q).2:Nat):Int)==0))=ps at *
  have hps:=Lib.hid hps1
  have hne':=hne0
  have hpl:=hpl1
  have hpv:=hpv1
  obtain ⟨Au0,cu0,hu0⟩:=own_shape hown0.1
  subst hu0
  clear hown0 hps0 hpl0 hpv0 hps1 hne0 hpl1 hpv1
  go_wp2_with fail
  refine hD.mono ?_
  rintro e w1 ⟨v1,rfl,hown1,hb1⟩
  have hbw1:=hb.trans hb1
  obtain ⟨Au,cu,hu⟩:=own_shape hown1.1
  subst hu
  clear hD
  go_upto_block 2 with fail
  go_cut [] (fun wx=>∃qs,AttOwn wx w.heap.size (.slice Au ps.length cu) qs∧Below w.heap.size w wx∧Hid (qs.map (·.1)=(ps.map (·.1)).map Idn.normA)∧qs.length=ps.length)
  case first=>
   go_wp2_with fail
   go_loopw [8,47] (fun _ i wr=>∃(k:Nat) (qs:List (Idn.Att×Value)),k≤ps.length∧i=.int .i64 k∧AttOwn wr w.heap.size (.slice Au ps.length cu) qs∧Below w.heap.size w wr∧Hid (qs.map (·.1)=((ps.map (·.1)).take k).map Idn.normA++(ps.map (·.1)).drop k)∧qs.length=ps.length) (fun _ i _=>ps.length-(intOf i).toNat)
   case atStart=>exact ⟨0,ps,Nat.zero_le _,rfl,hown1,hbw1,by show _=_;simp,rfl⟩
   case round=>
    obtain ⟨k,qs,hk,rfl,hown,hbr,hinv,hql⟩:=hrel
    by_cases hlt:k<ps.length
    ·have hltI:(k:Int)<(ps.length:Int):=by omega
     obtain ⟨q,hqk⟩:∃q,qs[k]?=some q:=⟨_,List.getElem?_eq_getElem (by omega)⟩
     obtain ⟨g,cap,hu,_,hgl⟩:=hown.1.form (by omega)
     injection hu with hu1 hu2 hu3
     subst hu1 hu3
     have hqm:q∈qs:=List.mem_of_getElem? hqk
     have hq1:q.1=ps[k].1:=by
      have:=congrArg (·[k]?) hinv.out
      simp only[List.getElem?_map,hqk,Option.map_some]at this
      rw[List.getElem?_append_right (by simp;omega)]at this
      simp[hlt,Nat.min_eq_left (Nat.le_of_lt hlt)]at this
      exact this
     have hpm:ps[k]∈ps:=List.getElem_mem _
     have hvn:=hne' _ hpm
     have hvb:=hpv _ hpm
     obtain ⟨k0,k1,kf,kb⟩:=hown.cell hqk
     have hou:=hown.2.1 _ hqm
     rw[hq1]at hou
     obtain ⟨g1,cap1,hv1,hgb1,hg1⟩:=hou.form (by omega)
     rw[hv1]at hou k1
     have hSo:=sort_own g1 cap1 ps[k].1.vals w.heap.size wr hou (by omega) hvb hbr.size
     have hHq:Hid (qs.set k (⟨ps[k].1.name,Lib.compact (sorted ps[k].1.vals)⟩,q.2)=qs.set k (⟨ps[k].1.name,Lib.compact (sorted ps[k].1.vals)⟩,q.2)):=rfl
     have HQK:=Lib.hid hqk
     have HQ1:=Lib.hid hq1
     have HV1:=Lib.hid hv1
     have HQL:=Lib.hid hql
     clear hHq hqk hq1 hv1 hql k0 hu2
     go_wp2_with fail
     refine hSo.mono ?_
     rintro e w2 ⟨rfl,hou2,hg2⟩
     have hsl:(sorted ps[k].1.vals).length=ps[k].1.vals.length:=sorted_len _
     have hou2':w2.ownsRow w.heap.size 9 1 (.slice (some ⟨g1,0,none⟩) (sorted ps[k].1.vals).length cap1) (sorted ps[k].1.vals).length ((sorted ps[k].1.vals).map sv):=by rw[hsl];exact hou2
     have hown2:=hown.turn (vals:=sorted ps[k].1.vals) HQK.out (by rw[HV1.out,hsl];exact hou2) (by rw[HV1.out];exact hg2)
     have hk2:(qs.set k (⟨q.1.name,sorted ps[k].1.vals⟩,q.2))[k]?=some (⟨q.1.name,sorted ps[k].1.vals⟩,q.2):=by simp[HQL.out,hlt]
     obtain ⟨_,k12,kf2,_⟩:=hown2.cell hk2
     rw[HV1.out]at k12
     have hb2:Below w.heap.size w w2:=hbr.grown hg2 hbr.size (fun x hx=>by injection hx with hx;omega)
     have hCo:=compact_own g1 cap1 (sorted ps[k].1.vals) w.heap.size w2 hou2' (by rw[hsl];omega) (by rw[hsl];exact hvb)
     rw[hsl]at hCo
     have hgl2:g<w2.heap.size:=World.block_lt_of_cell? _ _ k12
     clear hSo hown hou2 hou2' hou kf k1 hsl
     go_wp2_with fail
     refine hCo.mono ?_
     rintro e w3 ⟨rfl,hou3,hg3⟩
     clear hCo
     obtain ⟨st1,st2,hown3⟩:=hown2.put (u':=.slice (some ⟨g1,0,none⟩) (Lib.compact (sorted ps[k].1.vals)).length cap1) hk2 hou3 (by rw[HV1.out];exact hg3) (.inl (by rw[HV1.out];rfl))
     dsimp only at st1 hown3
     rw[HV1.out]at st1
     have hb3:Below w.heap.size w w3:=hb2.grown hg3 hb2.size (fun x hx=>by injection hx with hx;omega)
     have hgl3:g<w3.heap.size:=World.block_lt_of_cell? _ _ st1
     have HF:Hid (((qs.set k (⟨q.1.name,sorted ps[k].1.vals⟩,q.2)).set k (⟨q.1.name,Lib.compact (sorted ps[k].1.vals)⟩,.slice (some ⟨g1,0,none⟩) (Lib.compact (sorted ps[k].1.vals)).length cap1)).map (·.1)=((ps.map (·.1)).take (k+1)).map Idn.normA++(ps.map (·.1)).drop (k+1)):=by
      show _=_
      rw[List.set_set,List.map_set,hinv.out,HQ1.out]
      have hl:k<(ps.map (·.1)).length:=by simpa using hlt
      rw[List.set_append_right _ _ (by simp;omega),List.take_succ_eq_append_getElem hl,List.map_append,List.drop_eq_getElem_cons hl]
      simp[Nat.min_eq_left (Nat.le_of_lt hlt)]
      rfl
     clear hown2 hk2 k12 kf2 hou3
     go_wp2_with fail
     go_roundw
     case rel=>exact ⟨k+1,_,by omega,by go_num,hown3,hb3.setCell (p:=⟨g,k*2+1,none⟩) kb _,HF,by rw[List.length_set,List.length_set];exact HQL.out⟩
     case measure=>simp[intOf];omega
    ·have hltI:¬(k:Int)<(ps.length:Int):=by omega
     have HF:Hid (qs.map (·.1)=(ps.map (·.1)).map Idn.normA):=by
      show _=_
      rw[hinv.out,List.take_of_length_le (by simp;omega),List.drop_eq_nil_of_le (by simp;omega),List.append_nil]
     go_wp2_with fail
     go_meet
     exact ⟨qs,hown,hbr,HF,hql⟩
  case rest=>
   obtain ⟨qs,hown,hb,hq,hql⟩:=hcut
   have hnd:((qs.map (·.1)).map (·.name)).Nodup:=by
    rw[hq.out,Idn.norm_names,hps.out]
    exact (List.filter_sublist.map _).nodup (Idn.grp_nd l [] (by simp))
   have hS:=sortA_any _ w.heap.size qs wc hown hb.size (by omega) hnd
   rw[hq.out,hps.out,Idn.sortedG_law]at hS
   clear hown
   go_wp2_with fail
   refine hS.mono ?_
   rintro e w4 ⟨rfl,qs',hown',hq',hb'⟩
   clear hS
   go_wp2_with fail
   go_ret
   exact ⟨_,qs',rfl,hown',hq',hb.trans hb'⟩
end Go.Proofs.YtbkkchhimhlhcaaGreatDoor
/- attrs: Names, Get, at attributes that may have no values. -/
namespace Go.Proofs.YtbkkchhimhlhcaaGreatDoor
open Go.RowKit Go.Sort
open Idn (L B Bs drop_L take_L size_L)
theorem rSorted_le (l:List Idn.Att):(Idn.rSorted l).length≤l.length:=by
 rw[←Idn.sortedG_law,List.length_mergeSort,List.length_map]
 have h1:=List.length_filter_le Idn.full (Idn.grp [] l)
 have h2:=grp_len l []
 simp only[List.length_nil,Nat.zero_add]at h2
 omega
theorem rGet_len {l:List Idn.Att} (hs:Idn.ASm7 l) (n:Bs):(rGet l n).length≤1000000000:=by
 unfold rGet
 split
 ·simp
 ·split
  ·simp
  ·rename_i a ha
   have hm:=List.mem_of_getElem? ha
   rw[←Idn.sortedG_law]at hm
   obtain ⟨b,hb,rfl⟩:=List.mem_map.1 ((List.mergeSort_perm _ _).mem_iff.1 hm)
   have h1:=Lib.compact_length_le (Idn.srt b.vals)
   have h2:(Idn.srt b.vals).length=b.vals.length:=by simp[Idn.srt]
   have h3:=Idn.grp_le 1100000 l [] 0 (by simp) (fun a ha=>(hs.2 a ha).2.1) b (List.mem_filter.1 hb).1
   have h4:=Nat.mul_le_mul_right 1100000 hs.1
   show (Lib.compact (Idn.srt b.vals)).length≤_
   omega
theorem getG_any (v : Value) (l : List Idn.Att) (n : ByteArray) (w : World) (hv : AttsV w w.heap.size v l) (hs : Idn.ASm7 l) (hn : n.size ≤ 1000000000) :
    Calls Tryz.prog 139 #[v,.string n] w fun e w'=>∃A c,e=.returned (.slice A (rGet l (L n)).length (rGet l (L n)).length)∧w'.ownsRow w.heap.size 9 1 (.slice A (rGet l (L n)).length c) (rGet l (L n)).length ((rGet l (L n)).map sv)∧Below w.heap.size w w':=by
 have hS:=sortedG_any v l w hv hs
 have hgl:=rSorted_le l
 have hl1:=hs.1
 have hres:Hid (rGet l (L n)=match (Idn.rSorted l).findIdx? (fun a=>decide (a.name=Idn.lower (L n)))with
  |none=>[]
  |some k=>match (Idn.rSorted l)[k]? with|none=>[]|some a=>a.vals):=rfl
 have hbd:=rGet_len hs (L n)
 generalize rGet l (L n)=res at *
 generalize Idn.rSorted l=q at *
 have hq:q.length≤1000:=by omega
 obtain ⟨A0,c0,rfl,hc0⟩:=SlV.shape hv
 clear hv hs hgl
 go_enter Tryz.func139,Tryz.ntmps139
 go_wp2_with fail
 refine hS.mono ?_
 rintro e w1 ⟨v1,ps,rfl,hown,hpq,hb1⟩
 have hpl:ps.length=q.length:=by rw[←hpq,List.length_map]
 have hF:=find_any v1 q n w1 (hown.atts hpq) (by omega) hn
 obtain ⟨A,c,hv1⟩:=own_shape hown.1
 subst hv1
 clear hS
 have HPL:=Lib.hid hpl
 have HPQ:=Lib.hid hpq
 have hpl9:ps.length≤1000:=by omega
 clear hpq hpl
 cases hx:q.findIdx? (fun a=>decide (a.name=Idn.lower (L n)))with
 |none=>
  have HF:Hid (res=[]):=by show _=_;rw[hres.out,hx]
  rw[idxP_none hx]at hF
  clear hx
  go_wp2_with fail
  refine hF.mono ?_
  rintro e w2 ⟨rfl,hb2⟩
  go_wp2
  go_ret
  exact ⟨none,0,by rw[HF.out];rfl,by rw[HF.out];exact World.ownsRow_nil _ _ _ _,hb1.trans (hb2.mono hb1.size)⟩
 |some k=>
  have hkl:k<q.length:=(List.findIdx?_eq_some_iff_getElem.1 hx).1
  have HF:Hid (res=q[k].vals):=by show _=_;rw[hres.out,hx];simp[hkl]
  rw[idxP_some hx]at hF
  have hkp:k<ps.length:=by rw[HPL.out];exact hkl
  have hkI:(k:Int)<(ps.length:Int):=by omega
  have hk0:¬((k:Int)<0):=by omega
  clear hx
  obtain ⟨g,cap,hu,_,hgl⟩:=hown.1.form (by omega)
  injection hu with hu1 hu2 hu3
  subst hu1 hu3
  have hpk:ps[k]?=some ps[k]:=List.getElem?_eq_getElem (by omega)
  have hp1:ps[k].1=q[k]:=by
   have:=HPQ.out
   subst this
   simp
  have HP1:=Lib.hid hp1
  have hpm:ps[k]∈ps:=List.getElem_mem _
  clear hp1
  generalize ps[k]=p at *
  have HPK:=Lib.hid hpk
  clear hpk
  obtain ⟨Av,cv,hup⟩:=own_shape (hown.2.1 p hpm)
  go_wp2_with fail
  refine hF.mono ?_
  rintro e w2 ⟨rfl,hb2⟩
  have hown2:=hown.keep hb2
  obtain ⟨c0,c1,_,_⟩:=hown2.cell HPK.out
  have ho:=hown2.2.1 p hpm
  rw[hup]at c1 ho
  obtain ⟨Aw,cw,ew,hcw,hrd⟩:=StrsV.of_own ho
  injection ew with ew1 ew2 ew3
  subst ew1
  have hvc:(p.1.vals.length:Int)≤(cv:Int):=by omega
  have hv0:(0:Int)≤(p.1.vals.length:Int):=by omega
  have HO:=Lib.hid ho
  clear hF hown hown2 ho hup hpm
  go_wp2
  go_ret
  exact ⟨Av,cv,by rw[HF.out,←HP1.out];rfl,by rw[HF.out,←HP1.out];exact own_base HO.out (Nat.le_refl _),hb1.trans (hb2.mono hb1.size)⟩
end Go.Proofs.YtbkkchhimhlhcaaGreatDoor
/- Plain laws: text forms of entries are read back. -/
namespace Go.Proofs.YtbkkchhimhlhcaaGreatDoor
open Go.RowKit Go.Sort
open Idn (L B Bs)
theorem clean_of_vals:∀(l p:List Bs),(∀x∈l,Idn.clean x=true)→(p++l).Nodup→Idn.valsErr p l=0:=fun l p h1 h2=>by
 have:=vErr_nil l p
 rw[←this]
 induction l generalizing p with
 |nil=>rfl
 |cons v l ih=>
  have hc:p.contains v=false:=by
   rw[Bool.eq_false_iff]
   intro e
   rw[List.nodup_append]at h2
   exact h2.2.2 v (List.contains_iff_mem.1 e) v List.mem_cons_self rfl
  have hn:([]:List Bs).contains v=false:=rfl
  rw[vErr,h1 v List.mem_cons_self,hc,hn]
  exact ih (p++[v]) (fun x hx=>h1 x (List.mem_cons_of_mem _ hx)) (by rw[List.append_assoc];exact h2) (vErr_nil _ _)
theorem atts_ok:∀(l p:List Idn.Att),(∀a∈l,Idn.name a.name=true∧a.vals.length≠0∧a.vals.length≤16∧Idn.valsErr [] a.vals=0)→(∀a∈l,∀b∈p,Idn.lower b.name≠Idn.lower a.name)→(l.map fun a=>Idn.lower a.name).Nodup→Idn.attsErr p l=0
 |[],_,_,_,_=>rfl
 |a :: l,p,h,hp,hn=>by
  obtain ⟨h1,h2,h3,h4⟩:=h a List.mem_cons_self
  rw[List.map_cons,List.nodup_cons]at hn
  have hix:Idn.ixA p a.name=none:=by
   unfold Idn.ixA
   rw[List.findIdx?_eq_none_iff]
   intro b hb
   simpa using hp a List.mem_cons_self b hb
  have he:Idn.attErr p a=0:=by
   unfold Idn.attErr
   rw[h1,hix,if_neg (by decide),if_neg (by decide),if_neg h2,if_neg (by omega),h4]
  rw[Idn.attsErr,he,if_neg (by decide)]
  refine atts_ok l _ (fun x hx=>h x (List.mem_cons_of_mem _ hx)) (fun x hx b hb=>?_) hn.2
  rcases List.mem_append.1 hb with hb|hb
  ·exact hp x (List.mem_cons_of_mem _ hx) b hb
  ·rw[List.mem_singleton]at hb
   subst hb
   exact fun e=>hn.1 (List.mem_map.2 ⟨x,hx,e.symm⟩)
theorem aCheck_sorted {l:List Idn.Att} (h:Idn.aCheck l=0):Idn.aCheck (Idn.rSorted l)=0:=by
 obtain ⟨h1,h2,h3⟩:=Idn.aCheck_all h
 have h4:=(aCheck_zero h).2
 have hcl:=aCheck_clean h
 have hone:∀a∈l,Idn.valsOf l (Idn.lower a.name)=a.vals:=fun a ha=>by
  have key:∀l:List Idn.Att,(l.map fun a=>Idn.lower a.name).Nodup→a∈l→Idn.valsOf l (Idn.lower a.name)=a.vals:=by
   intro l
   induction l with
   |nil=>intro _ h;cases h
   |cons b l ih=>
    intro hn hm
    rw[List.map_cons,List.nodup_cons]at hn
    rw[show b :: l=[b]++l from rfl,Idn.valsOf_app]
    rcases List.mem_cons.1 hm with rfl|hm
    ·have e1 : Idn.valsOf l (Idn.lower a.name) = [] := by
       refine List.eq_nil_iff_forall_not_mem.2 fun x hx=>?_
       obtain ⟨c,hc,e,_⟩:=mem_valsOf.1 hx
       exact hn.1 (List.mem_map.2 ⟨c,hc,e⟩)
     rw[e1,List.append_nil]
     unfold Idn.valsOf
     simp
    ·have hne:Idn.lower b.name≠Idn.lower a.name:=fun e=>hn.1 (List.mem_map.2 ⟨a,hm,e.symm⟩)
     rw[ih hn.2 hm]
     unfold Idn.valsOf
     simp[hne]
  exact key l h2 ha
 have hsome:∀a∈Idn.rSorted l,∃b∈l,a.name=Idn.lower b.name∧a.vals=Idn.insAll b.vals:=fun a ha=>by
  unfold Idn.rSorted at ha
  obtain ⟨m,hm,rfl⟩:=List.mem_map.1 ha
  rw[Idn.insAll_mem]at hm
  unfold Idn.lows at hm
  obtain ⟨b,hb,rfl⟩:=List.mem_map.1 hm
  have hb:=(List.mem_filter.1 hb).1
  exact ⟨b,hb,rfl,by unfold Idn.rOne;rw[hone b hb]⟩
 have hlen:(Idn.rSorted l).length≤32:=Nat.le_trans (rSorted_len l) h1
 unfold Idn.aCheck
 rw[if_neg (by omega)]
 refine atts_ok _ [] (fun a ha=>?_) (fun _ _ b hb=>by cases hb) ?_
 ·obtain ⟨b,hb,e1,e2⟩:=hsome a ha
  have hnd:b.vals.Nodup:=by
   have h0:vErr [] [] b.vals=0:=by rw[vErr_nil];exact (h3 b hb).2
   have:=(vErr_nd [] b.vals [] h0 (by simp) (by simp)).1
   simpa using this
  refine ⟨by rw[e1];exact Idn.name_lower (h3 b hb).1,?_,?_,?_⟩
  ·rw[e2,Idn.insAll_length hnd];exact (h4 b hb).1
  ·rw[e2,Idn.insAll_length hnd];exact (h4 b hb).2
  ·refine clean_of_vals _ [] (fun x hx=>?_) (by rw[e2];simpa using Idn.insAll_nodup _)
   rw[e2,Idn.insAll_mem]at hx
   exact hcl b hb x hx
 ·have e:∀a∈Idn.rSorted l,Idn.lower a.name=a.name:=fun a ha=>Idn.rSorted_name ha
  rw[List.map_congr_left e]
  exact (rSorted_pw l).imp fun h e=>by rw[e]at h;exact List.lt_irrefl _ h
end Go.Proofs.YtbkkchhimhlhcaaGreatDoor
/- entry: missing. -/
namespace Go.Proofs.YtbkkchhimhlhcaaGreatDoor
open Go.RowKit Go.Sort
open Idn (L B Bs drop_L take_L size_L)
end Go.Proofs.YtbkkchhimhlhcaaGreatDoor
/- Plain laws of filters: parts between a beginning and an end, from the left or with the end cut first. -/
namespace Go.Proofs.YtbkkchhimhlhcaaGreatDoor
open Go.RowKit Go.Sort
open Idn (L B Bs)
end Go.Proofs.YtbkkchhimhlhcaaGreatDoor
/- law07: light, subset, raised. -/
namespace Go.Proofs.YtbkkchhimhlhcaaGreatDoor
open Go.RowKit Go.Sort
open Idn (L B Bs drop_L take_L size_L)
end Go.Proofs.YtbkkchhimhlhcaaGreatDoor
/- law07: raised. -/
namespace Go.Proofs.YtbkkchhimhlhcaaGreatDoor
open Go.RowKit Go.Sort
open Idn (L B Bs drop_L take_L size_L)
theorem PairAt.grown {w w':World} {p:Nat} {a b:Value} {row:Option Nat} (h:PairAt w p a b) (hg:w.grownBy w' row) (hne:some p≠row) (hs:w.heap.size≤w'.heap.size):PairAt w' p a b:=by
 obtain ⟨⟨h0,h1⟩,⟨g0,g1⟩,hl⟩:=h
 exact ⟨⟨grown_cell hg h0 hne,grown_cell hg h1 hne⟩,⟨grown_frozen hg hl g0 hne,grown_frozen hg hl g1 hne⟩,Nat.lt_of_lt_of_le hl hs⟩
end Go.Proofs.YtbkkchhimhlhcaaGreatDoor
/- identityref02: Int. -/
namespace Go.Proofs.YtbkkchhimhlhcaaGreatDoor
open Go.RowKit Go.Sort
open Idn (L B Bs drop_L take_L size_L)
end Go.Proofs.YtbkkchhimhlhcaaGreatDoor
/- identityref07: number. -/
namespace Go.Proofs.YtbkkchhimhlhcaaGreatDoor
open Go.RowKit Go.Sort
open Idn (L B Bs drop_L take_L size_L)
end Go.Proofs.YtbkkchhimhlhcaaGreatDoor
/- identityref07: form. -/
namespace Go.Proofs.YtbkkchhimhlhcaaGreatDoor
open Go.RowKit Go.Sort
open Idn (L B Bs drop_L take_L size_L)
end Go.Proofs.YtbkkchhimhlhcaaGreatDoor
/- identityref07: Normal, Compare. -/
namespace Go.Proofs.YtbkkchhimhlhcaaGreatDoor
open Go.RowKit Go.Sort
open Idn (L B Bs drop_L take_L size_L)
end Go.Proofs.YtbkkchhimhlhcaaGreatDoor
/- Plain laws of Valid by the reference. -/
namespace Go.Proofs.YtbkkchhimhlhcaaGreatDoor
open Go.RowKit Go.Sort
open Idn (L B Bs)
end Go.Proofs.YtbkkchhimhlhcaaGreatDoor
/- identityref07: Valid. -/
namespace Go.Proofs.YtbkkchhimhlhcaaGreatDoor
open Go.RowKit Go.Sort
open Idn (L B Bs drop_L take_L size_L)
end Go.Proofs.YtbkkchhimhlhcaaGreatDoor
