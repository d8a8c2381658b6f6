/- Part 27 of the proof that identitylaw12.SearchChecks returns true for every data that it may be called with: proof: the package variables hold what the program lays; nothing else is asked. -/
import Derived.Test.YtbkkchhimhlhcaaGreatDoorSrk05
import Derived.Test.YtbkkchhimhlhcaaGreatDoorSrk22
set_option linter.unusedVariables false
set_option linter.unusedSimpArgs false
set_option maxRecDepth 100000
set_option maxHeartbeats 16000000
/- Plain law: cutting and joining; the bytes of names. -/
namespace Idn
open Go
theorem nameC_unlow {c:UInt8} (h:nameC (low c)=true):nameC c=true:=
 imp8 (p:=fun c=>nameC (low c)) (q:=nameC) (by decide +kernel) h
theorem letter_unlow {c:UInt8} (h:letter (low c)=true):letter c=true:=
 imp8 (p:=fun c=>letter (low c)) (q:=letter) (by decide +kernel) h
theorem name_unlower {l:Bs} (h:name (lower l)=true):name l=true:=by
 unfold name made at *
 simp only[Bool.and_eq_true,decide_eq_true_eq,List.all_eq_true]at *
 obtain ⟨⟨h1,h2,h3⟩,h4⟩:=h
 cases l with
 |nil=>simp[lower]at h2
 |cons c l=>
  refine ⟨⟨fun x hx=>nameC_unlow (h1 _ (List.mem_map_of_mem hx)),by simp,by rw[length_lower]at h3;exact h3⟩,?_⟩
  exact letter_unlow h4
theorem name_same {a b:Bs} (h:name a=true) (he:lower a=lower b):name b=true:=name_unlower (by rw[←he];exact name_lower h)
theorem tysErr_ok:∀(l prev:List AT),tysErr prev l=0→(∀t∈prev,name t.name=true)→∀t∈l,name t.name=true∧1≤t.syn∧t.syn≤5
 |[],_,_,_,t,ht=>by simp at ht
 |x :: l,prev,h,hp,t,ht=>by
  rw[tysErr]at h
  split at h
  ·rename_i h0;simp at h0;exact absurd h h0
  ·rename_i h0
   have h0':tyErr prev x=0:=by simpa using h0
   unfold tyErr at h0'
   have hx:name x.name=true∧1≤x.syn∧x.syn≤5:=by
    split at h0'
    ·cases h0'
    ·rename_i hn
     split at h0'
     ·cases h0'
     ·split at h0'
      ·cases h0'
      ·rename_i hs
       simp at hn hs
       exact ⟨hn,by omega,by omega⟩
   rcases List.mem_cons.1 ht with rfl|ht
   ·exact hx
   ·refine tysErr_ok l (prev++[x]) h (fun u hu=>?_) t ht
    rcases List.mem_append.1 hu with hu|hu
    ·exact hp u hu
    ·simp at hu;subst hu;exact hx.1
theorem ixT_name {l:List AT} {n:Bs} (hl:∀t∈l,name t.name=true) (h:(ixT l n).isSome=true):name n=true:=by
 unfold ixT at h
 rw[List.findIdx?_isSome,List.any_eq_true]at h
 obtain ⟨t,ht,he⟩:=h
 exact name_same (hl t ht) (by simpa using he)
theorem ixC_name {l:List Cl} {n:Bs} (hl:∀t∈l,name t.name=true) (h:(ixC l n).isSome=true):name n=true:=by
 unfold ixC at h
 rw[List.findIdx?_isSome,List.any_eq_true]at h
 obtain ⟨t,ht,he⟩:=h
 exact name_same (hl t ht) (by simpa using he)
theorem lacks_no {types:List AT} {l:List Bs} (ht:∀t∈types,name t.name=true) (h:lacks types l=false):∀n∈l,name n=true:=by
 intro n hn
 unfold lacks at h
 rw[List.any_eq_false]at h
 have:=h n hn
 refine ixT_name ht ?_
 cases hx:ixT types n with
 |none=>rw[hx]at this;simp at this
 |some k=>rfl
def okC (c:Cl):Prop:=name c.name=true∧(c.super=[]∨name c.super=true)∧c.must.length≤64∧c.may.length≤64∧(∀n∈c.must,name n=true)∧∀n∈c.may,name n=true
def okT (t:AT):Prop:=name t.name=true∧1≤t.syn∧t.syn≤5
theorem clsErr_ok (types:List AT) (ht:∀t∈types,name t.name=true):∀(l prev:List Cl),clsErr types prev l=0→(∀t∈prev,name t.name=true)→∀c∈l,okC c
 |[],_,_,_,t,hc=>by simp at hc
 |x :: l,prev,h,hp,c,hc=>by
  rw[clsErr]at h
  split at h
  ·rename_i h0;simp at h0;exact absurd h h0
  ·rename_i h0
   have h0':clErr types prev x=0:=by simpa using h0
   unfold clErr at h0'
   have hx:okC x:=by
    split at h0'
    ·cases h0'
    ·rename_i h1
     split at h0'
     ·cases h0'
     ·split at h0'
      ·cases h0'
      ·rename_i h3
       split at h0'
       ·cases h0'
       ·rename_i h4
        split at h0'
        ·cases h0'
        ·rename_i h5
         simp only[Bool.or_eq_true,not_or,Bool.not_eq_true,decide_eq_false_iff_not]at h4 h5
         refine ⟨by simpa using h1,?_,by omega,by omega,lacks_no ht h5.1,lacks_no ht h5.2⟩
         cases hs:x.super with
         |nil=>exact .inl rfl
         |cons a b=>
          refine .inr (hs▸ixC_name hp ?_)
          cases hi:ixC prev x.super with
          |none=>rw[hs]at h3 hi;rw[hi]at h3;simp at h3
          |some k=>rfl
   rcases List.mem_cons.1 hc with rfl|hc
   ·exact hx
   ·refine clsErr_ok types ht l (prev++[x]) h (fun u hu=>?_) c hc
    rcases List.mem_append.1 hu with hu|hu
    ·exact hp u hu
    ·simp at hu;subst hu;exact hx.1
theorem sCheck_ok {s:Sch} (h:sCheck s=0):(∀t∈s.types,okT t)∧(∀c∈s.classes,okC c)∧s.types.length≤64∧s.classes.length≤32:=by
 unfold sCheck at h
 split at h
 ·cases h
 ·rename_i h1
  split at h
  ·rename_i h2;simp at h2;exact absurd h h2
  ·rename_i h2
   split at h
   ·rename_i h3;simp at h3;exact absurd h h3
   ·rename_i h3
    simp only[bne_iff_ne,ne_eq,Decidable.not_not]at h2 h3
    have a1:=tysErr_ok s.types [] h2 (by simp)
    have a2:=clsErr_ok s.types (fun t ht=>(a1 t ht).1) s.classes [] h3 (by simp)
    simp only[Bool.or_eq_true,not_or,decide_eq_true_eq]at h1
    exact ⟨a1,a2,by omega,by omega⟩
end Idn
