/- Part 20 of the proof that identitylaw12.SearchChecks returns true for every data that it may be called with: proof: the package variables hold what the program lays; nothing else is asked. -/
import Derived.Test.YtbkkchhimhlhcaaGreatDoorSrk05
import Derived.Lib.Bytealg
import Derived.Lib.Small
set_option linter.unusedVariables false
set_option linter.unusedSimpArgs false
set_option maxRecDepth 100000
set_option maxHeartbeats 16000000
/- Plain law: comparisons that are total orders. -/
namespace Idn
open Go
structure Tot {α:Type} (f:α→α→Int):Prop where
 rng:∀a b,f a b = -1∨f a b=0∨f a b=1
 neg:∀a b,f b a =-f a b
 eq:∀a b,f a b=0↔a=b
 tr:∀a b c,f a b≤0→f b c≤0→f a c≤0
theorem tot_int:Tot Lib.compareInt:=by
 refine ⟨fun a b=>?_,fun a b=>?_,fun a b=>?_,fun a b c h1 h2=>?_⟩
 ·unfold Lib.compareInt;split
  ·exact .inl rfl
  ·split
   ·exact .inr (.inr rfl)
   ·exact .inr (.inl rfl)
 ·unfold Lib.compareInt;(repeat' split)<;>omega
 ·unfold Lib.compareInt
  constructor
  ·intro h;(repeat' split at h)<;>omega
  ·intro h;subst h;rw[if_neg (by omega),if_neg (by omega)]
 ·unfold Lib.compareInt at *;(repeat' split at *)<;>omega
theorem cb_cons (a b:UInt8) (as bs:Bs):Lib.compareBytes (a :: as) (b :: bs)=if a<b then -1 else if b<a then 1 else Lib.compareBytes as bs:=rfl
theorem u8_lt (a b:UInt8):a<b↔a.toNat<b.toNat:=UInt8.lt_iff_toNat_lt
theorem u8_ext {a b:UInt8} (h1:¬a<b) (h2:¬b<a):a=b:=by
 rw[u8_lt]at h1 h2
 exact UInt8.toNat_inj.1 (by omega)
theorem tot_bytes:Tot Lib.compareBytes:=by
 refine ⟨fun a=>?_,fun a=>?_,fun a=>?_,fun a=>?_⟩
 ·induction a with
  |nil=>intro b;cases b<;>simp[Lib.compareBytes]
  |cons x a ih=>
   intro b
   cases b with
   |nil=>simp[Lib.compareBytes]
   |cons y b=>
    rw[cb_cons]
    split
    ·exact .inl rfl
    ·split
     ·exact .inr (.inr rfl)
     ·exact ih b
 ·induction a with
  |nil=>intro b;cases b<;>simp[Lib.compareBytes]
  |cons x a ih=>
   intro b
   cases b with
   |nil=>simp[Lib.compareBytes]
   |cons y b=>
    rw[cb_cons,cb_cons]
    by_cases h1:x<y
    ·have h2:¬y<x:=by rw[u8_lt]at *;omega
     rw[if_pos h1,if_neg h2,if_pos h1];rfl
    ·by_cases h2:y<x
     ·rw[if_pos h2,if_neg h1,if_pos h2]
     ·rw[if_neg h2,if_neg h1,if_neg h1,if_neg h2];exact ih b
 ·induction a with
  |nil=>intro b;cases b<;>simp[Lib.compareBytes]
  |cons x a ih=>
   intro b
   cases b with
   |nil=>simp[Lib.compareBytes]
   |cons y b=>
    rw[cb_cons]
    by_cases h1:x<y
    ·rw[if_pos h1]
     refine ⟨fun h=>by omega,fun h=>?_⟩
     injection h with h3 h4
     subst h3
     rw[u8_lt]at h1;omega
    ·by_cases h2:y<x
     ·rw[if_neg h1,if_pos h2]
      refine ⟨fun h=>by omega,fun h=>?_⟩
      injection h with h3 h4
      subst h3
      rw[u8_lt]at h2;omega
     ·rw[if_neg h1,if_neg h2,ih b]
      have e:=u8_ext h1 h2
      subst e
      simp
 ·induction a with
  |nil=>intro b c _ _;cases c<;>simp[Lib.compareBytes]
  |cons x a ih=>
   intro b c h1 h2
   cases b with
   |nil=>simp[Lib.compareBytes]at h1
   |cons y b=>
    cases c with
    |nil=>simp[Lib.compareBytes]at h2
    |cons z c=>
     rw[cb_cons]at h1 h2⊢
     by_cases xy:x<y
     ·by_cases yz:y<z
      ·rw[if_pos (by rw[u8_lt]at *;omega)];omega
      ·rw[if_neg yz]at h2
       by_cases zy:z<y
       ·rw[if_pos zy]at h2;omega
       ·have e:=u8_ext yz zy
        subst e
        rw[if_pos xy];omega
     ·rw[if_neg xy]at h1
      by_cases yx:y<x
      ·rw[if_pos yx]at h1;omega
      ·rw[if_neg yx]at h1
       have e:=u8_ext xy yx
       subst e
       by_cases yz:x<z
       ·rw[if_pos yz];omega
       ·rw[if_neg yz]at h2⊢
        by_cases zy:z<x
        ·rw[if_pos zy]at h2;omega
        ·rw[if_neg zy]at h2⊢
         exact ih b c h1 h2
def or0 (a b:Int):Int:=if a=0 then b else a
theorem tot_pair {α β:Type} {f:α→α→Int} {g:β→β→Int} (hf:Tot f) (hg:Tot g):Tot (fun p q:α×β=>or0 (f p.1 q.1) (g p.2 q.2)):=by
 refine ⟨fun a b=>?_,fun a b=>?_,fun a b=>?_,fun a b c h1 h2=>?_⟩
 ·unfold or0;split
  ·exact hg.rng _ _
  ·exact hf.rng _ _
 ·have h1:=hf.neg a.1 b.1
  have h2:=hg.neg a.2 b.2
  unfold or0
  by_cases h:f a.1 b.1=0
  ·rw[if_pos h,if_pos (by omega),h2]
  ·rw[if_neg h,if_neg (by omega),h1]
 ·have h1:=hf.eq a.1 b.1
  have h2:=hg.eq a.2 b.2
  unfold or0
  constructor
  ·intro h
   split at h
   ·rename_i h3
    exact Prod.ext (h1.1 h3) (h2.1 h)
   ·rename_i h3;exact absurd h h3
  ·rintro rfl
   rw[if_pos (h1.2 rfl)];exact h2.2 rfl
 ·unfold or0 at *
  have e1:=hf.eq a.1 b.1
  have e2:=hf.eq b.1 c.1
  have t:=hf.tr a.1 b.1 c.1
  have n1:=hf.neg a.1 b.1
  by_cases x1:f a.1 b.1=0
  ·rw[if_pos x1]at h1
   have:=e1.1 x1
   rw[this]at x1⊢
   by_cases x2:f b.1 c.1=0
   ·rw[if_pos x2]at h2⊢
    exact hg.tr _ _ _ h1 h2
   ·rw[if_neg x2]at h2⊢;exact h2
  ·rw[if_neg x1]at h1
   by_cases x2:f b.1 c.1=0
   ·have:=e2.1 x2
    rw[←this,if_neg x1];exact h1
   ·rw[if_neg x2]at h2
    have h3:=t h1 h2
    by_cases x3:f a.1 c.1=0
    ·have:=(hf.eq a.1 c.1).1 x3
     rw[this]at n1
     have n2:=hf.neg b.1 c.1
     rw[this]at x1 h1
     omega
    ·rw[if_neg x3];exact h3
def cmpLs {α:Type} (f:α→α→Int):List α→List α→Int
 |[],[]=>0
 |[],_ :: _=>-1
 |_ :: _,[]=>1
 |p :: l,q :: m=>if f p q=0 then cmpLs f l m else f p q
theorem tot_list {α:Type} {f:α→α→Int} (hf:Tot f):Tot (cmpLs f):=by
 refine ⟨fun a=>?_,fun a=>?_,fun a=>?_,fun a=>?_⟩
 ·induction a with
  |nil=>intro b;cases b<;>simp[cmpLs]
  |cons x a ih=>
   intro b
   cases b with
   |nil=>simp[cmpLs]
   |cons y b=>
    unfold cmpLs;split
    ·exact ih b
    ·exact hf.rng _ _
 ·induction a with
  |nil=>intro b;cases b<;>simp[cmpLs]
  |cons x a ih=>
   intro b
   cases b with
   |nil=>simp[cmpLs]
   |cons y b=>
    have:=hf.neg x y
    unfold cmpLs
    by_cases h:f x y=0
    ·rw[if_pos h,if_pos (by omega),ih]
    ·rw[if_neg h,if_neg (by omega),this]
 ·induction a with
  |nil=>intro b;cases b<;>simp[cmpLs]
  |cons x a ih=>
   intro b
   cases b with
   |nil=>simp[cmpLs]
   |cons y b=>
    have:=hf.eq x y
    unfold cmpLs
    constructor
    ·intro h
     split at h
     ·rename_i h3
      rw[this.1 h3,(ih b).1 h]
     ·rename_i h3;exact absurd h h3
    ·intro h
     injection h with h1 h2
     rw[if_pos (this.2 h1)];exact (ih b).2 h2
 ·induction a with
  |nil=>intro b c _ _;cases c<;>simp[cmpLs]
  |cons x a ih=>
   intro b c h1 h2
   cases b with
   |nil=>simp[cmpLs]at h1
   |cons y b=>
    cases c with
    |nil=>simp[cmpLs]at h2
    |cons z c=>
     unfold cmpLs at h1 h2⊢
     by_cases x1:f x y=0
     ·rw[if_pos x1]at h1
      have e:=(hf.eq x y).1 x1
      subst e
      by_cases x2:f x z=0
      ·rw[if_pos x2]at h2⊢;exact ih b c h1 h2
      ·rw[if_neg x2]at h2⊢;exact h2
     ·rw[if_neg x1]at h1
      by_cases x2:f y z=0
      ·have e:=(hf.eq y z).1 x2
       subst e
       rw[if_neg x1];exact h1
      ·rw[if_neg x2]at h2
       have h3:=hf.tr x y z h1 h2
       by_cases x3:f x z=0
       ·have e:=(hf.eq x z).1 x3
        subst e
        have:=hf.neg x y
        omega
       ·rw[if_neg x3];exact h3
end Idn
