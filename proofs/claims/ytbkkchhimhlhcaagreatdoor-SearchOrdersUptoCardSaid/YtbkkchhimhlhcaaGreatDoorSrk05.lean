/- Part 5 of the proof that identitylaw12.SearchChecks returns true for every data that it may be called with: proof: the package variables hold what the program lays; nothing else is asked. -/
import Derived.Test.YtbkkchhimhlhcaaGreatDoorSrk01
import Derived.Lib.AtoiAll
import Derived.Lib.ItoaNum
import Derived.Lib.Case
import Derived.Lib.MapU
set_option linter.unusedVariables false
set_option linter.unusedSimpArgs false
set_option maxRecDepth 100000
set_option maxHeartbeats 16000000
/- Plain functions: numbers and truth values. -/
namespace Idn
def isDigs (l:Bs):Bool:=!l.isEmpty&&l.all digit
def dig10:Bs:=[48,49,50,51,52,53,54,55,56,57]
def tailR (d s:Bs):Int×Int:=
 if !d.all digit then (0,4)
 else match Go.Lib.atoiAll s with
  |.ok n=>(n,0)
  |_=>(0,27)
def readInt (s:Bs):Int×Int:=
 if decide (s≠[48])&&((Go.Lib.trimPrefix s [45]).isEmpty||(Go.Lib.trimPrefix s [45]).headD 0==48)then (0,4)
 else tailR (Go.Lib.trimPrefix s [45]) s
def stripD (d:Bs):Bs:=d.dropWhile (·==48)
def integer (s:Bs):Bs×Bool:=
 if !isDigs (Go.Lib.trimPrefix s [45])then ([],false)
 else if (stripD (Go.Lib.trimPrefix s [45])).isEmpty then ([48],true)
 else ((Go.Lib.itoa (readInt (if Go.Lib.hasPrefix s [45]then 45 :: stripD (Go.Lib.trimPrefix s [45])else stripD (Go.Lib.trimPrefix s [45]))).1),
  (readInt (if Go.Lib.hasPrefix s [45]then 45 :: stripD (Go.Lib.trimPrefix s [45])else stripD (Go.Lib.trimPrefix s [45]))).2==0)
def truth (s:Bs):Bs×Bool:=(Go.Lib.toUpperD (lower s),(lower s==[116,114,117,101])||(lower s==[102,97,108,115,101]))
def normSyn (x:Int) (v:Bs):Bs×Bool:=
 if x=3 then integer v else if x=5 then truth v else if x=1 then (fold v,true)else if x=4 then ((cleanN v).1,(cleanN v).2==0)else (v,true)
def normV (x:Int) (v:Bs):Bs×Bool:=((normSyn x v).1,(normSyn x v).2&&(clean v&&clean (normSyn x v).1))
end Idn
/- Plain law: folding and names: normal forms are their own normal forms. -/
namespace Idn
theorem all8 (p:UInt8→Bool) (h:(List.range 256).all (fun n=>p (UInt8.ofNat n))=true) (c:UInt8):p c=true:=by
 rw[List.all_eq_true]at h
 have:=h c.toNat (List.mem_range.2 c.toNat_lt)
 rwa[UInt8.ofNat_toNat]at this
theorem imp8 {p q:UInt8→Bool} (h:(List.range 256).all (fun n=>!p (UInt8.ofNat n)||q (UInt8.ofNat n))=true) {c:UInt8} (hp:p c=true):q c=true:=by
 have:=all8 (fun c=>!p c||q c) h c
 simp only[hp,Bool.not_true,Bool.false_or]at this
 exact this
theorem low_idem (c:UInt8):low (low c)=low c:=by
 have:=all8 (fun c=>low (low c)==low c) (by decide +kernel) c
 simpa using this
theorem nameC_low {c:UInt8} (h:nameC c=true):nameC (low c)=true:=imp8 (p:=nameC) (q:=fun c=>nameC (low c)) (by decide +kernel) h
theorem letter_low {c:UInt8} (h:letter c=true):letter (low c)=true:=imp8 (p:=letter) (q:=fun c=>letter (low c)) (by decide +kernel) h
theorem printable_low {c:UInt8} (h:printable c=true):printable (low c)=true:=imp8 (p:=printable) (q:=fun c=>printable (low c)) (by decide +kernel) h
theorem nameC_plain {c:UInt8} (h:nameC c=true):special c=false∧c≠32:=by
 have:=imp8 (p:=nameC) (q:=fun c=>!special c&&!(c==32)) (by decide +kernel) h
 simpa using this
theorem lower_lower (l:Bs):lower (lower l)=lower l:=by
 unfold lower;rw[List.map_map]
 exact List.map_congr_left fun c _=>low_idem c
theorem name_lower {l:Bs} (h:name l=true):name (lower l)=true:=by
 unfold name made at *
 simp only[Bool.and_eq_true,decide_eq_true_eq,List.all_eq_true]at *
 obtain ⟨⟨h1,h2,h3⟩,h4⟩:=h
 cases l with
 |nil=>simp at h2
 |cons c l=>
  refine ⟨⟨fun x hx=>?_,by simp[lower],by rw[length_lower];exact h3⟩,?_⟩
  ·unfold lower at hx
   obtain ⟨y,hy,rfl⟩:=List.mem_map.1 hx
   exact nameC_low (h1 y hy)
  ·exact letter_low h4
def ends (l:Bs):Prop:=l.head?≠some 32∧l.getLast?≠some 32
theorem trimL_id {l:Bs} (h:l.head?≠some 32):trimL l=l:=by
 cases l with
 |nil=>rfl
 |cons c l=>exact trimL_of_head c l (fun e=>h (by rw[e];rfl))
theorem trimL_head? (l:Bs):(trimL l).head?≠some 32:=by
 intro h
 cases hx:trimL l with
 |nil=>rw[hx]at h;cases h
 |cons c r=>
  rw[hx]at h
  injection h with h
  exact trimL_head l c r hx h
theorem trim_ends {l:Bs} (h:ends l):trim l=l:=by
 unfold trim
 rw[trimL_id h.1,trimL_id (by rw[List.head?_reverse];exact h.2),List.reverse_reverse]
theorem ends_trim (l:Bs):ends (trim l):=by
 constructor
 ·rw[trim_trimL];exact trimL_head? _
 ·unfold trim
  rw[List.getLast?_reverse];exact trimL_head? _
theorem ends_of_trim {l:Bs} (h:trim l=l):ends l:=h▸ends_trim l
theorem sq_mem (p:UInt8) (l:Bs):∀x∈sq p l,x∈l:=by
 induction l generalizing p with
 |nil=>intro x h;exact h
 |cons c l ih=>
  intro x h
  unfold sq at h
  split at h
  ·exact List.mem_cons_of_mem _ (ih c x h)
  ·rcases List.mem_cons.1 h with rfl|h
   ·exact List.mem_cons_self
   ·exact List.mem_cons_of_mem _ (ih c x h)
theorem sq_sq (p:UInt8) (l:Bs):sq p (sq p l)=sq p l:=by
 induction l generalizing p with
 |nil=>rfl
 |cons c l ih=>
  by_cases h:c=32∧p=32
  ·obtain ⟨rfl,rfl⟩:=h
   have e:sq 32 (32 :: l)=sq 32 l:=by rw[sq];rfl
   rw[e];exact ih 32
  ·rw[sq_keep p c l h,sq_keep p c _ h,ih c]
theorem sq_last (p:UInt8) (l:Bs) (h:l.getLast?≠some 32):(sq p l).getLast?=l.getLast?:=by
 induction l generalizing p with
 |nil=>rfl
 |cons c l ih=>
  cases l with
  |nil=>
   have hc:c≠32:=fun e=>h (by rw[e];rfl)
   rw[sq_keep p c [] (fun e=>hc e.1)];rfl
  |cons d l=>
   have h':(d :: l).getLast?≠some 32:=by simpa using h
   have ih':=ih c h'
   have hne:sq c (d :: l)≠[]:=by
    intro e;rw[e]at ih'
    simp[List.getLast?_cons]at ih'
   by_cases hk:c=32∧p=32
   ·have e:sq p (c :: d :: l)=sq c (d :: l):=by rw[sq,if_pos (by simpa using hk)]
    rw[e,ih'];simp
   ·rw[sq_keep p c _ hk]
    cases hs:sq c (d :: l)with
    |nil=>exact absurd hs hne
    |cons e r=>rw[hs]at ih';rw[List.getLast?_cons_cons,ih'];simp
theorem low_ne {c:UInt8} (h:c≠32):low c≠32:=by have:=low_ne32 c h;simpa using this
theorem ends_lower {l:Bs} (h:ends l):ends (lower l):=by
 unfold ends lower at *
 rw[List.head?_map,List.getLast?_map]
 refine ⟨fun e=>?_,fun e=>?_⟩
 ·obtain ⟨c,hc,hl⟩:=Option.map_eq_some_iff.1 e
  exact low_ne (fun e2=>h.1 (by rw[hc,e2])) hl
 ·obtain ⟨c,hc,hl⟩:=Option.map_eq_some_iff.1 e
  exact low_ne (fun e2=>h.2 (by rw[hc,e2])) hl
theorem ends_sq {l:Bs} (h:ends l):ends (sq 0 l):=by
 refine ⟨?_,by rw[sq_last 0 l h.2];exact h.2⟩
 cases l with
 |nil=>simp[sq]
 |cons c l=>
  have hc:c≠32:=fun e=>h.1 (by rw[e];rfl)
  rw[sq_keep 0 c l (fun e=>hc e.1)]
  exact h.1
theorem ends_fold (l:Bs):ends (fold l):=by
 unfold fold;exact ends_sq (ends_lower (ends_trim l))
theorem trim_fold (l:Bs):trim (fold l)=fold l:=trim_ends (ends_fold l)
theorem lower_fold (l:Bs):lower (fold l)=fold l:=by
 unfold lower
 have:∀x∈fold l,low x=x:=fun x hx=>by
  unfold fold at hx
  have:=sq_mem _ _ x hx
  unfold lower at this
  obtain ⟨y,_,rfl⟩:=List.mem_map.1 this
  exact low_idem y
 rw[List.map_congr_left this,List.map_id']
theorem fold_fold (l:Bs):fold (fold l)=fold l:=by
 have e:fold (fold l)=sq 0 (lower (trim (fold l))):=rfl
 rw[e,trim_fold,lower_fold]
 unfold fold;exact sq_sq 0 _
theorem clean_iff (l:Bs):clean l=true↔(∀x∈l,printable x=true)∧l≠[]∧l.length≤256∧trim l=l:=by
 unfold clean
 cases l<;>simp[List.all_eq_true]
theorem clean_fold {l:Bs} (h:clean l=true):clean (fold l)=true:=by
 rw[clean_iff]at *
 obtain ⟨h1,h2,h3,h4⟩:=h
 refine ⟨fun x hx=>?_,fun e=>?_,Nat.le_trans (length_fold l) h3,trim_fold l⟩
 ·unfold fold at hx
  have:=sq_mem _ _ x hx
  unfold lower at this
  obtain ⟨y,hy,rfl⟩:=List.mem_map.1 this
  rw[h4]at hy
  exact printable_low (h1 y hy)
 ·have hen:=ends_of_trim h4
  unfold fold at e
  rw[h4]at e
  cases l with
  |nil=>exact h2 rfl
  |cons c l=>
   have hc:c≠32:=fun e=>hen.1 (by rw[e];rfl)
   have:=sq_keep 0 (low c) (lower l) (fun e=>low_ne hc e.1)
   rw[show lower (c :: l)=low c :: lower l from rfl,this]at e
   cases e
def nrm (p:Pr):Pr:=(lower p.1,fold p.2)
theorem fmt1_nrm (p:Pr):fmt1 (nrm p)=fmt1 p:=by
 unfold fmt1 nrm
 dsimp only
 rw[lower_lower,fold_fold]
theorem fmtR_nrm:∀l:List Pr,fmtR (l.map nrm)=fmtR l
 |[]=>rfl
 |p :: l=>by rw[List.map_cons,fmtR,fmtR,fmt1_nrm,fmtR_nrm l]
theorem fmtJ_nrm (l:List Pr):fmtJ (l.map nrm)=fmtJ l:=by
 cases l with
 |nil=>rfl
 |cons p l=>rw[List.map_cons,fmtJ,fmtJ,fmt1_nrm,fmtR_nrm]
theorem idx_tok {c x:UInt8} (h1:x≠c) (h2:x≠92) (y:Bs):idx c (x :: y)=(idx c y).map (·+1):=by
 cases y with
 |nil=>simp[idx,h1]
 |cons z y=>rw[idx_two,if_neg (by simpa using h1),if_neg (by simpa using h2)]
theorem idx_esc {c:UInt8} (h:c≠92) (x:UInt8) (y:Bs):idx c (92 :: x :: y)=(idx c y).map (·+2):=by
 rw[idx_two,if_neg (by simpa using fun e=>h e.symm),if_pos (by rfl)]
theorem idx_plain {c:UInt8}:∀(k y:Bs),(∀x∈k,x≠c∧x≠92)→idx c (k++y)=(idx c y).map (·+k.length)
 |[],y,_=>by simp
 |x :: k,y,h=>by
  have h1:=h x List.mem_cons_self
  rw[List.cons_append,idx_tok h1.1 h1.2,idx_plain k y (fun z hz=>h z (List.mem_cons_of_mem _ hz)),Option.map_map]
  congr 1
  all_goals (funext n;simp;omega)
theorem escV_cons (c:UInt8) (l:Bs):escV (c :: l)=(if special c then [92,c]else [c])++escV l:=by unfold escV;rw[List.flatMap_cons]
theorem idx_escV {c:UInt8} (hc:special c=true) (h92:c≠92):∀(v y:Bs),idx c (escV v++y)=(idx c y).map (·+(escV v).length)
 |[],y=>by simp[escV]
 |x :: v,y=>by
  have ih:=idx_escV hc h92 v y
  rw[escV_cons]
  split
  ·rw[List.append_assoc,List.cons_append,List.cons_append,List.nil_append,idx_esc h92,ih,Option.map_map]
   congr 1
   all_goals (funext n;simp;omega)
  ·rename_i hs
   have h1:x≠c:=fun e=>hs (by rw[e];exact hc)
   have h2:x≠92:=fun e=>hs (by rw[e];rfl)
   rw[List.append_assoc,List.cons_append,List.nil_append,idx_tok h1 h2,ih,Option.map_map]
   congr 1
   all_goals (funext n;simp;omega)
theorem key_plain {k:Bs} (h:name k=true):∀x∈k,special x=false∧x≠32:=by
 unfold name made at h
 simp only[Bool.and_eq_true,List.all_eq_true]at h
 exact fun x hx=>nameC_plain (h.1.1 x hx)
theorem key_no {k:Bs} (h:name k=true) {c:UInt8} (hc:special c=true):∀x∈k,x≠c∧x≠92:=fun x hx=>by
 have:=(key_plain h x hx).1
 exact ⟨fun e=>(by rw[e,hc]at this;cases this),fun e=>(by rw[e]at this;cases this)⟩
theorem idx_fmt1 (p:Pr) (h:name p.1=true) (y:Bs):idx 44 (fmt1 p++y)=(idx 44 y).map (·+(fmt1 p).length):=by
 have hk:=name_lower h
 unfold fmt1
 rw[List.append_assoc,idx_plain _ _ (key_no hk (by decide)),List.cons_append,idx_tok (by decide) (by decide),idx_escV (by decide) (by decide),Option.map_map,Option.map_map]
 congr 1
 all_goals (funext n;simp;omega)
theorem pcs_fmt:∀(l:List Pr) (p:Pr),(∀q∈p :: l,name q.1=true)→pcs (fmtJ (p :: l))=(p :: l).map fmt1
 |[],p,h=>by
  have h1:=idx_fmt1 p (h p List.mem_cons_self) []
  rw[List.append_nil]at h1
  have e:fmtJ [p]=fmt1 p:=by simp[fmtJ,fmtR]
  rw[e,pcs_idx,h1]
  rfl
 |q :: l,p,h=>by
  have h1:=idx_fmt1 p (h p List.mem_cons_self) (44 :: fmtJ (q :: l))
  have h2:idx 44 (44 :: fmtJ (q :: l))=some 0:=by
   cases hx:fmtJ (q :: l)with
   |nil=>rfl
   |cons a b=>rw[idx_two];rfl
  rw[h2]at h1
  have e:fmtJ (p :: q :: l)=fmt1 p++44 :: fmtJ (q :: l):=by simp[fmtJ,fmtR]
  rw[e,pcs_idx,h1]
  have ih:=pcs_fmt l q (fun r hr=>h r (List.mem_cons_of_mem _ hr))
  simp only[Option.map_some,Nat.zero_add]
  rw[List.take_left,List.map_cons,←ih]
  congr 2
  rw[show (fmt1 p).length+1=(fmt1 p++[44]).length by simp]
  rw[show fmt1 p++44 :: fmtJ (q :: l)=(fmt1 p++[44])++fmtJ (q :: l) by simp,List.drop_left]
theorem val_escV:∀v:Bs,val (escV v)=some v
 |[]=>rfl
 |c :: v=>by
  have ih:=val_escV v
  rw[escV_cons]
  by_cases hs:special c=true
  ·rw[if_pos hs]
   show val (92 :: c :: escV v)=_
   rw[val,if_pos (by rfl),if_pos hs,ih];rfl
  ·have hs':special c=false:=by simpa using hs
   have h92:c≠92:=fun e=>hs (by rw[e];rfl)
   rw[if_neg hs]
   show val (c :: escV v)=_
   cases hx:escV v with
   |nil=>
    rw[hx]at ih
    simp[val]at ih
    rw[val,if_neg hs,ih]
   |cons y l=>
    rw[hx]at ih
    rw[val,if_neg (by simpa using h92),if_neg hs,ih];rfl
theorem ends_escV {v:Bs} (h:ends v):ends (escV v):=by
 constructor
 ·cases v with
  |nil=>simp[escV]
  |cons c v=>
   rw[escV_cons]
   split
   ·simp
   ·simpa using h.1
 ·rcases List.eq_nil_or_concat v with rfl|⟨r,c,rfl⟩
  ·simp[escV]
  ·have e:escV (r++[c])=escV r++(if special c then [92,c]else [c]):=by unfold escV;rw[List.flatMap_append];simp
   have hl:c≠32:=fun e=>h.2 (by rw[e];simp)
   rw[List.concat_eq_append]at *
   rw[e]
   split<;>simp[hl]
theorem trim_key {k:Bs} (h:∀x∈k,x≠32):trim k=k:=by
 refine trim_ends ⟨fun e=>?_,fun e=>?_⟩
 ·exact h 32 (List.mem_of_mem_head? (by rw[e];rfl)) rfl
 ·exact h 32 (List.mem_of_mem_getLast? (by rw[e];rfl)) rfl
theorem component_fmt (p:Pr) (h1:name p.1=true) (h2:clean p.2=true):component (fmt1 p)=(nrm p,0):=by
 have hk:=name_lower h1
 have hc:=clean_fold h2
 have hi:idx 61 (fmt1 p)=some (lower p.1).length:=by
  unfold fmt1
  rw[idx_plain _ _ (key_no hk (by decide))]
  have:idx 61 (61 :: escV (fold p.2))=some 0:=by
   cases hx:escV (fold p.2)with
   |nil=>rfl
   |cons a b=>rw[idx_two];rfl
  rw[this];simp
 have ht:(fmt1 p).take (lower p.1).length=lower p.1:=by unfold fmt1;rw[List.take_left]
 have hd:(fmt1 p).drop ((lower p.1).length+1)=escV (fold p.2):=by
  unfold fmt1
  rw[show (lower p.1).length+1=(lower p.1++[61]).length by simp,show lower p.1++61 :: escV (fold p.2)=(lower p.1++[61])++escV (fold p.2) by simp,List.drop_left]
 unfold component
 rw[hi]
 dsimp only
 rw[ht,hd,trim_ends (ends_escV (ends_fold p.2)),val_escV,trim_key (fun x hx=>(key_plain hk x hx).2)]
 dsimp only
 rw[hk,hc]
 rfl
theorem comps_fmt:∀l:List Pr,(∀q∈l,name q.1=true∧clean q.2=true)→comps (l.map fmt1)=(l.map nrm,0)
 |[],_=>rfl
 |p :: l,h=>by
  have h1:=h p List.mem_cons_self
  have ih:=comps_fmt l (fun q hq=>h q (List.mem_cons_of_mem _ hq))
  rw[List.map_cons,comps,component_fmt p h1.1 h1.2,ih]
  rfl
theorem check1_iff:∀l:List Pr,check1 l=0↔∀q∈l,name q.1=true∧clean q.2=true
 |[]=>by simp[check1]
 |p :: l=>by
  have ih:=check1_iff l
  unfold check1
  cases h1:name p.1
  ·simp[h1]
  ·cases h2:clean p.2
   ·simp[h1,h2]
   ·simp[h1,h2,ih]
theorem check_iff (l:List Pr):check l=0↔(∀q∈l,name q.1=true∧clean q.2=true)∧l.length≤8:=by
 rw[←check1_iff]
 unfold check
 by_cases h:check1 l=0
 ·simp[h]
 ·simp[h]
theorem check_nrm {l:List Pr} (h:check l=0):check (l.map nrm)=0:=by
 rw[check_iff]at *
 refine ⟨fun q hq=>?_,by rw[List.length_map];exact h.2⟩
 obtain ⟨p,hp,rfl⟩:=List.mem_map.1 hq
 exact ⟨name_lower (h.1 p hp).1,clean_fold (h.1 p hp).2⟩
theorem parse_fmt {l:List Pr} (h:check l=0):parse (fmtJ l)=(l.map nrm,0):=by
 rw[check_iff]at h
 cases l with
 |nil=>rfl
 |cons p l=>
  have hp:=pcs_fmt l p (fun q hq=>(h.1 q hq).1)
  have hc:=comps_fmt (p :: l) h.1
  have hne:(fmtJ (p :: l)).isEmpty=false:=by
   have:fmtJ (p :: l)≠[]:=by simp[fmtJ,fmt1]
   cases hx:fmtJ (p :: l)with
   |nil=>exact absurd hx this
   |cons _ _=>rfl
  unfold parse
  rw[hne,hp,hc]
  simp only[Bool.false_eq_true,if_false]
  rw[if_neg (by decide),if_neg (by have:=h.2;simp at this⊢;omega)]
theorem format_nrm {l:List Pr} (h:check l=0):format (l.map nrm)=(fmtJ l,0):=by
 unfold format
 rw[check_nrm h,if_neg (by decide),fmtJ_nrm]
theorem clean_form {v u:Bs} (h:cleanN v=(u,0)):∃l,check l=0∧u=fmtJ l∧parse u=(l.map nrm,0)∧cleanN u=(u,0)∧normal u=(l.map nrm,true):=by
 unfold cleanN at h
 split at h
 ·rename_i h1
  injection h with h2 h3
  simp[h3]at h1
 ·unfold format at h
  split at h
  ·rename_i h1
   injection h with h2 h3
   simp[h3]at h1
  ·rename_i h1
   have hc:check (parse v).1=0:=by simpa using h1
   injection h with h2 _
   subst h2
   have hp:=parse_fmt hc
   have hf:=format_nrm hc
   refine ⟨_,hc,rfl,hp,?_,?_⟩
   ·unfold cleanN;rw[hp,if_neg (by simp)];exact hf
   ·unfold normal;rw[hp,if_neg (by simp),hf];simp
end Idn
