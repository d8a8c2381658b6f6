/- The last part of the proof that identitylaw12.SearchAgrees returns true for every data that it may be called with: proof: the package variables hold what the program lays; nothing else is asked. -/
import Derived.Test.YtbkkchhimhlhcaaGreatDoorSrk47
set_option linter.unusedVariables false
set_option linter.unusedSimpArgs false
set_option maxRecDepth 100000
set_option maxHeartbeats 16000000
/- The argument of a law: a schema, out of what it reads as. -/
namespace Go.Proofs.YtbkkchhimhlhcaaGreatDoor
open Go.RowKit Go.Sort Go.ChangeShapes Go.WideShapes Go.ChangeAt
open Idn (L B Bs drop_L take_L size_L)
theorem cellsOf_syn:Tryz.prog.cellsOf 87=1:=by kernel_rfl
theorem cellsOf_bool:Tryz.prog.cellsOf 4=1:=by kernel_rfl
theorem cellsOf_AT:Tryz.prog.cellsOf 89=3:=by kernel_rfl
theorem cellsOf_CL:Tryz.prog.cellsOf 91=4:=by kernel_rfl
section
variable {H:Type} {enc:TypeId×Value→H} {W:World}
end
end Go.Proofs.YtbkkchhimhlhcaaGreatDoor
/- An entry handed over: what a trodden value of api.Entry reads as. -/
namespace Go.Proofs.YtbkkchhimhlhcaaGreatDoor
open Go.RowKit Go.Sort Go.ChangeShapes Go.WideShapes Go.ChangeAt
open Idn (L B Bs)
theorem cellsOf_Att:Tryz.prog.cellsOf 96=2:=by kernel_rfl
section
variable {H:Type} {enc:TypeId×Value→H} {W:World}
end
end Go.Proofs.YtbkkchhimhlhcaaGreatDoor
/- Plain law: numbers: what the reference computes is what the layer computes. -/
namespace Idn
open Go
def valF (acc:Nat) (l:Bs):Nat:=l.foldl (fun n c=>n*10+(c.toNat-48)) acc
theorem valF_ge:∀(l:Bs) (acc:Nat),acc≤valF acc l
 |[],_=>Nat.le_refl _
 |c :: l,acc=>by
  have:=valF_ge l (acc*10+(c.toNat-48))
  show acc≤valF (acc*10+(c.toNat-48)) l
  omega
theorem valF_app (l:Bs) (c:UInt8) (acc:Nat):valF acc (l++[c])=valF acc l*10+(c.toNat-48):=by unfold valF;rw[List.foldl_append];rfl
theorem digit_iff (c:UInt8):digit c=true↔48≤c.toNat∧c.toNat≤57:=by simp[digit]
theorem parse_ok:∀(l:Bs) (acc:Nat),l.all digit=true→acc<18446744073709551616→Lib.parseUint10 acc l=if valF acc l<18446744073709551616 then .ok (valF acc l)else .range
 |[],acc,_,ha=>by simp[Lib.parseUint10,valF,ha]
 |c :: l,acc,h,ha=>by
  rw[List.all_cons,Bool.and_eq_true]at h
  have hc:=(digit_iff c).1 h.1
  have hv:valF acc (c :: l)=valF (acc*10+(c.toNat-48)) l:=rfl
  have hge:=valF_ge l (acc*10+(c.toNat-48))
  rw[Lib.parseUint10,if_pos hc]
  split
  ·rw[if_neg (by rw[hv];omega)]
  ·split
   ·rw[if_neg (by rw[hv];omega)]
   ·rw[parse_ok l _ h.2 (by omega),hv]
def dec2 (t:Bs) (zero:Bool):Bool:=!t.isEmpty&&((!(t.headD 0==48)||(decide (t.length=1)&&zero))&&t.all digit)
def isMinus (s:Bs):Bool:=s.headD 0==45
def mag2 (s:Bs):Bs:=if isMinus s then s.tail else s
def read2 (s:Bs):Int×Int:=
 if !dec2 (mag2 s) (!isMinus s)then (0,4)
 else if isMinus s then (if valF 0 (mag2 s)≤9223372036854775808 then (-(valF 0 (mag2 s):Int),0)else (0,27))
 else if valF 0 (mag2 s)<9223372036854775808 then ((valF 0 (mag2 s):Int),0)else (0,27)
theorem trimP_eq (s:Bs):Lib.trimPrefix s [45]=mag2 s:=by
 cases s with
 |nil=>rfl
 |cons c r=>
  by_cases hc:c=45
  ·subst hc;simp[Lib.trimPrefix,Lib.hasPrefix,List.isPrefixOf,mag2,isMinus]
  ·have h1:(45==c)=false:=by simpa using fun h=>hc h.symm
   have h2:(c==45)=false:=by simpa using hc
   simp[Lib.trimPrefix,Lib.hasPrefix,List.isPrefixOf,mag2,isMinus,h1,h2]
theorem atoi_plain (s : Bs) (h0 : mag2 s ≠ []) (h : (mag2 s).all digit = true) :
    Lib.atoiAll s=if isMinus s then (if valF 0 (mag2 s)≤9223372036854775808 then .ok (-(valF 0 (mag2 s):Int))else .range)else if valF 0 (mag2 s)<9223372036854775808 then .ok (valF 0 (mag2 s):Int)else .range:=by
 have hp:Lib.parseMag (mag2 s)=if valF 0 (mag2 s)<18446744073709551616 then .ok (valF 0 (mag2 s))else .range:=by
  unfold Lib.parseMag;rw[if_neg h0];exact parse_ok _ 0 h (by decide)
 cases s with
 |nil=>exact absurd rfl h0
 |cons c r=>
  by_cases hc:c=45
  ·subst hc
   have e:mag2 (45 :: r)=r:=by simp[mag2,isMinus]
   have e2:isMinus (45 :: r)=true:=rfl
   rw[e]at hp h0 h⊢
   rw[e2]
   unfold Lib.atoiAll
   simp only[show ((45:UInt8).toNat=43∨(45:UInt8).toNat=45)=True from by simp,if_true,show ((45:UInt8).toNat=45)=True from by simp,not_true_eq_false,false_and,if_false,true_and,or_true]
   rw[hp]
   generalize valF 0 r=x
   by_cases h1:x<18446744073709551616
   ·rw[if_pos h1]
    dsimp only
    by_cases h2:x≤9223372036854775808
    ·rw[if_neg (by omega),if_pos h2]
    ·rw[if_pos (by omega),if_neg h2]
   ·rw[if_neg h1,if_neg (by omega)]
  ·have e2:isMinus (c :: r)=false:=by simpa[isMinus]using hc
   have e:mag2 (c :: r)=c :: r:=by unfold mag2;rw[e2];rfl
   rw[e]at hp h0 h⊢
   rw[e2]
   have hd:=(digit_iff c).1 (by rw[List.all_cons,Bool.and_eq_true]at h;exact h.1)
   have n1:¬(c.toNat=43∨c.toNat=45):=by omega
   have n2:¬c.toNat=45:=by omega
   have n3:¬c.toNat=43:=by omega
   unfold Lib.atoiAll
   simp only[n3,n2,or_false,not_false_eq_true,true_and,false_and,if_false,Bool.false_eq_true]
   rw[hp]
   generalize valF 0 (c :: r)=x
   by_cases h1:x<18446744073709551616
   ·rw[if_pos h1]
    dsimp only
    by_cases h2:x<9223372036854775808
    ·rw[if_neg (by omega),if_pos h2]
    ·rw[if_pos (by omega),if_neg h2]
   ·rw[if_neg h1,if_neg (by omega)]
theorem read2_eq (s:Bs):readInt s=read2 s:=by
 unfold readInt read2
 rw[trimP_eq]
 have hs48:s=[48]→mag2 s=[48]∧isMinus s=false:=fun h=>by subst h;exact ⟨rfl,rfl⟩
 have hm48:mag2 s=[48]→isMinus s=false→s=[48]:=fun h h2=>by unfold mag2 at h;rw[h2]at h;exact h
 have hA:=atoi_plain s
 generalize hm:mag2 s=m at *
 generalize hi:isMinus s=b at *
 by_cases h1:s=[48]
 ·obtain ⟨rfl,rfl⟩:=hs48 h1
  rw[if_neg (by simp[h1])]
  unfold tailR
  rw[hA (by decide) (by decide)]
  simp[dec2]
  decide
 ·by_cases h2:m=[]
  ·subst h2
   rw[if_pos (by simp[h1]),if_pos (by rfl)]
  ·by_cases h3:m.headD 0=48
   ·have hd : dec2 m (!b) = false := by
      unfold dec2
      have e3:(m.headD 0==48)=true:=by simpa using h3
      rw[e3]
      cases b
      ·have hl : ¬ m.length = 1 := fun hl => by
         match m,hl with
         |[c],_=>
          simp at h3
          subst h3
          exact h1 (hm48 rfl rfl)
       simp[hl]
      ·simp
    rw[if_pos (by rw[h3];simp[h1]),if_pos (by simp[hd])]
   ·have e3:(m.headD 0==48)=false:=by simpa using h3
    have e4:m.isEmpty=false:=by cases m with|nil=>exact absurd rfl h2|cons _ _=>rfl
    rw[if_neg (by rw[e3,e4];simp)]
    unfold tailR
    cases hall:m.all digit
    ·rw[if_pos (by simp),if_pos (by unfold dec2;rw[hall];simp)]
    ·have hd:dec2 m (!b)=true:=by unfold dec2;rw[e3,e4,hall];rfl
     rw[if_neg (by simp),if_neg (by simp[hd]),hA h2 hall]
     cases b
     ·by_cases hv:valF 0 m<9223372036854775808
      ·simp[hv]
      ·simp[hv]
     ·by_cases hv:valF 0 m≤9223372036854775808
      ·simp[hv]
      ·simp[hv]
end Idn
/- Plain law: the reference's number is the layer's integer; decimal forms of numbers. -/
namespace Idn
open Go
theorem hasP_eq (s:Bs):Lib.hasPrefix s [45]=isMinus s:=by
 cases s with
 |nil=>rfl
 |cons c r=>
  by_cases h:c=45
  ·subst h;simp[Lib.hasPrefix,List.isPrefixOf,isMinus]
  ·have h1:(45==c)=false:=by simpa using fun e=>h e.symm
   have h2:(c==45)=false:=by simpa using h
   simp[Lib.hasPrefix,List.isPrefixOf,isMinus,h1,h2]
theorem itoa_zero:Lib.itoa 0=[48]:=by
 have:=Lib.itoa_nonneg 0
 rw[Lib.decDigits_one (by decide)]at this
 exact this
theorem all_head {l:Bs} (h0:l≠[]) (h:l.all digit=true):digit (l.headD 0)=true:=by
 cases l with
 |nil=>exact absurd rfl h0
 |cons c r=>rw[List.all_cons,Bool.and_eq_true]at h;exact h.1
theorem not_minus {l:Bs} (h:digit (l.headD 0)=true):isMinus l=false:=by
 have:=(digit_iff _).1 h
 unfold isMinus
 rw[beq_eq_false_iff_ne]
 intro e
 rw[e]at this
 simp at this
theorem dig_val (u:Nat):valF 0 (Lib.decDigits u)=u∧(Lib.decDigits u).all digit=true∧Lib.decDigits u≠[]∧(1≤u→(Lib.decDigits u).headD 0≠48):=by
 induction u using Nat.strongRecOn with
 |ind u ih=>
  have hdg:∀k:Nat,k<10→(UInt8.ofNat (48+k)).toNat=48+k:=fun k hk=>by
   simp;omega
  by_cases h:u<10
  ·rw[Lib.decDigits_one h]
   refine ⟨?_,?_,by simp,fun h1=>?_⟩
   ·simp only[valF,List.foldl_cons,List.foldl_nil,hdg u h];omega
   ·simp only[List.all_cons,List.all_nil,Bool.and_true];rw[digit_iff,hdg u h];omega
   ·intro e
    have:=congrArg UInt8.toNat e
    simp only[List.headD_cons]at this
    rw[hdg u h]at this
    simp at this;omega
  ·have e:Lib.decDigits u=Lib.decDigits (u / 10)++[UInt8.ofNat (48+u % 10)]:=by rw[Lib.decDigits,dif_neg h]
   obtain ⟨h1,h2,h3,h4⟩:=ih (u / 10) (by omega)
   have hk:=hdg (u % 10) (by omega)
   rw[e]
   refine ⟨?_,?_,by simp,fun _=>?_⟩
   ·rw[valF_app,h1,hk];omega
   ·rw[List.all_append,h2];simp only[List.all_cons,List.all_nil,Bool.and_true,Bool.true_and];rw[digit_iff,hk];omega
   ·have:=h4 (by omega)
    cases hx:Lib.decDigits (u / 10)with
    |nil=>exact absurd hx h3
    |cons c r=>rw[hx]at this;simpa using this
end Idn
/- Plain law: normal forms of values are their own normal forms, and are totally ordered. -/
namespace Go.Proofs.YtbkkchhimhlhcaaGreatDoor
open Go.RowKit Go.Sort
open Idn (L B Bs Tot)
theorem read_itoa {n:Int} (h1 : -9223372036854775808≤n) (h2:n≤9223372036854775807):Idn.read2 (Lib.itoa n)=(n,0)∧Idn.mag2 (Lib.itoa n)=Lib.decDigits n.natAbs∧Idn.isMinus (Lib.itoa n)=decide (n<0):=by
 obtain ⟨v1,v2,v3,v4⟩:=Idn.dig_val n.natAbs
 have hne:(Lib.decDigits n.natAbs).isEmpty=false:=by cases hx:Lib.decDigits n.natAbs with|nil=>exact absurd hx v3|cons _ _=>rfl
 have hnm:=Idn.not_minus (Idn.all_head v3 v2)
 by_cases hn:n<0
 ·have e:Lib.itoa n=45 :: Lib.decDigits n.natAbs:=by unfold Lib.itoa;rw[if_pos hn]
  have em:Idn.mag2 (Lib.itoa n)=Lib.decDigits n.natAbs:=by rw[e];simp[Idn.mag2,Idn.isMinus]
  have ei:Idn.isMinus (Lib.itoa n)=true:=by rw[e];rfl
  refine ⟨?_,em,by rw[ei];simp[hn]⟩
  unfold Idn.read2
  rw[em,ei,v1]
  have hd:Idn.dec2 (Lib.decDigits n.natAbs) (!true)=true:=by
   unfold Idn.dec2
   have:((Lib.decDigits n.natAbs).headD 0==48)=false:=by simpa using v4 (by omega)
   rw[hne,this,v2];rfl
  rw[if_neg (by rw[hd];simp),if_pos rfl,if_pos (by omega)]
  congr 1
  omega
 ·have e:Lib.itoa n=Lib.decDigits n.natAbs:=by unfold Lib.itoa;rw[if_neg hn];congr 1;omega
  have ei:Idn.isMinus (Lib.itoa n)=false:=by rw[e];exact hnm
  have em:Idn.mag2 (Lib.itoa n)=Lib.decDigits n.natAbs:=by unfold Idn.mag2;rw[ei,e];rfl
  refine ⟨?_,em,by rw[ei];simp[hn]⟩
  unfold Idn.read2
  rw[em,ei,v1]
  have hd:Idn.dec2 (Lib.decDigits n.natAbs) (!false)=true:=by
   unfold Idn.dec2
   by_cases h0:n.natAbs=0
   ·rw[h0,Lib.decDigits_one (by decide)];decide
   ·have:((Lib.decDigits n.natAbs).headD 0==48)=false:=by simpa using v4 (by omega)
    rw[hne,this,v2];rfl
  rw[if_neg (by rw[hd];simp),if_neg (by simp),if_pos (by omega)]
  congr 1
  omega
theorem integer_itoa {n:Int} (h1 : -9223372036854775808≤n) (h2:n≤9223372036854775807):Idn.integer (Lib.itoa n)=(Lib.itoa n,true):=by
 obtain ⟨r1,r2,r3⟩:=read_itoa h1 h2
 obtain ⟨v1,v2,v3,v4⟩:=Idn.dig_val n.natAbs
 have hne:(Lib.decDigits n.natAbs).isEmpty=false:=by cases hx:Lib.decDigits n.natAbs with|nil=>exact absurd hx v3|cons _ _=>rfl
 unfold Idn.integer
 rw[Idn.trimP_eq,Idn.hasP_eq,r2,r3]
 rw[if_neg (by unfold Idn.isDigs;rw[hne,v2];simp)]
 by_cases h0:n=0
 ·subst h0
  rw[show (0:Int).natAbs=0 from rfl,Lib.decDigits_one (by decide)]
  rw[if_pos (by decide),Idn.itoa_zero]
 ·have hs : Idn.stripD (Lib.decDigits n.natAbs) = Lib.decDigits n.natAbs := by
    have:=v4 (by omega)
    cases hx:Lib.decDigits n.natAbs with
    |nil=>exact absurd hx v3
    |cons c r=>
     rw[hx]at this
     have hc:(c==48)=false:=by simpa using this
     unfold Idn.stripD
     rw[List.dropWhile_cons,hc];rfl
  rw[hs,hne,if_neg (by simp)]
  have e:(if decide (n<0)=true then 45 :: Lib.decDigits n.natAbs else Lib.decDigits n.natAbs)=Lib.itoa n:=by
   unfold Lib.itoa
   by_cases hn:n<0
   ·rw[if_pos (by simpa using hn),if_pos hn]
   ·rw[if_neg (by simpa using hn),if_neg hn];congr 1;omega
  rw[e,Idn.read2_eq,r1]
  rfl
theorem integer_form {v:Bs} (h:(Idn.integer v).2=true):∃n:Int,-9223372036854775808≤n∧n≤9223372036854775807∧(Idn.integer v).1=Lib.itoa n:=by
 unfold Idn.integer at *
 split at h
 ·cases h
 ·rename_i h1
  rw[if_neg h1]
  split at h
  ·rename_i h2
   rw[if_pos h2]
   exact ⟨0,by decide,by decide,Idn.itoa_zero.symm⟩
  ·rename_i h2
   rw[if_neg h2]
   have hb:=readInt_bd (if Lib.hasPrefix v [45]=true then 45 :: Idn.stripD (Lib.trimPrefix v [45])else Idn.stripD (Lib.trimPrefix v [45]))
   exact ⟨_,hb.1,hb.2,rfl⟩
theorem up_true:Lib.toUpperD [116,114,117,101]=[84,82,85,69]:=by kernel_rfl
theorem up_false:Lib.toUpperD [102,97,108,115,101]=[70,65,76,83,69]:=by kernel_rfl
theorem truth_form {v:Bs} (h:(Idn.truth v).2=true):Idn.truth (Idn.truth v).1=((Idn.truth v).1,true):=by
 unfold Idn.truth at *
 dsimp only at *
 rw[Bool.or_eq_true]at h
 rcases h with h|h
 ·have e:Idn.lower v=[116,114,117,101]:=by simpa using h
  rw[e,up_true]
  rw[show Idn.lower [84,82,85,69]=[116,114,117,101] from by decide,up_true];rfl
 ·have e:Idn.lower v=[102,97,108,115,101]:=by simpa using h
  rw[e,up_false]
  rw[show Idn.lower [70,65,76,83,69]=[102,97,108,115,101] from by decide,up_false];rfl
theorem normSyn_idem {x:Int} {v u:Bs} (h:Idn.normSyn x v=(u,true)):Idn.normSyn x u=(u,true):=by
 unfold Idn.normSyn at *
 by_cases h3:x=3
 ·rw[if_pos h3]at *
  obtain ⟨n,n1,n2,e⟩:=integer_form (v:=v) (by rw[h])
  rw[h]at e
  dsimp only at e
  subst e
  exact integer_itoa n1 n2
 ·rw[if_neg h3]at *
  by_cases h5:x=5
  ·rw[if_pos h5]at *
   have:=truth_form (v:=v) (by rw[h])
   rw[h]at this;exact this
  ·rw[if_neg h5]at *
   by_cases h1:x=1
   ·rw[if_pos h1]at *
    injection h with h _
    rw[←h,Idn.fold_fold]
   ·rw[if_neg h1]at *
    by_cases h4:x=4
    ·rw[if_pos h4]at *
     injection h with h6 h7
     obtain ⟨l,_,_,_,hc,_⟩:=Idn.clean_form (v:=v) (u:=u) (by rw[←h6];exact Prod.ext rfl (by simpa using h7))
     rw[hc];rfl
    ·rw[if_neg h4]at *
theorem normV_idem {x:Int} {v u:Bs} (h:Idn.normV x v=(u,true)):Idn.normV x u=(u,true):=by
 obtain ⟨h1,h2⟩:=normV_parts h
 unfold Idn.normV
 rw[normSyn_idem h1,h2];rfl
def cmpSyn (x:Int) (a b:Bs):Int:=if x=3 then Lib.compareInt (Idn.readInt a).1 (Idn.readInt b).1 else if x=4 then cmpNm a b else Lib.compareBytes a b
theorem ordr_syn (x:Int):Ordr (cmpSyn x) (fun u=>∃v,Idn.normV x v=(u,true)):=by
 by_cases h3:x=3
 ·refine Ordr.of_key Idn.tot_int (fun a=>(Idn.readInt a).1) (fun a b _ _=>by unfold cmpSyn;rw[if_pos h3]) ?_
  rintro a b ⟨v,hv⟩ ⟨w,hw⟩ e
  have key:∀u v,Idn.normV x v=(u,true)→u=Lib.itoa (Idn.readInt u).1:=fun u v hv=>by
   have h1:=(normV_parts hv).1
   unfold Idn.normSyn at h1
   rw[if_pos h3]at h1
   obtain ⟨n,n1,n2,e⟩:=integer_form (v:=v) (by rw[h1])
   rw[h1]at e
   dsimp only at e
   subst e
   rw[Idn.read2_eq,(read_itoa n1 n2).1]
  rw[key a v hv,key b w hw,show (Idn.readInt a).1=(Idn.readInt b).1 from e]
 ·by_cases h4:x=4
  ·have key : ∀ u v, Idn.normV x v = (u, true) → ∃ l, Idn.check l = 0 ∧ u = Idn.fmtJ l ∧ Idn.normal u = (l.map Idn.nrm, true) := fun u v hv => by
    have h1:=(normV_parts hv).1
    unfold Idn.normSyn at h1
    rw[if_neg h3,if_neg (by omega),if_neg (by omega),if_pos h4]at h1
    injection h1 with h6 h7
    obtain ⟨l,hc,hu,_,_,hn⟩:=Idn.clean_form (v:=v) (u:=u) (by rw[←h6];exact Prod.ext rfl (by simpa using h7))
    exact ⟨l,hc,hu,hn⟩
   refine Ordr.of_key tot_cmpL (fun a=>(Idn.normal a).1.reverse) ?_ ?_
   ·rintro a b ⟨v,hv⟩ ⟨w,hw⟩
    obtain ⟨l,_,_,hn⟩:=key a v hv
    obtain ⟨m,_,_,hm⟩:=key b w hw
    unfold cmpSyn cmpNm
    rw[if_neg h3,if_pos h4,hn,hm];rfl
   ·rintro a b ⟨v,hv⟩ ⟨w,hw⟩ e
    obtain ⟨l,_,hu,hn⟩:=key a v hv
    obtain ⟨m,_,hu2,hm⟩:=key b w hw
    rw[hn,hm]at e
    have e2:l.map Idn.nrm=m.map Idn.nrm:=by simpa using e
    rw[hu,hu2,←Idn.fmtJ_nrm l,←Idn.fmtJ_nrm m,e2]
  ·exact Ordr.of_key Idn.tot_bytes id (fun a b _ _=>by unfold cmpSyn;rw[if_neg h3,if_neg h4];rfl) (fun a b _ _ h=>h)
theorem sNorm_ok {s:Idn.Sch} {n v a:Bs} (h:sNorm s n v=(a,0)):(tyLook (sound s) n).2=true∧Idn.normV (tyLook (sound s) n).1.syn v=(a,true)∧kNorm (sound s) n v=((tyLook (sound s) n).1,a,0):=by
 unfold sNorm at h
 have hk:kNorm (sound s) n v=if !(tyLook (sound s) n).2 then ((tyLook (sound s) n).1,[],6)else if !(Idn.normV (tyLook (sound s) n).1.syn v).2 then ((tyLook (sound s) n).1,[],8)else ((tyLook (sound s) n).1,(Idn.normV (tyLook (sound s) n).1.syn v).1,0):=rfl
 cases h1:(tyLook (sound s) n).2
 ·rw[hk,h1]at h;simp at h
 ·cases h2:(Idn.normV (tyLook (sound s) n).1.syn v).2
  ·rw[hk,h1,h2]at h;simp at h
  ·rw[hk,h1,h2]at h
   simp at h
   refine ⟨rfl,Prod.ext h h2,?_⟩
   rw[hk,h1,h2]
   simp[h]
theorem sNorm_of {s:Idn.Sch} {n v a:Bs} (h1:(tyLook (sound s) n).2=true) (h2:Idn.normV (tyLook (sound s) n).1.syn v=(a,true)):sNorm s n v=(a,0):=by
 unfold sNorm kNorm
 rw[h1,h2];rfl
theorem sComp_of {s:Idn.Sch} {n u v a b:Bs} (ha:sNorm s n u=(a,0)) (hb:sNorm s n v=(b,0)):sComp s n u v=(cmpSyn (tyLook (sound s) n).1.syn a b,0):=by
 obtain ⟨_,_,k1⟩:=sNorm_ok ha
 obtain ⟨_,_,k2⟩:=sNorm_ok hb
 unfold sComp cmpSyn
 rw[k1,k2]
 dsimp only
 by_cases h3:(tyLook (sound s) n).1.syn=3
 ·simp[h3]
 ·by_cases h4:(tyLook (sound s) n).1.syn=4
  ·simp[h4]
  ·simp[h3,h4]
theorem orders_law {s : Idn.Sch} {n A1 B1 C1 a b c : Bs} (ha : sNorm s n A1 = (a, 0)) (hb : sNorm s n B1 = (b, 0)) (hc : sNorm s n C1 = (c, 0)) :
  sNorm s n a=(a,0)∧∃p q r t:Int,sComp s n A1 B1=(p,0)∧sComp s n B1 A1=(q,0)∧sComp s n B1 C1=(r,0)∧sComp s n A1 C1=(t,0)∧(p = -1∨p=0∨p=1)∧q = -p∧(p=0↔a=b)∧(p≤0→r≤0→t≤0)∧-1≤r∧r≤1∧-1≤t∧t≤1:=by
 obtain ⟨t1,na,_⟩:=sNorm_ok ha
 obtain ⟨_,nb,_⟩:=sNorm_ok hb
 obtain ⟨_,nc,_⟩:=sNorm_ok hc
 have O:=ordr_syn (tyLook (sound s) n).1.syn
 have Na:∃v,Idn.normV (tyLook (sound s) n).1.syn v=(a,true):=⟨_,na⟩
 have Nb:∃v,Idn.normV (tyLook (sound s) n).1.syn v=(b,true):=⟨_,nb⟩
 have Nc:∃v,Idn.normV (tyLook (sound s) n).1.syn v=(c,true):=⟨_,nc⟩
 refine ⟨sNorm_of t1 (normV_idem na),_,_,_,_,sComp_of ha hb,sComp_of hb ha,sComp_of hb hc,sComp_of ha hc,O.rng a b Na Nb,O.neg a b Na Nb,O.eq a b Na Nb,O.tr a b c Na Nb Nc,?_⟩
 have r1:=O.rng b c Nb Nc
 have r2:=O.rng a c Na Nc
 omega
end Go.Proofs.YtbkkchhimhlhcaaGreatDoor
/- What the second form's bound gives: arguments of small bulk read as short lists of short strings. -/
namespace Go.Proofs.YtbkkchhimhlhcaaGreatDoor
open Go.RowKit Go.Sort Go.ChangeShapes Go.WideShapes Go.ChangeAt
open Idn (L B Bs)
section
variable {H:Type}
theorem bk_one (d:DataW H):1≤Rows.uptoBulk d:=by
 cases d with
 |lit l=>cases l<;>simp[Rows.uptoBulk]
 |nil=>simp[Rows.uptoBulk]
 |ptr d=>simp[Rows.uptoBulk]
 |slice elems spare=>simp[Rows.uptoBulk]
 |agg parts=>simp[Rows.uptoBulk]
 |iface t d=>simp[Rows.uptoBulk]
 |map entries=>simp[Rows.uptoBulk]
 |held h=>simp[Rows.uptoBulk]
theorem bk_part {d:DataW H} {l:List (DataW H)} (h:d∈l):Rows.uptoBulk d≤Rows.uptoBulkAll l:=by
 induction l with
 |nil=>cases h
 |cons x r ih=>
  simp only[Rows.uptoBulkAll]
  cases List.mem_cons.1 h with
  |inl e=>subst e;omega
  |inr e=>have:=ih e;omega
theorem bk_len (l:List (DataW H)):l.length≤Rows.uptoBulkAll l:=by
 induction l with
 |nil=>simp[Rows.uptoBulkAll]
 |cons x r ih=>have:=bk_one x;simp only[Rows.uptoBulkAll,List.length_cons];omega
theorem bk_slice (elems spare:List (DataW H)):Rows.uptoBulkAll elems≤Rows.uptoBulk (.slice elems spare):=by
 simp only[Rows.uptoBulk];omega
theorem bk_str (bytes:List UInt8):bytes.length≤Rows.uptoBulk (DataW.lit (H:=H) (.string bytes)):=by
 simp[Rows.uptoBulk]
theorem bk_agg {d:DataW H} {parts:List (DataW H)} (h:d∈parts):Rows.uptoBulk d≤Rows.uptoBulk (.agg parts):=by
 have:=bk_part h
 simp only[Rows.uptoBulk];omega
theorem bk_bound {l:List (DataW H)} (hk:Rows.uptoSmall H l=true):∀d∈l,Rows.uptoBulk d≤1048576:=by
 have h:Rows.uptoBulkAll l≤1048576:=of_decide_eq_true hk
 intro d hd
 exact Nat.le_trans (bk_part hd) h
end
section
variable {H:Type} {enc:TypeId×Value→H} {W:World}
theorem strs_openB {fuel:Nat} {v:Value} {x:DataW H×List MemPlace} (h:DataW.trod enc Tryz.prog W 0 (fun _=>true) true fuel 26 [v]=some x):∃l,StrsV W W.heap.size v l∧GS l (Rows.uptoBulk x.1):=by
 rcases open_strings Tryz.underlying26 Tryz.underlying9 cellsOf_string h with ⟨hcs,hx⟩|⟨a,len,cap,ss,hcs,_,hl,hm,hz,hx,hcell,_⟩
 ·simp at hcs
  subst hcs
  exact ⟨[],SlV.nil _ _ _ _,by simp,by simp⟩
 ·simp at hcs
  subst hcs
  simp only[if_true]at hz
  obtain ⟨b,off,spot⟩:=a
  have hlen:((ss.take len).map L).length=len:=by simp;omega
  refine ⟨(ss.take len).map L,?_,?_⟩
  case refine_2=>
   subst hx
   have k1:=bk_slice (H:=H) (strs (ss.take len)) (strs (ss.drop len))
   refine ⟨?_,fun y hy=>?_⟩
   ·have k2:=bk_len (H:=H) (strs (ss.take len))
    rw[List.length_map]
    simp only[strs,List.length_map]at k2
    exact Nat.le_trans k2 k1
   ·obtain ⟨t,ht,rfl⟩:=List.mem_map.1 hy
    have k3:(DataW.lit (.string t.data.toList):DataW H)∈strs (ss.take len):=List.mem_map.2 ⟨t,ht,rfl⟩
    exact Nat.le_trans (bk_str (H:=H) _) (Nat.le_trans (bk_part k3) k1)
  refine ⟨some ⟨b,off,spot⟩,cap,by rw[hlen],by rw[hlen];exact hl,fun hp=>?_⟩
  rw[hlen]at hp
  have hspot:spot=none:=by simpa[Addr.add]using World.cell?_spot (hcell 0 (by omega))
  subst hspot
  refine ⟨b,off,rfl,World.block_lt_of_cell? _ _ (hcell 0 (by omega)),fun i y hy=>?_⟩
  rw[List.getElem?_map]at hy
  obtain ⟨t,ht,rfl⟩:=Option.map_eq_some_iff.1 hy
  refine ⟨[sv (L t)],rfl,rfl,fun j u hj=>?_⟩
  match j,hj with
  |0,hj=>
   simp at hj;subst hj
   have hil:i<len:=by
    have:=(List.getElem?_eq_some_iff.1 ht).1
    simp at this;omega
   have:=hcell i (by omega)
   rw[add_plain]at this
   rw[Nat.mul_one,Nat.add_zero,this]
   rw[List.getElem?_take_of_lt hil]at ht
   simp[sv,Idn.B_L,List.getD,ht]
theorem sl_openB {α : Type} {E : α → List Value → Prop} {G : α → Nat → Prop} (hG : ∀ z n m, G z n → n ≤ m → G z m) {size : Nat} {t e : TypeId} {fuel : Nat} {v : Value} {x : DataW H × List MemPlace} (ht : Tryz.prog.underlying t = some (.slice e)) (hsz : Tryz.prog.cellsOf e = size) (hpos : 0 < size)
  (h:DataW.trod enc Tryz.prog W 0 (fun _=>true) true fuel t [v]=some x)
  (hE:∀(cs:List Value) (n:Nat) (y:DataW H×List MemPlace),DataW.trod enc Tryz.prog W 0 (fun _=>true) true n e cs=some y→∃z:α,cs.length=size∧E z cs∧G z (Rows.uptoBulk y.1)):∃l,SlV E W W.heap.size size v l∧l.length≤Rows.uptoBulk x.1∧∀z∈l,G z (Rows.uptoBulk x.1):=by
 rcases Go.Deep.open_slice ht h with ⟨hcs,hx⟩|⟨a,len,cap,m,n,D,Pl,hcs,_,hl,hm,hmm,hx,hel⟩
 ·simp at hcs
  subst hcs
  exact ⟨[],SlV.nil _ _ _ _,by simp,by simp⟩
 ·simp at hcs
  subst hcs
  simp only[if_true]at hmm
  have k1:=bk_slice (H:=H) ((List.range len).map D) ((List.range (m-len)).map fun j=>D (len+j))
  obtain ⟨l,hl1,hl2⟩:=exList (fun i (z:α)=>(∃cs,W.cells? 0 (a.add (i*size)) size=some cs∧cs.length=size∧E z cs)∧G z (Rows.uptoBulk (.slice ((List.range len).map D) ((List.range (m-len)).map fun j=>D (len+j)):DataW H))) len fun i hi=>by
   obtain ⟨cs,h1,h2⟩:=hel i (by omega)
   rw[hsz]at h1
   obtain ⟨z,h3,h4,h5⟩:=hE cs n _ h2
   refine ⟨z,⟨cs,h1,h3,h4⟩,hG _ _ _ h5 (Nat.le_trans (bk_part ?_) k1)⟩
   exact List.mem_map.2 ⟨i,List.mem_range.2 hi,rfl⟩
  refine ⟨l,⟨some a,cap,by rw[hl1],by rw[hl1];exact hl,fun hp=>?_⟩,?_,?_⟩
  case refine_2=>
   subst hx
   have k2:=bk_len (H:=H) ((List.range len).map D)
   rw[List.length_map,List.length_range]at k2
   rw[hl1]
   exact Nat.le_trans k2 k1
  case refine_3=>
   subst hx
   intro z hz
   obtain ⟨i,hi,rfl⟩:=List.getElem_of_mem hz
   exact (hl2 i _ (List.getElem?_eq_getElem hi)).2
  obtain ⟨b,off,spot⟩:=a
  obtain ⟨z0,hz0⟩:∃z,l[0]?=some z:=⟨_,List.getElem?_eq_getElem hp⟩
  obtain ⟨⟨cs0,h0,h0l,_⟩,_⟩:=hl2 0 z0 hz0
  have hc0:=(World.cells?_some h0).2.2 0 (by omega)
  have hv0:∃u,cs0[0]?=some u:=⟨_,List.getElem?_eq_getElem (by omega)⟩
  obtain ⟨u0,hu0⟩:=hv0
  rw[hu0]at hc0
  have hspot:spot=none:=by simpa[Addr.add]using World.cell?_spot hc0
  subst hspot
  rw[add_plain,add_plain]at hc0
  refine ⟨b,off,rfl,World.block_lt_of_cell? _ _ hc0,fun i z hz=>?_⟩
  obtain ⟨⟨cs,h1,h2,h3⟩,_⟩:=hl2 i z hz
  refine ⟨cs,h2,h3,fun j u hj=>?_⟩
  have hjl:=(List.getElem?_eq_some_iff.1 hj).1
  have:=(World.cells?_some h1).2.2 j (by omega)
  rw[hj,add_plain,add_plain]at this
  rw[←Nat.add_assoc];exact this
theorem bk_a2 (a b:DataW H):Rows.uptoBulk a≤Rows.uptoBulk (.agg [a,b])∧Rows.uptoBulk b≤Rows.uptoBulk (.agg [a,b]):=⟨bk_agg (by simp),bk_agg (by simp)⟩
theorem bk_a3 (a b c:DataW H):Rows.uptoBulk a≤Rows.uptoBulk (.agg [a,b,c])∧Rows.uptoBulk b≤Rows.uptoBulk (.agg [a,b,c])∧Rows.uptoBulk c≤Rows.uptoBulk (.agg [a,b,c]):=⟨bk_agg (by simp),bk_agg (by simp),bk_agg (by simp)⟩
theorem bk_a4 (a b c d:DataW H):Rows.uptoBulk a≤Rows.uptoBulk (.agg [a,b,c,d])∧Rows.uptoBulk b≤Rows.uptoBulk (.agg [a,b,c,d])∧Rows.uptoBulk c≤Rows.uptoBulk (.agg [a,b,c,d])∧Rows.uptoBulk d≤Rows.uptoBulk (.agg [a,b,c,d]):=⟨bk_agg (by simp),bk_agg (by simp),bk_agg (by simp),bk_agg (by simp)⟩
theorem bk_of {x:ByteArray} {y:DataW H×List MemPlace} (h:y=(.lit (.string x.data.toList),[])):(L x).length≤Rows.uptoBulk y.1:=by
 subst h
 exact bk_str (H:=H) _
theorem types_openB {fuel:Nat} {v:Value} {x:DataW H×List MemPlace} (h:DataW.trod enc Tryz.prog W 0 (fun _=>true) true fuel 22 [v]=some x):∃l,TypesV W W.heap.size v l∧l.length≤Rows.uptoBulk x.1∧∀t∈l,t.name.length≤Rows.uptoBulk x.1:=by
 refine sl_openB (E:=ET) (G:=fun t n=>t.name.length≤n) (fun _ _ _ h1 h2=>Nat.le_trans h1 h2) Tryz.underlying22 cellsOf_AT (by decide) h fun cs n y hy=>?_
 obtain ⟨y0,y1,y2,m,hyy,hl,h0,h1,h2⟩:=Go.Deep.trod_struct3 Tryz.underlying89 hy
 rw[cellsOf_AT]at hl
 match cs,hl with
 |[a,b,c],_=>
  obtain ⟨s,e0,f0,_⟩:=DataW.trod_string Tryz.underlying9 h0
  obtain ⟨k,e1,_,_⟩:=DataW.trod_int Tryz.underlying87 h1
  obtain ⟨d,e2,_⟩:=DataW.trod_bool Tryz.underlying4 h2
  simp[cellsOf_string]at e0
  simp[cellsOf_syn]at e1
  simp[cellsOf_bool]at e2
  subst e0 e1 e2
  refine ⟨⟨L s,k,d⟩,rfl,by simp[ET,sv,Idn.B_L],?_⟩
  subst hyy
  exact Nat.le_trans (bk_of f0) (bk_a3 _ _ _).1
theorem classes_openB {fuel:Nat} {v:Value} {x:DataW H×List MemPlace} (h:DataW.trod enc Tryz.prog W 0 (fun _=>true) true fuel 23 [v]=some x):∃l,ClassesV W W.heap.size v l∧l.length≤Rows.uptoBulk x.1∧∀c∈l,GC c (Rows.uptoBulk x.1):=by
 refine sl_openB (E:=EC W W.heap.size) (G:=GC) (fun _ _ _ h1 h2=>h1.mono h2) Tryz.underlying23 cellsOf_CL (by decide) h fun cs n y hy=>?_
 obtain ⟨y0,y1,y2,y3,m,hyy,hl,h0,h1,h2,h3⟩:=Go.Joins.trod_struct4 Tryz.underlying91 hy
 rw[cellsOf_CL]at hl
 match cs,hl with
 |[a,b,c,d],_=>
  obtain ⟨s,e0,f0,_⟩:=DataW.trod_string Tryz.underlying9 h0
  obtain ⟨t,e1,f1,_⟩:=DataW.trod_string Tryz.underlying9 h1
  simp[cellsOf_string]at e0 e1
  subst e0 e1
  have h2':DataW.trod enc Tryz.prog W 0 (fun _=>true) true m 26 [c]=some y2:=by simpa[cellsOf_strs]using h2
  have h3':DataW.trod enc Tryz.prog W 0 (fun _=>true) true m 26 [d]=some y3:=by simpa[cellsOf_strs]using h3
  obtain ⟨l2,a1,a2⟩:=strs_openB h2'
  obtain ⟨l3,b1,b2⟩:=strs_openB h3'
  subst hyy
  obtain ⟨k0,k1,k2,k3⟩:=bk_a4 y0.1 y1.1 y2.1 y3.1
  exact ⟨⟨L s,L t,l2,l3⟩,rfl,⟨c,d,by simp[sv,Idn.B_L],a1,b1⟩,Nat.le_trans (bk_of f0) k0,Nat.le_trans (bk_of f1) k1,a2.mono k2,b2.mono k3⟩
theorem atts_openB {fuel:Nat} {v:Value} {x:DataW H×List MemPlace} (h:DataW.trod enc Tryz.prog W 0 (fun _=>true) true fuel 46 [v]=some x):∃l,AttsV W W.heap.size v l∧GAs l (Rows.uptoBulk x.1):=by
 refine sl_openB (E:=EA W W.heap.size) (G:=GA) (fun _ _ _ h1 h2=>h1.mono h2) Tryz.underlying46 cellsOf_Att (by decide) h fun cs n y hy=>?_
 obtain ⟨y0,y1,m,hyy,hl,h0,h1⟩:=trod_struct2 Tryz.underlying96 hy
 rw[cellsOf_Att]at hl
 match cs,hl with
 |[a,b],_=>
  obtain ⟨s,e0,f0,_⟩:=DataW.trod_string Tryz.underlying9 h0
  simp[cellsOf_string]at e0
  subst e0
  have h1':DataW.trod enc Tryz.prog W 0 (fun _=>true) true m 26 [b]=some y1:=by simpa[cellsOf_string,cellsOf_strs]using h1
  obtain ⟨l2,a1,a2⟩:=strs_openB h1'
  subst hyy
  obtain ⟨k0,k1⟩:=bk_a2 y0.1 y1.1
  exact ⟨⟨L s,l2⟩,rfl,⟨b,by simp[sv,Idn.B_L],a1⟩,Nat.le_trans (bk_of f0) k0,a2.mono k1⟩
end
end Go.Proofs.YtbkkchhimhlhcaaGreatDoor
/- The second form's bound at entries, at filters, at the cases of identitylaw11. -/
namespace Go.Proofs.YtbkkchhimhlhcaaGreatDoor
open Go.RowKit Go.Sort Go.ChangeShapes Go.WideShapes Go.ChangeAt
open Idn (L B Bs)
section
variable {H:Type} {enc:TypeId×Value→H} {W:World}
theorem sl_openBN {α : Type} {E : α → List Value → Prop} {G : α → Nat → Prop} (hG : ∀ z n m, G z n → n ≤ m → G z m) {size : Nat} {t e : TypeId} {fuel : Nat} {v : Value} {x : DataW H × List MemPlace} (ht : Tryz.prog.underlying t = some (.slice e)) (hsz : Tryz.prog.cellsOf e = size) (hpos : 0 < size)
  (h:DataW.trod enc Tryz.prog W 0 (fun _=>true) true fuel t [v]=some x)
  (hE:∀(cs:List Value) (n:Nat) (y:DataW H×List MemPlace),n<fuel→DataW.trod enc Tryz.prog W 0 (fun _=>true) true n e cs=some y→∃z:α,cs.length=size∧E z cs∧G z (Rows.uptoBulk y.1)):∃l,SlV E W W.heap.size size v l∧l.length≤Rows.uptoBulk x.1∧∀z∈l,G z (Rows.uptoBulk x.1):=by
 rcases DataW.trod_slice ht h with ⟨hcs,hx⟩|⟨a,len,cap,elems,rest,n,hfu,hcs,hx,_,hl,hm,hlen,hel,_,_⟩
 ·simp at hcs
  subst hcs
  exact ⟨[],SlV.nil _ _ _ _,by simp,by simp⟩
 ·simp at hcs
  subst hcs
  have k1:=bk_slice (H:=H) (elems.map (·.1)) (rest.map (·.1))
  obtain ⟨l,hl1,hl2⟩:=exList (fun i (z:α)=>(∃cs,W.cells? 0 (a.add (i*size)) size=some cs∧cs.length=size∧E z cs)∧G z (Rows.uptoBulk (.slice (elems.map (·.1)) (rest.map (·.1)):DataW H))) len fun i hi=>by
   have h1:=hel i hi
   rw[hsz,List.getElem?_eq_getElem (by omega)]at h1
   obtain ⟨cs,h3,h4⟩:=Option.bind_eq_some_iff.1 h1
   obtain ⟨z,h5,h6,h7⟩:=hE cs n _ (by omega) h4
   exact ⟨z,⟨cs,h3,h5,h6⟩,hG _ _ _ h7 (Nat.le_trans (bk_part (List.mem_map.2 ⟨_,List.getElem_mem (by omega),rfl⟩)) k1)⟩
  refine ⟨l,⟨some a,cap,by rw[hl1],by rw[hl1];exact hl,fun hp=>?_⟩,?_,?_⟩
  case refine_2=>
   subst hx
   have k2:=bk_len (H:=H) (elems.map (·.1))
   rw[List.length_map]at k2
   rw[hl1,←hlen]
   exact Nat.le_trans k2 k1
  case refine_3=>
   subst hx
   intro z hz
   obtain ⟨i,hi,rfl⟩:=List.getElem_of_mem hz
   exact (hl2 i _ (List.getElem?_eq_getElem hi)).2
  obtain ⟨b,off,spot⟩:=a
  obtain ⟨z0,hz0⟩:∃z,l[0]?=some z:=⟨_,List.getElem?_eq_getElem hp⟩
  obtain ⟨⟨cs0,h0,h0l,_⟩,_⟩:=hl2 0 z0 hz0
  have hc0:=(World.cells?_some h0).2.2 0 (by omega)
  have hv0:∃u,cs0[0]?=some u:=⟨_,List.getElem?_eq_getElem (by omega)⟩
  obtain ⟨u0,hu0⟩:=hv0
  rw[hu0]at hc0
  have hspot:spot=none:=by simpa[Addr.add]using World.cell?_spot hc0
  subst hspot
  rw[add_plain,add_plain]at hc0
  refine ⟨b,off,rfl,World.block_lt_of_cell? _ _ hc0,fun i z hz=>?_⟩
  obtain ⟨⟨cs,h1,h2,h3⟩,_⟩:=hl2 i z hz
  refine ⟨cs,h2,h3,fun j u hj=>?_⟩
  have hjl:=(List.getElem?_eq_some_iff.1 hj).1
  have:=(World.cells?_some h1).2.2 j (by omega)
  rw[hj,add_plain,add_plain]at this
  rw[←Nat.add_assoc];exact this
theorem cellsOf_Ent:Tryz.prog.cellsOf 48=2:=by kernel_rfl
theorem cellsOf_atts:Tryz.prog.cellsOf 46=1:=by kernel_rfl
theorem entries_openB {fuel:Nat} {v:Value} {x:DataW H×List MemPlace} (h:DataW.trod enc Tryz.prog W 0 (fun _=>true) true fuel 27 [v]=some x):∃l,EntsV W W.heap.size v l∧l.length≤Rows.uptoBulk x.1∧∀e∈l,GE e (Rows.uptoBulk x.1):=by
 refine sl_openB (E:=EEn W W.heap.size) (G:=GE) (fun _ _ _ h1 h2=>h1.mono h2) Tryz.underlying27 cellsOf_Ent (by decide) h fun cs n y hy=>?_
 obtain ⟨y0,y1,m,hyy,hl,h0,h1⟩:=trod_struct2 Tryz.underlying48 hy
 rw[cellsOf_Ent]at hl
 match cs,hl with
 |[a,b],_=>
  obtain ⟨s,e0,f0,_⟩:=DataW.trod_string Tryz.underlying9 h0
  simp[cellsOf_string]at e0
  subst e0
  have h1':DataW.trod enc Tryz.prog W 0 (fun _=>true) true m 46 [b]=some y1:=by simpa[cellsOf_string,cellsOf_atts]using h1
  obtain ⟨l2,a1,a2⟩:=atts_openB h1'
  subst hyy
  obtain ⟨k0,k1⟩:=bk_a2 y0.1 y1.1
  exact ⟨(L s,l2),rfl,⟨b,by simp[sv,Idn.B_L],a1⟩,Nat.le_trans (bk_of f0) k0,a2.mono k1⟩
theorem flt_openB:∀(fuel:Nat) (cs:List Value) (x:DataW H×List MemPlace),DataW.trod enc Tryz.prog W 0 (fun _=>true) true fuel 31 cs=some x→∃f,cs.length=5∧FltC W W.heap.size fuel f cs∧fG (Rows.uptoBulk x.1) f:=by
 intro fuel
 induction fuel using Nat.strongRecOn with
 |_ fuel ih=>
 intro cs x h
 obtain ⟨xs,n,rfl,rfl,hl,hxs,hf⟩:=DataW.trod_struct Tryz.underlying31 h
 rw[cellsOf_Flt]at hl
 match cs,hl with
 |[a,b,c,d,e],_=>
 match xs,hxs with
 |[y0,y1,y2,y3,y4],_=>
 have h0:DataW.trod enc Tryz.prog W 0 (fun _=>true) true n 28 [a]=some y0:=by have:=hf 0 _ rfl;simpa[cellsOf_kind]using this
 have h1:DataW.trod enc Tryz.prog W 0 (fun _=>true) true n 9 [b]=some y1:=by have:=hf 1 _ rfl;simpa[cellsOf_string]using this
 have h2:DataW.trod enc Tryz.prog W 0 (fun _=>true) true n 9 [c]=some y2:=by have:=hf 2 _ rfl;simpa[cellsOf_string]using this
 have h3:DataW.trod enc Tryz.prog W 0 (fun _=>true) true n 26 [d]=some y3:=by have:=hf 3 _ rfl;simpa[cellsOf_strs]using this
 have h4:DataW.trod enc Tryz.prog W 0 (fun _=>true) true n 29 [e]=some y4:=by have:=hf 4 _ rfl;simpa[cellsOf_flts]using this
 obtain ⟨k,e0,_,_⟩:=DataW.trod_int Tryz.underlying28 h0
 obtain ⟨s1,e1,f1,_⟩:=DataW.trod_string Tryz.underlying9 h1
 obtain ⟨s2,e2,f2,_⟩:=DataW.trod_string Tryz.underlying9 h2
 obtain ⟨ps,hp,hpl⟩:=strs_openB h3
 obtain ⟨ks,hk,hkl,hkx⟩:=sl_openBN (E:=FltC W W.heap.size n) (G:=fun f n=>fG n f) (fun z n m h1 h2=>fG_mono h2 z h1) Tryz.underlying29 cellsOf_Flt (by decide) h4 fun cs m y hm hy=>by
  obtain ⟨g,g1,g2,g3⟩:=ih m (by omega) cs y hy
  exact ⟨g,g1,FltC.deep (by omega) g2,g3⟩
 simp at e0 e1 e2
 subst e0 e1 e2
 have hb:∀y∈[y0,y1,y2,y3,y4],Rows.uptoBulk y.1≤Rows.uptoBulk (.agg [y0.1,y1.1,y2.1,y3.1,y4.1]:DataW H):=fun y hy=>bk_agg (by
  simp at hy
  rcases hy with rfl|rfl|rfl|rfl|rfl<;>simp)
 refine ⟨.mk k (L s1) (L s2) ps ks,rfl,⟨d,e,rfl,hp,hk⟩,?_⟩
 show fG (Rows.uptoBulk (.agg [y0.1,y1.1,y2.1,y3.1,y4.1]:DataW H)) _
 rw[fG]
 exact ⟨Nat.le_trans (bk_of f1) (hb y1 (by simp)),Nat.le_trans (bk_of f2) (hb y2 (by simp)),hpl.mono (hb y3 (by simp)),Nat.le_trans hkl (hb y4 (by simp)),fGs_all.2 fun g hg=>fG_mono (hb y4 (by simp)) g (hkx g hg)⟩
end
end Go.Proofs.YtbkkchhimhlhcaaGreatDoor
/- Plain laws of the layer index: ranges by normal forms and by values; entries in their order. -/
namespace Go.Proofs.YtbkkchhimhlhcaaGreatDoor
open Go.RowKit Go.Sort
open Idn (L B Bs)
theorem norm_pair {s:Idn.Sch} {a v:Bs} (h:(sNorm s a v).2=0):sNorm s a v=((sNorm s a v).1,0):=by rw[←h]
theorem comp_norm {s:Idn.Sch} {a v v' b b':Bs} (hv:sNorm s a v=(v',0)) (hb:sNorm s a b=(b',0)):sComp s a v' b=sComp s a v b:=by
 have h:=(orders_law hv hb hb).1
 rw[sComp_of h hb,sComp_of hv hb]
theorem inB_low {s:Idn.Sch} {a v v' b b':Bs} (hv:sNorm s a v=(v',0)) (hb:sNorm s a b=(b',0)) (hne:b.isEmpty=false):inB s a v' b 1=decide ((sComp s a b v).1≤0):=by
 obtain ⟨_,p,q,_,_,hp,hq,_,_,_,hqp,_⟩:=orders_law hb hv hv
 unfold inB
 rw[comp_norm hv hb,hne,hq,hp]
 simp only[Bool.false_or,decide_true,Bool.true_and,Int.mul_one]
 rw[decide_eq_decide];omega
theorem inB_high {s:Idn.Sch} {a v v' b b':Bs} (hv:sNorm s a v=(v',0)) (hb:sNorm s a b=(b',0)) (hne:b.isEmpty=false):inB s a v' b (-1)=decide ((sComp s a v b).1≤0):=by
 obtain ⟨_,p,q,_,_,hp,hq,_,_,_,hqp,_⟩:=orders_law hb hv hv
 unfold inB
 rw[comp_norm hv hb,hne,hq]
 simp only[Bool.false_or,decide_true,Bool.true_and]
 rw[decide_eq_decide];omega
end Go.Proofs.YtbkkchhimhlhcaaGreatDoor
/- Plain laws of the layer index: what the reference computes is what the layer computes. -/
namespace Go.Proofs.YtbkkchhimhlhcaaGreatDoor
open Go.RowKit Go.Sort
open Idn (L B Bs)
theorem norm_nil (s:Idn.Sch) (a:Bs):(sNorm s a []).2≠0:=by
 unfold sNorm kNorm
 cases (tyLook (sound s) a).2 with
 |false=>simp
 |true=>
  have:(Idn.normV (tyLook (sound s) a).1.syn []).2=false:=by
   unfold Idn.normV
   rw[show Idn.clean []=false from by decide]
   simp
  simp[this]
end Go.Proofs.YtbkkchhimhlhcaaGreatDoor
/- Plain laws of the layer index: candidates of the reference; all that satisfy a filter are among them. -/
namespace Go.Proofs.YtbkkchhimhlhcaaGreatDoor
open Go.RowKit Go.Sort
open Idn (L B Bs)
theorem comp_ok {s:Idn.Sch} {n x v:Bs} (h:(sComp s n x v).2=0):(sNorm s n x).2=0∧(sNorm s n v).2=0:=by
 unfold sComp at h
 by_cases h1:(kNorm (sound s) n x).2.2=0
 ·by_cases h2:(kNorm (sound s) n v).2.2=0
  ·exact ⟨h1,h2⟩
  ·have e1:((kNorm (sound s) n x).2.2 !=0)=false:=by simpa using h1
   have e2:((kNorm (sound s) n v).2.2 !=0)=true:=by simpa using h2
   rw[e1,e2,if_neg (by decide),if_pos rfl]at h
   exact absurd h h2
 ·have e1:((kNorm (sound s) n x).2.2 !=0)=true:=by simpa using h1
  rw[e1,if_pos rfl]at h
  exact absurd h h1
theorem best_mem {x:Bs}:∀(l:List (List Bs×Bool)) (b:List Bs×Bool),(b.2=true→x∈b.1)→(∀c∈l,c.2=true→x∈c.1)→(bestC l b).2=true→x∈(bestC l b).1
 |[],b,hb,_,h=>hb h
 |c :: l,b,hb,hl,h=>by
  rw[bestC]at h⊢
  refine best_mem l _ ?_ (fun d hd=>hl d (List.mem_cons_of_mem _ hd)) h
  intro h2
  by_cases hc:(c.2&&(!b.2||decide (c.1.length<b.1.length)))=true
  ·rw[if_pos hc]
   rw[Bool.and_eq_true]at hc
   exact hl c List.mem_cons_self hc.1
  ·rw[if_neg hc]at h2⊢
   exact hb h2
theorem mem_found {es:List IxE} {e:IxE} {p:IxE→Bool} (he:e∈es) (hp:p e=true):e.1∈(es.filter p).map (·.1):=List.mem_map.2 ⟨e,List.mem_filter.2 ⟨he,hp⟩,rfl⟩
theorem mem_nV {s:Idn.Sch} {a x:Bs} {A:List Idn.Att} (hx:x∈rGet A a) (h:(sNorm s a x).2=0):(sNorm s a x).1∈nV s a A:=List.mem_filterMap.2 ⟨x,hx,by rw[if_pos h]⟩
theorem cands_of {s:Idn.Sch} {idx:List Bs} {es:List IxE}:∀{ks:List Flt} {f:Flt},f∈ks→ixCand s idx es f∈ixCands s idx es ks
 |[],_,h=>by simp at h
 |g :: l,f,h=>by
  rw[ixCands]
  rcases List.mem_cons.1 h with rfl|h
  ·exact List.mem_cons_self
  ·exact List.mem_cons_of_mem _ (cands_of h)
theorem complete_law {s:Idn.Sch} {idx:List Bs} {es:List IxE} {e:IxE} (he:e∈es) (f:Flt):fMat s e.2 f=true→(ixCand s idx es f).2=true→e.1∈(ixCand s idx es f).1:=by
 induction f using Flt.ind with
 |h k n v ps ks ih=>
  intro hm ht
  rw[fMat]at hm
  rw[ixCand]at ht⊢
  have hcmp:k≠1→k≠2→k≠3→∃x∈rGet e.2 n,satF s (tyLook (sound s) n).1.syn k n v ps x=true:=fun h1 h2 h3=>by
   rw[if_neg h1,if_neg h2,if_neg h3]at hm
   unfold cmpF at hm
   rw[Bool.and_eq_true,List.any_eq_true]at hm
   exact hm.2
  by_cases h4:k=4
  ·subst h4
   obtain ⟨x,hx,hs⟩:=hcmp (by decide) (by decide) (by decide)
   unfold satF at hs
   simp at hs
   obtain ⟨h1,h2⟩:=comp_ok hs.1
   rw[if_pos rfl]at ht⊢
   unfold ixFind at ht⊢
   split
   ·rename_i hi
    rw[if_pos hi]at ht;cases ht
   ·rw[if_neg (by simp[h2])]
    refine mem_found he ?_
    rw[List.contains_iff_mem]
    obtain ⟨_,p,q,_,_,hp,_,_,_,_,_,heq,_⟩:=orders_law (norm_pair h1) (norm_pair h2) (norm_pair h2)
    rw[hp]at hs
    rw[←heq.1 hs.2]
    exact mem_nV hx h1
  ·rw[if_neg h4]at ht⊢
   by_cases h56:k=5∨k=6
   ·rw[if_pos h56]at ht⊢
    obtain ⟨x,hx,hs⟩:=hcmp (by omega) (by omega) (by omega)
    unfold satF at hs
    rw[if_neg (by omega),if_neg (by omega),Bool.and_eq_true,decide_eq_true_eq]at hs
    obtain ⟨h1,h2⟩:=comp_ok hs.1
    have hne:v.isEmpty=false:=by
     cases hv:v.isEmpty with
     |false=>rfl
     |true=>
      have:=List.isEmpty_iff.1 hv
      subst this
      exact absurd h2 (norm_nil s n)
    obtain ⟨_,p,q,_,_,hp,hq,_,_,_,hqp,_⟩:=orders_law (norm_pair h1) (norm_pair h2) (norm_pair h2)
    unfold ixBound at ht⊢
    split
    ·rename_i hi
     rw[if_pos hi]at ht;cases ht
    ·rename_i hi
     rw[hne,if_neg (by decide)]
     rcases h56 with rfl|rfl
     ·rw[if_pos rfl]
      unfold ixRange
      rw[if_neg hi]
      refine mem_found he ?_
      rw[List.any_eq_true]
      refine ⟨_,mem_nV hx h1,?_⟩
      have hp0:0≤(sComp s n x v).1:=by simpa using hs.2
      rw[inB_low (norm_pair h1) (norm_pair h2) hne,hq]
      rw[hp]at hp0
      have hp0:0≤p:=hp0
      have:decide (q≤0)=true:=decide_eq_true (by omega)
      show (decide (q≤0)&&inB s n _ [] (-1))=true
      rw[this];rfl
     ·rw[if_neg (by decide)]
      unfold ixRange
      rw[if_neg hi]
      refine mem_found he ?_
      rw[List.any_eq_true]
      refine ⟨_,mem_nV hx h1,?_⟩
      have hp0:(sComp s n x v).1≤0:=by simpa using hs.2
      rw[inB_high (norm_pair h1) (norm_pair h2) hne,decide_eq_true hp0]
      rfl
   ·rw[if_neg h56]at ht⊢
    by_cases h7:k=7
    ·subst h7
     obtain ⟨x,hx,_⟩:=hcmp (by decide) (by decide) (by decide)
     rw[if_pos rfl]at ht⊢
     unfold ixPres at ht⊢
     split
     ·rename_i hi
      rw[if_pos hi]at ht;cases ht
     ·exact mem_found he (decide_eq_true (List.length_pos_of_mem hx))
    ·rw[if_neg h7]at ht⊢
     by_cases h1:k=1
     ·subst h1
      rw[if_pos rfl]at hm ht⊢
      rw[fAll_eq,List.all_eq_true]at hm
      refine best_mem _ _ (fun h=>by cases h) (fun c hc hc2=>?_) ht
      obtain ⟨g,hg,rfl⟩:=cands_mem hc
      exact ih g hg (hm g hg) hc2
     ·rw[if_neg h1]at hm ht⊢
      by_cases h2:k=2
      ·subst h2
       rw[if_pos rfl]at hm ht⊢
       rw[fAny_eq,List.any_eq_true]at hm
       obtain ⟨g,hg,hgm⟩:=hm
       unfold someC at ht⊢
       split
       ·rename_i hall
        rw[List.all_eq_true]at hall
        have hg2:=hall _ (cands_of (s:=s) (idx:=idx) (es:=es) hg)
        refine List.mem_filter.2 ⟨List.mem_map.2 ⟨e,he,rfl⟩,?_⟩
        rw[List.any_eq_true]
        exact ⟨_,cands_of hg,by rw[List.contains_iff_mem];exact ih g hg hgm hg2⟩
       ·rename_i hall
        rw[if_neg hall]at ht;cases ht
      ·rw[if_neg h2]at ht;cases ht
end Go.Proofs.YtbkkchhimhlhcaaGreatDoor
/- law11: light, nodes. -/
namespace Go.Proofs.YtbkkchhimhlhcaaGreatDoor
open Go.RowKit Go.Sort
open Idn (L B Bs drop_L take_L size_L)
theorem take_allP {α:Type} {p:α→Prop} {l:List α} {k:Nat} (h:∀a∈l.take k,p a) (hk:k<l.length) (hp:p l[k]):∀a∈l.take (k+1),p a:=fun a ha=>by
 rw[List.take_succ_eq_append_getElem hk,List.mem_append,List.mem_singleton]at ha
 rcases ha with ha|rfl
 ·exact h a ha
 ·exact hp
end Go.Proofs.YtbkkchhimhlhcaaGreatDoor
/- Plain functions: what the layers tree and search compute (entries in order, as in SpI). -/
namespace Go.Proofs.YtbkkchhimhlhcaaGreatDoor
open Go.RowKit Go.Sort
open Idn (L B Bs)
theorem run_scan {s:Idn.Sch} {idx:List Bs} {es:List IxE} {q:Qry}:qRun s es q (ixCand s idx es q.flt)=qScan s es q:=by
 unfold qRun qScan
 split
 ·rfl
 ·unfold qExam
  cases ht:(ixCand s idx es q.flt).2 with
  |false=>rfl
  |true=>
   rw[if_pos rfl]
   have e:((qScope es q).filter fun e=>(ixCand s idx es q.flt).1.contains e.1).filter (fun e=>fMatch s e.2 q.flt)=(qScope es q).filter fun e=>fMatch s e.2 q.flt:=by
    rw[List.filter_filter]
    refine List.filter_congr fun x hx=>?_
    cases hm:fMatch s x.2 q.flt with
    |false=>simp
    |true=>
     have hin:x∈es:=(List.mem_filter.1 hx).1
     have h2:fMat s x.2 q.flt=true:=by
      unfold fMatch at hm
      rw[Bool.and_eq_true]at hm
      exact hm.2
     have:=complete_law (s:=s) (idx:=idx) hin q.flt h2 ht
     rw[Bool.true_and,List.contains_iff_mem]
     exact this
   unfold qRes
   rw[e]
end Go.Proofs.YtbkkchhimhlhcaaGreatDoor
/- law12: rich, long, large; the data in memory. -/
namespace Go.Proofs.YtbkkchhimhlhcaaGreatDoor
open Go.RowKit Go.Sort
open Idn (L B Bs drop_L take_L size_L)
section
variable {w:World}
theorem rich12_any (n : ByteArray) (a : Value) (l : List Idn.Att) (hA : AttsV w w.heap.size a l) (hl : ALen8 l) (hn : n.size ≤ 9223372036854775807) :
  Calls Tryz.prog 89 #[.agg #[.string n,a]] w (RetN (n.size≤300∧RchA l) w):=by
 obtain ⟨A,c,rfl,hc⟩:=SlV.shape hA
 obtain ⟨hl1,hl2⟩:=hl
 go_enter Tryz.func89,Tryz.ntmps89
 go_upto_region 1 with fail
 with_reducible refine gen1 (R:=fun W=>Code.wp Tryz.prog _ _ _ W) ?_
 intro W hbW hszW hc1 _
 have b0:W.cell? ⟨w.heap.size,0,none⟩=some (.string n):=hc1 0 _ rfl
 have b1:W.cell? ⟨w.heap.size,1,none⟩=some (.slice A l.length c):=hc1 1 _ rfl
 clear hc1 hszW
 by_cases h1:n.size≤300
 case neg=>
  have hI:(300:Int)<(n.size:Int):=by omega
  clear h1
  go_wp2
  go_ret
  exact RetN.no hbW
 have hI:¬(300:Int)<(n.size:Int):=by omega
 by_cases h2:l.length≤6
 case neg=>
  have hI2:(6:Int)<(l.length:Int):=by omega
  clear h1 h2
  go_wp2
  go_ret
  exact RetN.no hbW
 have hI2:¬(6:Int)<(l.length:Int):=by omega
 have H1:=Lib.hid h1
 have H2:=Lib.hid h2
 clear h1
 go_wp2_with fail
 go_loopw [17] (fun i wr=>∃k:Nat,k≤l.length∧i=.int .i64 k∧Below W.heap.size W wr∧Hid (∀a∈l.take k,a.name.length≤100∧a.vals.length≤6∧∀x∈a.vals,x.length≤100)) (fun i _=>l.length-(intOf i).toNat)
 case atStart=>exact ⟨0,Nat.zero_le _,rfl,Below.refl _ _,fun t ht=>by simp at ht⟩
 case round=>
  obtain ⟨k,hk,rfl,hb,hinv⟩:=hrel
  replace b0:=cell_later hb b0
  replace b1:=cell_later hb b1
  have hbw:=hbW.trans (hb.mono hbW.size)
  by_cases hlt:k<l.length
  ·obtain ⟨b,off,va,hA',hbl,c0,c1,hva⟩:=AttsV.cell (AttsV.keep hA hbw) hlt
   subst hA'
   obtain ⟨Av,cv,rfl,hcv⟩:=SlV.shape hva
   have hltI:(k:Int)<(l.length:Int):=by omega
   have hsz:=Idn.size_B l[k].name
   have hvl:=hl2 _ (List.getElem_mem hlt)
   by_cases he:l[k].name.length≤100
   case neg=>
    have hg:(100:Int)<((B l[k].name).size:Int):=by omega
    clear hsz he hinv
    go_wp2_with fail
    go_ret
    exact RetN.no hbw
   have hg:¬(100:Int)<((B l[k].name).size:Int):=by omega
   have kN:=r2_Great_any _ l[k].vals 6 100 wr (SlV.mono hva hbw.size) (by omega) (by decide) (by decide)
   have HE:=Lib.hid he
   clear hsz he
   go_wp2_with fail
   refine kN.mono ?_
   rintro e w2 ⟨r2,rfl,hr2,hb2⟩
   have hb12:=hb.trans (hb2.mono hb.size)
   have hbw2:=hbw.trans (hb2.mono hbw.size)
   have HR2:=Lib.hid hr2
   clear hr2 kN c0 c1 hva
   cases r2
   case true=>
    clear HR2 hinv HE
    go_wp2_with fail
    go_ret
    exact RetN.no hbw2
   have HX:Hid (∀a∈l.take (k+1),a.name.length≤100∧a.vals.length≤6∧∀x∈a.vals,x.length≤100):=take_allP hinv.out hlt ⟨HE.out,HR2.out (by trivial)⟩
   clear hinv HR2 HE
   go_wp2_with fail
   go_roundw
   case rel=>exact ⟨k+1,by omega,by go_num,hb12,HX⟩
   case measure=>simp[intOf];omega
  ·have hltI:¬(k:Int)<(l.length:Int):=by omega
   have HX:Hid (n.size≤300∧RchA l):=⟨H1.out,H2.out,by
    have h:=hinv.out
    rwa[List.take_of_length_le (by omega)]at h⟩
   clear hinv
   go_wp2_with fail
   go_ret
   exact RetN.yes HX.out hbw
theorem large12_any {v:Value} {d:Dat} (hD:DatV w w.heap.size v d) (hl:DLen d):Calls Tryz.prog 27 #[v] w (RetN (DSm d) w):=by
 obtain ⟨A1,c1,A2,c2,A3,c3,A4,c4,A5,c5,rfl,hS,hR,hV,hX⟩:=hD.shape
 obtain ⟨l1,l2,l3,l4,l5,l6,l7⟩:=hl
 obtain ⟨sa,sb,e0,_,hC⟩:=hS
 obtain ⟨rfl,rfl⟩:Value.slice A1 d.sch.types.length c1=sa∧Value.slice A2 d.sch.classes.length c2=sb:=by injection e0 with h;simp at h;exact h
 have kR:=fun W (hW:Below w.heap.size w W)=>r2_Great_any _ d.roots 4 100 W (SlV.mono (SlV.keep hR hW) hW.size) l4 (by decide) (by decide)
 have kX:=fun W (hW:Below w.heap.size w W)=>r2_Great_any _ d.idx 6 100 W (SlV.mono (SlV.keep hX hW) hW.size) l7 (by decide) (by decide)
 clear hD hR hX e0 l4 l7
 obtain ⟨s,roots,ents,idx⟩:=d
 dsimp only at *
 go_enter Tryz.func27,Tryz.ntmps27
 go_upto_region 1 with fail
 with_reducible refine gen1 (R:=fun W=>Code.wp Tryz.prog _ _ _ W) ?_
 intro W hbW hszW hc _
 have b0:W.cell? ⟨w.heap.size,0,none⟩=some (.slice A1 s.types.length c1):=hc 0 _ rfl
 have b1:W.cell? ⟨w.heap.size,1,none⟩=some (.slice A2 s.classes.length c2):=hc 1 _ rfl
 have b2:W.cell? ⟨w.heap.size,2,none⟩=some (.slice A3 roots.length c3):=hc 2 _ rfl
 have b3:W.cell? ⟨w.heap.size,3,none⟩=some (.slice A4 ents.length c4):=hc 3 _ rfl
 have b4:W.cell? ⟨w.heap.size,4,none⟩=some (.slice A5 idx.length c5):=hc 4 _ rfl
 clear hc hszW
 by_cases h1:s.types.length≤12
 case neg=>
  have hI:(12:Int)<(s.types.length:Int):=by omega
  clear h1 kR kX
  go_wp2
  go_ret
  exact RetN.no hbW
 have hI1:¬(12:Int)<(s.types.length:Int):=by omega
 by_cases h2:s.classes.length≤6
 case neg=>
  have hI:(6:Int)<(s.classes.length:Int):=by omega
  clear h1 h2 kR kX
  go_wp2
  go_ret
  exact RetN.no hbW
 have hI2:¬(6:Int)<(s.classes.length:Int):=by omega
 have H1:=Lib.hid h1
 have H2:=Lib.hid h2
 clear h1
 go_wp2_with fail
 refine (kR W hbW).mono ?_
 rintro e w1 ⟨r1,rfl,hr1,hb1⟩
 have hbw1:=hbW.trans (hb1.mono hbW.size)
 replace b0:=cell_later hb1 b0
 replace b1:=cell_later hb1 b1
 replace b3:=cell_later hb1 b3
 replace b4:=cell_later hb1 b4
 have HR1:=Lib.hid hr1
 clear hr1 kR b2 hb1 hbW
 cases r1
 case true=>
  clear kX HR1
  go_wp2_with fail
  go_ret
  exact RetN.no hbw1
 by_cases h3:ents.length≤10
 case neg=>
  have hI:(10:Int)<(ents.length:Int):=by omega
  clear h3 kX HR1
  go_wp2_with fail
  go_ret
  exact RetN.no hbw1
 have hI3:¬(10:Int)<(ents.length:Int):=by omega
 have H3:=Lib.hid h3
 go_wp2_with fail
 refine (kX w1 hbw1).mono ?_
 rintro e w2 ⟨r2,rfl,hr2,hb2⟩
 have hbw2:=hbw1.trans (hb2.mono hbw1.size)
 replace b0:=cell_later hb2 b0
 replace b1:=cell_later hb2 b1
 replace b3:=cell_later hb2 b3
 have HR2:=Lib.hid hr2
 clear hr2 kX b4 hb2 hbw1
 cases r2
 case true=>
  clear HR1 HR2
  go_wp2_with fail
  go_ret
  exact RetN.no hbw2
 go_wp2_with fail
 go_loopw [37] (fun i wr=>∃k:Nat,k≤s.classes.length∧i=.int .i64 k∧Below w2.heap.size w2 wr∧Hid (∀c∈s.classes.take k,c.must.length≤12∧c.may.length≤12)) (fun i _=>s.classes.length-(intOf i).toNat)
 case atStart=>exact ⟨0,Nat.zero_le _,rfl,Below.refl _ _,fun t ht=>by simp at ht⟩
 case round=>
  obtain ⟨k,hk,rfl,hb,hinv⟩:=hrel
  replace b0:=cell_later hb b0
  replace b1:=cell_later hb b1
  replace b3:=cell_later hb b3
  have hbw:=hbw2.trans (hb.mono hbw2.size)
  by_cases hlt:k<s.classes.length
  ·obtain ⟨b,off,hA,_,cs,g1,⟨mv,uv,g2,gm,gu⟩,g3⟩:=(ClassesV.keep hC hbw).at_ hlt
   subst g2 hA
   obtain ⟨Am,cm,rfl,_⟩:=SlV.shape gm
   obtain ⟨Au,cu,rfl,_⟩:=SlV.shape gu
   have d2:wr.cell? ⟨b,off+k*4+2,none⟩=some (.slice Am s.classes[k].must.length cm):=by simpa[sv,Nat.add_assoc]using g3 2 _ rfl
   have d3:wr.cell? ⟨b,off+k*4+3,none⟩=some (.slice Au s.classes[k].may.length cu):=by simpa[sv,Nat.add_assoc]using g3 3 _ rfl
   have hltI:(k:Int)<(s.classes.length:Int):=by omega
   obtain ⟨hm1,hm2⟩:=l3 _ (List.getElem_mem hlt)
   have kM:=r2_Great_any _ s.classes[k].must 12 100 wr (SlV.mono gm hbw.size) hm1 (by decide) (by decide)
   have kY:=fun V (hV:Below wr.heap.size wr V)=>r2_Great_any _ s.classes[k].may 12 100 V (SlV.mono (SlV.keep (SlV.mono gu hbw.size) hV) hV.size) hm2 (by decide) (by decide)
   clear g3 g1 gm gu hm1 hm2
   go_wp2_with fail
   refine kM.mono ?_
   rintro e w3 ⟨r3,rfl,hr3,hb3⟩
   have hbw3:=hbw.trans (hb3.mono hbw.size)
   have hb13:=hb.trans (hb3.mono hb.size)
   replace b0:=cell_later hb3 b0
   replace b1:=cell_later hb3 b1
   replace d2:=cell_later hb3 d2
   replace d3:=cell_later hb3 d3
   have HR3:=Lib.hid hr3
   clear hr3 kM
   cases r3
   case true=>
    clear HR3 hinv kY
    go_wp2_with fail
    go_ret
    exact RetN.no hbw3
   go_wp2_with fail
   refine (kY w3 hb3).mono ?_
   rintro e w4 ⟨r4,rfl,hr4,hb4⟩
   have hbw4:=hbw3.trans (hb4.mono hbw3.size)
   have hb14:=hb13.trans (hb4.mono hb13.size)
   have HR4:=Lib.hid hr4
   clear hr4 kY d2 d3
   cases r4
   case true=>
    clear HR3 HR4 hinv
    go_wp2_with fail
    go_ret
    exact RetN.no hbw4
   have HX:Hid (∀c∈s.classes.take (k+1),c.must.length≤12∧c.may.length≤12):=take_allP hinv.out hlt ⟨(HR3.out (by trivial)).1,(HR4.out (by trivial)).1⟩
   clear hinv HR3 HR4
   go_wp2_with fail
   go_roundw
   case rel=>exact ⟨k+1,by omega,by go_num,hb14,HX⟩
   case measure=>simp[intOf];omega
  ·have hltI:¬(k:Int)<(s.classes.length:Int):=by omega
   have HC:Hid (∀c∈s.classes,c.must.length≤12∧c.may.length≤12):=by
    have h:=hinv.out
    rwa[List.take_of_length_le (by omega)]at h
   clear hinv b1
   go_wp2_with fail
   go_loopw [62] (fun i wi=>∃k:Nat,k≤ents.length∧i=.int .i64 k∧Below wr.heap.size wr wi∧Hid (∀e∈ents.take k,e.1.length≤300∧RchA e.2)) (fun i _=>ents.length-(intOf i).toNat)
   case atStart=>exact ⟨0,Nat.zero_le _,rfl,Below.refl _ _,fun t ht=>by simp at ht⟩
   case round=>
    rename World=>wi
    obtain ⟨m,hm,rfl,hb5,hin5⟩:=hrel
    replace b3:=cell_later hb5 b3
    have hbw5:=hbw.trans (hb5.mono hbw.size)
    by_cases hlt5:m<ents.length
    ·have hltI5:(m:Int)<(ents.length:Int):=by omega
     obtain ⟨b,off,va,hA4,_,d0,d1,hva⟩:=EntsV.cell (EntsV.keep hV hbw5) hlt5
     subst hA4
     obtain ⟨Av,cv,rfl,_⟩:=SlV.shape hva
     obtain ⟨hn1,hn2⟩:=l6 _ (List.getElem_mem hlt5)
     have hL:=rich12_any (B ents[m].1) _ ents[m].2 (AttsV.mono hva hbw5.size) hn2 (by rw[Idn.size_B];exact hn1)
     rw[Idn.size_B]at hL
     clear hva hn1 hn2
     go_wp2_with fail
     refine hL.mono ?_
     rintro e w6 ⟨r6,rfl,hr6,hb6⟩
     have hbw6:=hbw5.trans (hb6.mono hbw5.size)
     have hb56:=hb5.trans (hb6.mono hb5.size)
     have HR6:=Lib.hid hr6
     clear hL hr6 d0 d1
     cases r6
     case true=>
      clear HR6 hin5
      go_wp2_with fail
      go_ret
      exact RetN.no hbw6
     have HX:Hid (∀e∈ents.take (m+1),e.1.length≤300∧RchA e.2):=take_allP (p:=fun e:EntP=>e.1.length≤300∧RchA e.2) hin5.out hlt5 (HR6.out (by trivial))
     clear hin5 HR6
     go_wp2_with fail
     go_roundw
     case rel=>exact ⟨m+1,by omega,by go_num,hb56,HX⟩
     case measure=>simp[intOf];omega
    ·have hltI5:¬(m:Int)<(ents.length:Int):=by omega
     have HX:Hid (DSm ⟨s,roots,ents,idx⟩):=⟨H1.out,H2.out,HR1.out (by trivial),H3.out,HR2.out (by trivial),HC.out,by
      have h:=hin5.out
      rwa[List.take_of_length_le (by omega)]at h⟩
     clear hin5 HC HR1 HR2
     go_wp2_with fail
     go_ret
     exact RetN.yes HX.out hbw5
end
end Go.Proofs.YtbkkchhimhlhcaaGreatDoor
/- Queries and the data of identitylaw12 handed over. -/
namespace Go.Proofs.YtbkkchhimhlhcaaGreatDoor
open Go.RowKit Go.Sort Go.ChangeShapes Go.WideShapes Go.ChangeAt
open Idn (L B Bs)
section
variable {H:Type} {enc:TypeId×Value→H} {W:World}
theorem query_openB {r : Reach} {b0 : Nat} {v : Value} {d : DataW H} {p : List MemPlace} (hv : Value.okWide Tryz.prog W r b0 55 v) (h : DataW.Trod enc Tryz.prog W 0 (fun _ => true) true 55 v d p) :
    ∃n q,QryV W W.heap.size n v q∧GQ q (Rows.uptoBulk d):=by
 obtain ⟨cs,rfl,hsz⟩:=okWide_struct Tryz.underlying55 hv
 obtain ⟨fuel,hf⟩:=h
 have hf':DataW.trod enc Tryz.prog W 0 (fun _=>true) true fuel 55 cs.toList=some (d,p):=by simpa[Value.cells]using hf
 obtain ⟨xs,n,rfl,hyy,hl,hxs,hg⟩:=DataW.trod_struct Tryz.underlying55 hf'
 rw[cellsOf_Qry]at hl
 obtain ⟨l⟩:=cs
 dsimp only at hl hg
 match l,hl with
 |[a0,a1,a2,a3,a4,a5,a6,a7,a8],_=>
 match xs,hxs with
 |[y0,y1,y2,y3,y4],_=>
 have h0:DataW.trod enc Tryz.prog W 0 (fun _=>true) true n 9 [a0]=some y0:=by have:=hg 0 _ rfl;simpa[cellsOf_string]using this
 have h1:DataW.trod enc Tryz.prog W 0 (fun _=>true) true n 53 [a1]=some y1:=by have:=hg 1 _ rfl;simpa[cellsOf_string,cellsOf_scope]using this
 have h2:DataW.trod enc Tryz.prog W 0 (fun _=>true) true n 31 [a2,a3,a4,a5,a6]=some y2:=by have:=hg 2 _ rfl;simpa[cellsOf_string,cellsOf_scope,cellsOf_fl5]using this
 have h3:DataW.trod enc Tryz.prog W 0 (fun _=>true) true n 26 [a7]=some y3:=by have:=hg 3 _ rfl;simpa[cellsOf_string,cellsOf_scope,cellsOf_fl5,cellsOf_strs]using this
 have h4:DataW.trod enc Tryz.prog W 0 (fun _=>true) true n 3 [a8]=some y4:=by have:=hg 4 _ rfl;simpa[cellsOf_string,cellsOf_scope,cellsOf_fl5,cellsOf_strs,cellsOf_in1]using this
 obtain ⟨s0,e0,f0,_⟩:=DataW.trod_string Tryz.underlying9 h0
 obtain ⟨k1,e1,_,_⟩:=DataW.trod_int Tryz.underlying53 h1
 obtain ⟨f,_,e2,e3⟩:=flt_openB n _ _ h2
 obtain ⟨ns,g3,l3⟩:=strs_openB h3
 obtain ⟨k4,e4,_,_⟩:=DataW.trod_int Tryz.underlying3 h4
 simp at e0 e1 e4
 subst e0 e1 e4
 injection hyy with hd hp
 subst hd
 have hb:∀y∈[y0,y1,y2,y3,y4],Rows.uptoBulk y.1≤Rows.uptoBulk (.agg [y0.1,y1.1,y2.1,y3.1,y4.1]:DataW H):=fun y hy=>bk_agg (by
  simp at hy
  rcases hy with rfl|rfl|rfl|rfl|rfl<;>simp)
 cases n with
 |zero=>exact e2.elim
 |succ n=>
  obtain ⟨pv,kv,e,hp,hk⟩:=e2
  simp only[List.cons.injEq,and_true]at e
  obtain ⟨rfl,rfl,rfl,rfl,rfl⟩:=e
  exact ⟨n,⟨L s0,k1,f,ns,k4⟩,⟨_,_,_,by simp[sv,Idn.B_L],⟨_,_,rfl,hp,hk⟩,g3⟩,Nat.le_trans (bk_of f0) (hb y0 (by simp)),fG_mono (hb y2 (by simp)) _ e3,l3.mono (hb y3 (by simp))⟩
theorem cellsOf_Dat:Tryz.prog.cellsOf 60=5:=by kernel_rfl
theorem cellsOf_Sch2:Tryz.prog.cellsOf 25=2:=by kernel_rfl
theorem cellsOf_enl:Tryz.prog.cellsOf 27=1:=by kernel_rfl
theorem cellsOf_tyl:Tryz.prog.cellsOf 22=1:=by kernel_rfl
theorem cellsOf_cll:Tryz.prog.cellsOf 23=1:=by kernel_rfl
theorem data_openB {r : Reach} {b0 : Nat} {v : Value} {d : DataW H} {p : List MemPlace} (hv : Value.okWide Tryz.prog W r b0 60 v) (h : DataW.Trod enc Tryz.prog W 0 (fun _ => true) true 60 v d p) :
  ∃D,DatV W W.heap.size v D∧GD D (Rows.uptoBulk d):=by
 obtain ⟨cs,rfl,hsz⟩:=okWide_struct Tryz.underlying60 hv
 obtain ⟨fuel,hf⟩:=h
 have hf':DataW.trod enc Tryz.prog W 0 (fun _=>true) true fuel 60 cs.toList=some (d,p):=by simpa[Value.cells]using hf
 obtain ⟨xs,n,rfl,hyy,hl,hxs,hg⟩:=DataW.trod_struct Tryz.underlying60 hf'
 rw[cellsOf_Dat]at hl
 obtain ⟨l⟩:=cs
 dsimp only at hl hg
 match l,hl with
 |[a0,a1,a2,a3,a4],_=>
 match xs,hxs with
 |[y0,y1,y2,y3],_=>
 have h0:DataW.trod enc Tryz.prog W 0 (fun _=>true) true n 25 [a0,a1]=some y0:=by have:=hg 0 _ rfl;simpa[cellsOf_Sch2]using this
 have h1:DataW.trod enc Tryz.prog W 0 (fun _=>true) true n 26 [a2]=some y1:=by have:=hg 1 _ rfl;simpa[cellsOf_Sch2,cellsOf_strs]using this
 have h2:DataW.trod enc Tryz.prog W 0 (fun _=>true) true n 27 [a3]=some y2:=by have:=hg 2 _ rfl;simpa[cellsOf_Sch2,cellsOf_strs,cellsOf_enl]using this
 have h3:DataW.trod enc Tryz.prog W 0 (fun _=>true) true n 26 [a4]=some y3:=by have:=hg 3 _ rfl;simpa[cellsOf_Sch2,cellsOf_strs,cellsOf_enl]using this
 obtain ⟨z0,z1,m,hzz,hl2,g0,g1⟩:=trod_struct2 Tryz.underlying25 h0
 have g0':DataW.trod enc Tryz.prog W 0 (fun _=>true) true m 22 [a0]=some z0:=by simpa[cellsOf_tyl]using g0
 have g1':DataW.trod enc Tryz.prog W 0 (fun _=>true) true m 23 [a1]=some z1:=by simpa[cellsOf_tyl,cellsOf_cll]using g1
 obtain ⟨l0,t1,t2,t3⟩:=types_openB g0'
 obtain ⟨l1,c1,c2,c3⟩:=classes_openB g1'
 obtain ⟨rs,r1,r2⟩:=strs_openB h1
 obtain ⟨es,e1,e2,e3⟩:=entries_openB h2
 obtain ⟨xs,x1,x2⟩:=strs_openB h3
 injection hyy with hd hp
 subst hd hzz
 obtain ⟨k0,k1⟩:=bk_a2 z0.1 z1.1
 have hb:∀y∈[(.agg [z0.1,z1.1],z0.2++z1.2),y1,y2,y3],Rows.uptoBulk y.1≤Rows.uptoBulk (.agg [.agg [z0.1,z1.1],y1.1,y2.1,y3.1]:DataW H):=fun y hy=>bk_agg (by
  simp at hy
  rcases hy with rfl|rfl|rfl|rfl<;>simp)
 have hbe:=hb (.agg [z0.1,z1.1],z0.2++z1.2) (by simp)
 refine ⟨⟨⟨l0,l1⟩,rs,es,xs⟩,⟨a0,a1,a2,a3,a4,rfl,⟨_,_,rfl,t1,c1⟩,r1,e1,x1⟩,?_,r2.mono (hb y1 (by simp)),⟨Nat.le_trans e2 (hb y2 (by simp)),fun e he=>(e3 e he).mono (hb y2 (by simp))⟩,x2.mono (hb y3 (by simp))⟩
 exact ⟨⟨Nat.le_trans t2 (Nat.le_trans k0 hbe),fun t ht=>Nat.le_trans (t3 t ht) (Nat.le_trans k0 hbe)⟩,Nat.le_trans c2 (Nat.le_trans k1 hbe),fun c hc=>(c3 c hc).mono (Nat.le_trans k1 hbe)⟩
end
end Go.Proofs.YtbkkchhimhlhcaaGreatDoor
/- name: Parent, Depth, last, Under; slices.Equal at components. -/
namespace Go.Proofs.YtbkkchhimhlhcaaGreatDoor
open Go.RowKit Go.Sort
open Idn (L B Bs drop_L take_L size_L)
theorem normal_psm (s:Bs):∀p∈(Idn.normal s).1,p.1.length≤256∧p.2.length≤256:=by
 unfold Idn.normal
 split
 ·simp
 ·exact (parse_sm s).2
theorem run_size_pr (W:World):(sizeOf (Tryz.prog.elem 152)).run Tryz.prog W=.ok 2 W:=by
 obtain ⟨i,hi,_,h1,_⟩:=info_parts info_pair
 have e:Tryz.prog.elem 152=156:=by kernel_rfl
 rw[e]
 simp[sizeOf,typeInfo,hi,h1]
theorem dropP_run {w : World} {hi n c : Nat} {l : List Idn.Pr} {A : Option Addr} (h : PairsV w hi (.slice A n c) l) {j : Nat} (hj : j ≤ l.length) :
  ∃A' c',(∀W:World,(Instr.slice 152 (.slice A n c) (some (.int .i64 (j:Int))) none none).run Tryz.prog W=.ok (.slice A' (n-j) c') W)∧PairsV w hi (.slice A' (n-j) c') (l.drop j):=by
 have hn:=SlV.len h
 refine ⟨_,_,fun W=>?_,SlV.cutFrom h j hj⟩
 rw[run_slice_l W 152 A n c (by kernel_rfl) .i64 (j:Int) (by omega) (by omega),run_size_pr]
 simp only[Result.andThen_ok,sliced,Int.toNat_natCast]
theorem nm_parent_any (s : ByteArray) (w : World) (hs : s.size ≤ 1000000000) :
    Calls Tryz.prog 85 #[.string s] w fun e w'=>e=.returned (.tuple #[.string (B (nmPar (L s)).1),.bool (nmPar (L s)).2])∧Below w.heap.size w w':=by
 have hN:=nm_normal_any s w hs
 have h8:=normal_sm (L s)
 have hsm:=normal_psm (L s)
 have HR:Hid (nmPar (L s)=if (Idn.normal (L s)).2&&!(Idn.normal (L s)).1.isEmpty then ((Idn.format (Idn.normal (L s)).1.tail).1,true)else ([],false)):=rfl
 generalize nmPar (L s)=r at *
 generalize Idn.normal (L s)=nn at *
 obtain ⟨l,d⟩:=nn
 dsimp only at HR h8 hsm
 by_cases h0:d=true∧0<l.length
 ·obtain ⟨rfl,hp⟩:=h0
  have HF:Hid (r=((Idn.format (l.drop 1)).1,true)):=by
   show _=_
   rw[HR.out]
   cases l with
   |nil=>simp at hp
   |cons p l=>rfl
  have hF:=fun v W (hv:PairsV W W.heap.size v (l.drop 1))=>nm_format_any v (l.drop 1) W hv (fun p hp=>by have:=hsm p (List.mem_of_mem_drop hp);omega) (by rw[List.length_drop];omega)
  have hpI:((l.length:Int)==0)=false:=beq_eq_false_iff_ne.2 (by omega)
  clear HR hsm
  go_enter Tryz.func85,Tryz.ntmps85
  go_wp2_with fail
  refine hN.mono ?_
  rintro e w1 ⟨v,rfl,hown,hb⟩
  clear hN
  obtain ⟨A,c,hv⟩:=own_shape hown
  subst hv
  dsimp only at hown
  obtain ⟨A',c',hrun,hP⟩:=dropP_run (PairsV.of_own hown) (j:=1) (by omega)
  have hrun:∀W:World,(Instr.slice 152 (.slice A l.length c) (some (.int .i64 1)) none none).run Tryz.prog W=.ok (.slice A' (l.length-1) c') W:=hrun
  have hF1:=hF _ w1 hP
  generalize Idn.format (l.drop 1)=fm at *
  obtain ⟨t,x⟩:=fm
  clear hF hP
  go_wp2_with (go_at_call 163;refine hF1.mono ?_;rintro e w2 ⟨rfl,hb2⟩)
  go_ret2
  exact ⟨by rw[HF.out];rfl,hb.trans (hb2.mono hb.size)⟩
 ·have HF : Hid (r = ([], false)) := by
    show _=_
    rw[HR.out]
    cases d with
    |false=>rfl
    |true=>
     cases l with
     |nil=>rfl
     |cons p l=>exact absurd ⟨rfl,by simp⟩ h0
  clear HR hsm
  cases d with
  |false=>
   go_enter Tryz.func85,Tryz.ntmps85
   go_wp2_with fail
   refine hN.mono ?_
   rintro e w1 ⟨v,rfl,hown,hb⟩
   obtain ⟨A,c,hv⟩:=own_shape hown
   subst hv
   clear hN
   go_wp2
   go_ret2
   exact ⟨by rw[HF.out];rfl,hb⟩
  |true=>
   have hl:l.length=0:=by
    rcases Nat.eq_zero_or_pos l.length with h|h
    ·exact h
    ·exact absurd ⟨rfl,h⟩ h0
   clear h0
   go_enter Tryz.func85,Tryz.ntmps85
   go_wp2_with fail
   refine hN.mono ?_
   rintro e w1 ⟨v,rfl,hown,hb⟩
   obtain ⟨A,c,hv⟩:=own_shape hown
   subst hv
   clear hN
   dsimp only at *
   rw[hl]
   go_wp2
   go_ret2
   exact ⟨by rw[HF.out];rfl,hb⟩
theorem nm_depth_any (s : ByteArray) (w : World) (hs : s.size ≤ 1000000000) :
  Calls Tryz.prog 92 #[.string s] w fun e w'=>e=.returned (.int .i64 (nmDep (L s):Int))∧Below w.heap.size w w':=by
 have hN:=nm_normal_any s w hs
 have HR:Hid (nmDep (L s)=if (Idn.normal (L s)).2 then (Idn.normal (L s)).1.length else 0):=rfl
 generalize nmDep (L s)=r at *
 generalize Idn.normal (L s)=nn at *
 obtain ⟨l,d⟩:=nn
 dsimp only at HR
 cases d
 all_goals
  have HF:=HR.out
  simp only[if_true,if_false,Bool.false_eq_true]at HF
  subst HF
  clear HR
  go_enter Tryz.func92,Tryz.ntmps92
  go_wp2_with fail
  refine hN.mono ?_
  rintro e w1 ⟨v,rfl,hown,hb⟩
  obtain ⟨A,c,hv⟩:=own_shape hown
  subst hv
  clear hN
  go_wp2
  go_ret
  exact ⟨rfl,hb⟩
end Go.Proofs.YtbkkchhimhlhcaaGreatDoor
/- name: last, Under; slices.Equal at components. -/
namespace Go.Proofs.YtbkkchhimhlhcaaGreatDoor
open Go.RowKit Go.Sort
open Idn (L B Bs drop_L take_L size_L)
theorem neqPr_run (W:World) (a b c d:ByteArray):(binOp .neq 156 (.agg #[.string a,.string b]) (.agg #[.string c,.string d])).run Tryz.prog W=.ok (.bool (!((a.toList==c.toList)&&(b.toList==d.toList)))) W:=by
 have hs:=Tryz.underlying9
 have hS:Tryz.prog.underlying 156=some (.struct (Tryz.prog.fieldsOf 156)):=by kernel_rfl
 have hp:Tryz.prog.stoodInHeld 156=false:=by kernel_rfl
 rw[run_neq_struct,show (10000:Nat)=9999+1 from rfl,run_equalIn_agg W 9999 156 _ _ hS hp]
 simp only[Program.fieldsOf,Tryz.underlying156]
 have z9:=Tryz.sizeOf9
 go_simp
 by_cases h1:a.toList=c.toList<;>by_cases h2:b.toList=d.toList<;>simp[h1,h2]
theorem eqP_any (v u : Value) (a b : List Idn.Pr) (r : Bool) (hr : r = true ↔ a = b) (w : World) (hv : PairsV w w.heap.size v a) (hu : PairsV w w.heap.size u b) (ha : a.length ≤ 1000000000) (hb : b.length ≤ 1000000000) :
  Calls Tryz.prog 221 #[v,u] w fun e w'=>e=.returned (.bool r)∧Below w.heap.size w w':=by
 obtain ⟨A,c,rfl,_⟩:=SlV.shape hv
 obtain ⟨A2,c2,rfl,_⟩:=SlV.shape hu
 have hnq:=neqPr_run
 go_enter Tryz.func221,Tryz.ntmps221
 by_cases h0:a.length=b.length
 ·have h0I:((a.length:Int) !=(b.length:Int))=false:=by rw[h0];simp
  have H0:=Lib.hid h0
  have HRR:=Lib.hid hr
  clear h0 hr
  go_wp2_with fail
  go_loopw [13] (fun i wr=>∃(k:Nat),k≤a.length∧i=.int .i64 k∧Below w.heap.size w wr∧Hid (a.take k=b.take k)) (fun i _=>a.length-(intOf i).toNat)
  case atStart=>exact ⟨0,Nat.zero_le _,rfl,Below.refl _ _,rfl⟩
  case round=>
   obtain ⟨k,hk,rfl,hbw,hinv⟩:=hrel
   by_cases hlt:k<a.length
   ·have hlt':k<b.length:=by have:=H0.out;omega
    obtain ⟨b1,o1,hA,hb1,d0,d1⟩:=PairsV.cell (SlV.keep hv hbw) hlt
    obtain ⟨b2,o2,hA2,hb2,e0,e1⟩:=PairsV.cell (SlV.keep hu hbw) hlt'
    subst hA hA2
    have hltI:(k:Int)<(a.length:Int):=by omega
    have hltJ:(k:Int)<(b.length:Int):=by omega
    have ht1:=B_beq a[k].1 b[k].1
    have ht2:=B_beq a[k].2 b[k].2
    have hpe:a[k]=b[k]↔(a[k].1=b[k].1∧a[k].2=b[k].2):=⟨fun h=>by rw[h];exact ⟨rfl,rfl⟩,fun h=>Prod.ext h.1 h.2⟩
    by_cases he:a[k]=b[k]
    ·have HF:=Lib.hid (take_ext hinv.out hlt hlt' he)
     rw[decide_eq_true (hpe.1 he).1]at ht1
     rw[decide_eq_true (hpe.1 he).2]at ht2
     clear hinv he hpe
     generalize B a[k].1=x at *
     generalize B b[k].1=y at *
     generalize B a[k].2=x' at *
     generalize B b[k].2=y' at *
     have hq:∀W,(binOp .neq 156 (.agg #[.string x,.string x']) (.agg #[.string y,.string y'])).run Tryz.prog W=.ok (.bool false) W:=fun W=>by rw[hnq,ht1,ht2];rfl
     clear hnq
     go_wp2
     go_quiet (fail)
     go_wp2
     go_roundw
     case rel=>exact ⟨k+1,by omega,by go_num,hbw.trans ((Go.Proofs.below_drewN _ _).mono hbw.size),HF⟩
     case measure=>simp[intOf];omega
    ·have HF:=Lib.hid (no_true HRR.out (get_ne hlt hlt' he))
     have hq0:(((B a[k].1).toList==(B b[k].1).toList)&&((B a[k].2).toList==(B b[k].2).toList))=false:=by
      rw[ht1,ht2,←Bool.not_eq_true,Bool.and_eq_true,decide_eq_true_eq,decide_eq_true_eq]
      exact fun h=>he (hpe.2 h)
     clear hinv he hpe ht1 ht2
     generalize B a[k].1=x at *
     generalize B b[k].1=y at *
     generalize B a[k].2=x' at *
     generalize B b[k].2=y' at *
     have hq:∀W,(binOp .neq 156 (.agg #[.string x,.string x']) (.agg #[.string y,.string y'])).run Tryz.prog W=.ok (.bool true) W:=fun W=>by rw[hnq,hq0];rfl
     clear hnq hq0
     go_wp2
     go_quiet (fail)
     go_wp2
     go_ret
     exact ⟨ret_bool HF.out.symm,hbw.trans ((Go.Proofs.below_drewN _ _).mono hbw.size)⟩
   ·have hltI:¬(k:Int)<(a.length:Int):=by omega
    have hltJ:¬(k:Int)<(b.length:Int):=by have:=H0.out;omega
    have HF:Hid (r=true):=HRR.out.2 (by
     have h1:=hinv.out
     have h2:=H0.out
     rwa[List.take_of_length_le (by omega),List.take_of_length_le (by omega)]at h1)
    clear hinv
    go_wp2
    go_ret
    exact ⟨ret_bool HF.out.symm,hbw⟩
 ·have h0I:((a.length:Int) !=(b.length:Int))=true:=by rw[bne_iff_ne];omega
  have HF:=Lib.hid (no_true hr fun h=>h0 (by rw[h]))
  go_wp2_with fail
  go_ret
  exact ⟨ret_bool HF.out.symm,Below.refl _ _⟩
theorem nm_last_any (v u : Value) (l m : List Idn.Pr) (w : World) (hv : PairsV w w.heap.size v l) (hu : PairsV w w.heap.size u m) (hl : l.length ≤ 1000) (hm : m.length ≤ 1000) :
  Calls Tryz.prog 164 #[v,u] w fun e w'=>e=.returned (.bool (lastP l m))∧Below w.heap.size w w':=by
 obtain ⟨A,c,rfl,_⟩:=SlV.shape hv
 obtain ⟨A2,c2,rfl,_⟩:=SlV.shape hu
 by_cases h0:m.length≤l.length
 ·obtain ⟨A',c',hrun,hP⟩:=dropP_run hv (j:=l.length-m.length) (by omega)
  have hE:=eqP_any _ _ _ m (lastP l m) (by unfold lastP;rw[decide_eq_true_eq];exact ⟨fun h=>h.2,fun h=>⟨h0,h⟩⟩) w hP hu (by rw[List.length_drop];omega) (by omega)
  have hsb:((l.length-m.length:Nat):Int)=(l.length:Int)-(m.length:Int):=by omega
  rw[hsb]at hrun
  have hw:wrap64 ((l.length:Int)-(m.length:Int))=(l.length:Int)-(m.length:Int):=by unfold wrap64;omega
  have hge:(0:Int)≤(l.length:Int)-(m.length:Int):=by omega
  rw[show l.length-(l.length-m.length)=m.length by omega]at hrun hE
  generalize lastP l m=r at *
  clear hP hv hu
  go_enter Tryz.func164,Tryz.ntmps164
  go_upto_region 2 with fail
  generalize (l.length:Int)-(m.length:Int)=dd at *
  go_wp2_with (go_at_call 221;refine hE.mono ?_;rintro e w1 ⟨rfl,hb1⟩)
  go_ret
  exact ⟨rfl,hb1⟩
 ·have hF : lastP l m = false := by
   unfold lastP
   rw[decide_eq_false_iff_not]
   exact fun h=>h0 h.1
  have hw:wrap64 ((l.length:Int)-(m.length:Int))=(l.length:Int)-(m.length:Int):=by unfold wrap64;omega
  have hge:¬(0:Int)≤(l.length:Int)-(m.length:Int):=by omega
  rw[hF]
  clear hv hu
  go_enter Tryz.func164,Tryz.ntmps164
  go_upto_region 2 with fail
  generalize (l.length:Int)-(m.length:Int)=dd at *
  go_wp2
  go_ret
  exact ⟨rfl,Below.refl _ _⟩
theorem nm_under_any (s b : ByteArray) (w : World) (hs : s.size ≤ 1000000000) (hb : b.size ≤ 1000000000) :
  Calls Tryz.prog 86 #[.string s,.string b] w fun e w'=>e=.returned (.bool (nmUnd (L s) (L b)))∧Below w.heap.size w w':=by
 have h1:=nm_normal_any s w hs
 have h2:=fun W=>nm_normal_any b W hb
 have hls:=normal_sm (L s)
 have hlb:=normal_sm (L b)
 have HR:Hid (nmUnd (L s) (L b)=((Idn.normal (L s)).2&&((Idn.normal (L b)).2&&lastP (Idn.normal (L s)).1 (Idn.normal (L b)).1))):=rfl
 generalize nmUnd (L s) (L b)=r at *
 generalize Idn.normal (L s)=nn at *
 generalize Idn.normal (L b)=mm at *
 obtain ⟨l,d⟩:=nn
 obtain ⟨m,k⟩:=mm
 dsimp only at HR hls hlb
 go_enter Tryz.func86,Tryz.ntmps86
 go_wp2_with fail
 refine h1.mono ?_
 rintro e w1 ⟨v1,rfl,ho1,hb1⟩
 obtain ⟨A1,c1,hsh⟩:=own_shape ho1
 subst hsh
 clear h1
 dsimp only at *
 go_wp2_with fail
 refine (h2 w1).mono ?_
 rintro e w2 ⟨v2,rfl,ho2,hb2⟩
 obtain ⟨A2,c2,hsh⟩:=own_shape ho2
 subst hsh
 have hP1:=PairsV.of_own (own_below ho1 hb2)
 have hP2:=PairsV.of_own ho2
 have hbw:=hb1.trans (hb2.mono hb1.size)
 clear h2 ho1 ho2 hb1 hb2
 dsimp only at *
 have hE:=nm_last_any _ _ l m w2 hP1 hP2 (by omega) (by omega)
 clear hP1 hP2
 generalize lastP l m=q at *
 cases d
 ·go_wp2
  go_ret
  exact ⟨by rw[HR.out];rfl,hbw⟩
 cases k
 ·go_wp2
  go_ret
  exact ⟨by rw[HR.out];rfl,hbw⟩
 go_wp2_with (go_at_call 164;refine hE.mono ?_;rintro e w3 ⟨rfl,hb3⟩)
 go_ret
 exact ⟨by rw[HR.out];rfl,hbw.trans (hb3.mono hbw.size)⟩
end Go.Proofs.YtbkkchhimhlhcaaGreatDoor
/- The program's tree: made, has, parented, Add, copied, Get, Delete of a name that no entry bears. -/
namespace Go.Proofs.YtbkkchhimhlhcaaGreatDoor
open Go.RowKit Go.Sort
open Idn (L B Bs drop_L take_L size_L)
theorem neq_mapT (o:Option Nat) (w:World):(binOp .neq 137 (.map o) (.map none)).run Tryz.prog w=.ok (.bool o.isSome) w:=by
 rw[run_neq_map_nil w 137 _ _ o Tryz.underlying137]
 cases o<;>rfl
theorem zeroAs (w:World):(zeroValue 46).run Tryz.prog w=.ok (.slice none 0 0) w:=by kernel_rfl
theorem treF_dom {es:List IxE} {g:Bs→Value} {n:Bs}:(treF es g n).isSome=hasE es n:=by
 unfold treF
 cases hasE es n<;>rfl
theorem valid_len {s:Bs} (h:validN s=true):s.length≤5000:=by
 unfold validN at h
 rw[Bool.and_eq_true,beq_iff_eq,beq_iff_eq]at h
 have:=cleanN_len s
 rw[h.2]at this
 exact this
theorem par_valid {s:Bs} (h:(nmPar s).2=true):validN (nmPar s).1=true:=by
 have hv:validN s=true:=by
  rw[←normal_valid]
  unfold nmPar at h
  cases e:(Idn.normal s).2 with
  |true=>rfl
  |false=>rw[e]at h;cases h
 exact (par_law s hv h).1
section
variable {w w':World} {hs lo pt:Nat} {es es':List IxE} {mb:Nat} {g g':Bs→Value}
theorem TrV.allMap (h:TrV w hs lo pt es mb g):AllMap w (·=mb):=fun k hk=>by
 have e:k=mb:=hk
 rw[e];exact h.mapb
theorem TrV.turn (h:TrV w hs lo pt es mb g) (hm:MapF w' mb (treF es' g')) (hv:Mv (·=mb) w w') (ha:∀e∈es',∃ps,AttOwn w' lo (g' e.1) ps∧ps.map (·.1)=e.2):TrV w' hs lo pt es' mb g' where
 c0:=hv.cell h.allMap h.c0
 ent:=hm
 att:=ha
 hsz:=Nat.le_trans h.hsz hv.size
 hsp:=h.hsp
 hsm:=h.hsm
 loz:=Nat.le_trans h.loz hv.size
theorem trMade_any (c0:w.cell? ⟨pt,0,none⟩=some (.map (some mb))):Calls Tryz.prog 94 #[.pointer (some ⟨pt,0,none⟩)] w fun e w'=>e=.returned (.bool true)∧w=w':=by
 have hq:=neq_mapT (some mb) w
 go_enter Tryz.func94,Tryz.ntmps94
 go_wp2
 go_ret
 exact ⟨rfl,rfl⟩
theorem trHas_any (h : TrV w hs lo pt es mb g) (n : Bs) (hn : n.length ≤ 1000000000) :
  Calls Tryz.prog 93 #[.pointer (some ⟨pt,0,none⟩),.string (B n)] w fun e w'=>e=.returned (.bool (hasE es n))∧w=w':=by
 have c0:=h.c0
 have hent:=h.ent
 rw[←treF_dom (g:=g)]
 generalize treF es g=f at *
 clear h
 go_enter Tryz.func93,Tryz.ntmps93
 go_wp2_with (at_lookup;refine wpList_lookF w rfl _ _ 137 rfl Tryz.underlying137 (zeroAs w) rfl hent n rfl (by unfold maxLen;omega) ?_)
 go_ret
 exact ⟨rfl,rfl⟩
theorem trPar_any (h : TrV w hs lo pt es mb g) (n : Bs) (hn : n.length ≤ 1000000) :
    Calls Tryz.prog 95 #[.pointer (some ⟨pt,0,none⟩),.string (B n)] w fun e w'=>e=.returned (.bool (trPar es n))∧Below w.heap.size w w':=by
 have hP:=nm_parent_any (B n) w (by rw[Idn.size_B];omega)
 rw[Idn.L_B]at hP
 have hpl:(nmPar n).2=true→(nmPar n).1.length≤5000:=fun h=>valid_len (par_valid h)
 have hH:=fun W (hW:Below w.heap.size w W) hl=>trHas_any (h.keep hW) (nmPar n).1 hl
 have HR:Hid (trPar es n=((nmPar n).2&&hasE es (nmPar n).1)):=rfl
 generalize trPar es n=r at *
 generalize nmPar n=pp at *
 obtain ⟨p,d⟩:=pp
 dsimp only at hP hpl hH HR
 cases d with
 |false=>
  go_enter Tryz.func95,Tryz.ntmps95
  go_wp2_with (go_at_call 85;refine hP.mono ?_;rintro e w1 ⟨rfl,hb⟩)
  go_ret
  exact ⟨by rw[HR.out];rfl,hb⟩
 |true=>
  have hl:=hpl rfl
  go_enter Tryz.func95,Tryz.ntmps95
  go_wp2_with (first
   |(go_at_call 85;refine hP.mono ?_;rintro e w1 ⟨rfl,hb⟩)
   |(go_at_call 93;refine (hH _ hb (by omega)).mono ?_;rintro e w2 ⟨rfl,rfl⟩))
  go_ret
  exact ⟨by rw[HR.out];rfl,hb⟩
theorem trCopied_any (h : TrV w hs lo pt es mb g) (hG : GdT es) {n : Bs} {A : List Idn.Att} (hA : (n, A) ∈ es) :
    Calls Tryz.prog 108 #[.pointer (some ⟨pt,0,none⟩),.string (B n)] w fun e w'=>∃k c ps,e=.returned (.agg #[.string (B n),.slice k A.length c])∧AttOwn w' w.heap.size (.slice k A.length c) ps∧ps.map (·.1)=A∧Below w.heap.size w w':=by
 have hn:=hG.nam _ hA
 have hat:=h.entry hA
 have hsm:=hG.sm hA
 have hsr:=hG.srt hA
 dsimp only at hn hsm hsr
 have hr:(treF es g n).getD (.slice none 0 0)=g n:=by rw[treF_mem hA];rfl
 obtain ⟨Ag,cg,hgn,_⟩:=SlV.shape hat
 rw[hgn]at hat hr
 have c0:=h.c0
 have hent:=h.ent
 go_enter Tryz.func108,Tryz.ntmps108
 go_upto_region 1 with fail
 with_reducible refine gen1 (R:=fun W=>Code.wp Tryz.prog _ _ _ W) ?_
 intro W hbW hszW hc hfz
 have z0:W.cell? ⟨w.heap.size,0,none⟩=some (.string ⟨#[]⟩):=hc 0 _ rfl
 have z1:W.cell? ⟨w.heap.size,1,none⟩=some (.slice none 0 0):=hc 1 _ rfl
 have g0:=hfz 0
 have g1:=hfz 1
 replace c0:=cell_later hbW c0
 have hentW:=hent.keep hbW
 have hS:=sortedG_any _ A W (AttsV.mono (AttsV.keep hat hbW) hbW.size) hsm
 have hzW:w.heap.size<W.heap.size:=by omega
 rw[hsr]at hS
 clear hc hfz hszW hgn hent
 go_wp2_with (first
  |(at_lookup;refine wpList_look1F W rfl _ _ 137 rfl Tryz.underlying137 (zeroAs W) rfl hentW n rfl (by unfold maxLen;omega) ?_;rw[hr])
  |(go_at_call 61;refine hS.mono ?_;rintro e w1 ⟨v,ps,rfl,hao,hps,hb1⟩;obtain ⟨k1,cc1,hsh,_⟩:=SlV.shape (hao.atts hps);subst hsh;replace z0:=cell_later hb1 z0;replace z1:=cell_later hb1 z1;replace g0:=(hb1.frozen (p:=⟨w.heap.size,0,none⟩) hzW).trans g0;replace g1:=(hb1.frozen (p:=⟨w.heap.size,1,none⟩) hzW).trans g1))
 have hbw:=hbW.trans (hb1.mono hbW.size)
 exact bodyPost_ret (v:=.agg #[.string (B n),.slice k1 A.length cc1]) (by simp[results,Tryz.results108,go_sem,z0,z1,g0,g1]) rfl ⟨k1,cc1,ps,rfl,((hao.setB (a:=⟨w.heap.size,0,none⟩) hzW _).setB (a:=⟨w.heap.size,1,none⟩) hzW _).lower hbW.size,hps,(hbw.setCell (p:=⟨w.heap.size,0,none⟩) (Nat.le_refl _) _).setCell (p:=⟨w.heap.size,1,none⟩) (Nat.le_refl _) _⟩
theorem trGet_any (h : TrV w hs lo pt es mb g) (hG : GdT es) (n : Bs) (hn : n.length ≤ 1000000) :
    Calls Tryz.prog 173 #[.pointer (some ⟨pt,0,none⟩),.string (B n)] w fun e w'=>∃s k l c,e=.returned (.tuple #[.agg #[.string s,.slice k l c],.bool (hasE es n)])∧Below w.heap.size w w':=by
 have c0:=h.c0
 have hM:=fun W (hW:Below w.heap.size w W)=>trMade_any (cell_later hW c0)
 have hH:=fun W (hW:Below w.heap.size w W)=>trHas_any (h.keep hW) n (by omega)
 have hC:=fun A (hA:(n,A)∈es) W (hW:Below w.heap.size w W)=>trCopied_any (h.keep hW) hG hA
 cases hh:hasE es n with
 |false=>
  rw[hh]at hH
  go_enter Tryz.func173,Tryz.ntmps173
  go_upto_region 1 with fail
  with_reducible refine gen1 (R:=fun W=>Code.wp Tryz.prog _ _ _ W) ?_
  intro W hbW hszW hc hfz
  have z0:W.cell? ⟨w.heap.size,0,none⟩=some (.string ⟨#[]⟩):=hc 0 _ rfl
  have z1:W.cell? ⟨w.heap.size,1,none⟩=some (.slice none 0 0):=hc 1 _ rfl
  have g0:=hfz 0
  have g1:=hfz 1
  clear hc hfz hszW
  go_wp2_with (first
   |(go_at_call 94;refine (hM _ hbW).mono ?_;rintro e w1 ⟨rfl,rfl⟩)
   |(go_at_call 93;refine (hH _ hbW).mono ?_;rintro e w2 ⟨rfl,rfl⟩))
  exact bodyPost_ret (v:=.tuple #[.agg #[.string ⟨#[]⟩,.slice none 0 0],.bool false]) (by simp[results,Tryz.results173,go_sem,z0,z1,g0,g1]) rfl ⟨_,_,_,_,rfl,(hbW.setCell (p:=⟨w.heap.size,0,none⟩) (Nat.le_refl _) _).setCell (p:=⟨w.heap.size,1,none⟩) (Nat.le_refl _) _⟩
 |true=>
  obtain ⟨A,hA⟩:=hasE_iff.1 hh
  rw[hh]at hH
  replace hC:=hC A hA
  go_enter Tryz.func173,Tryz.ntmps173
  go_upto_region 1 with fail
  with_reducible refine gen1 (R:=fun W=>Code.wp Tryz.prog _ _ _ W) ?_
  intro W hbW hszW hc hfz
  have z0:W.cell? ⟨w.heap.size,0,none⟩=some (.string ⟨#[]⟩):=hc 0 _ rfl
  have z1:W.cell? ⟨w.heap.size,1,none⟩=some (.slice none 0 0):=hc 1 _ rfl
  have g0:=hfz 0
  have g1:=hfz 1
  have hzW:w.heap.size<W.heap.size:=by omega
  clear hc hfz hszW
  go_wp2_with (first
   |(go_at_call 94;refine (hM _ hbW).mono ?_;rintro e w1 ⟨rfl,rfl⟩)
   |(go_at_call 93;refine (hH _ hbW).mono ?_;rintro e w2 ⟨rfl,rfl⟩)
   |(go_at_call 108;refine (hC _ hbW).mono ?_;rintro e w3 ⟨k3,c3,ps,rfl,_,_,hb3⟩;replace z0:=cell_later hb3 z0;replace z1:=cell_later hb3 z1;replace g0:=(hb3.frozen (p:=⟨w.heap.size,0,none⟩) hzW).trans g0;replace g1:=(hb3.frozen (p:=⟨w.heap.size,1,none⟩) hzW).trans g1))
  have hbw:=hbW.trans (hb3.mono hbW.size)
  exact bodyPost_ret (v:=.tuple #[.agg #[.string (B n),.slice k3 A.length c3],.bool true]) (by simp[results,Tryz.results173,go_sem,z0,z1,g0,g1]) rfl ⟨_,_,_,_,rfl,(hbw.setCell (p:=⟨w.heap.size,0,none⟩) (Nat.le_refl _) _).setCell (p:=⟨w.heap.size,1,none⟩) (Nat.le_refl _) _⟩
theorem bang_no (hG:GdT es):hasE es [33]=false:=by
 cases hh:hasE es [33]with
 |false=>rfl
 |true=>
  obtain ⟨A,hA⟩:=hasE_iff.1 hh
  have:=hG.ok.val _ hA
  rw[show validN ([33]:Bs)=false from by kernel_rfl]at this
  cases this
theorem trDelB_any (h : TrV w hs lo pt es mb g) (hG : GdT es) :
    Calls Tryz.prog 172 #[.pointer (some ⟨pt,0,none⟩),.string ⟨#[33]⟩] w fun e w'=>e=.returned (.int .i64 6)∧w=w':=by
 have hM:=trMade_any h.c0
 have hH:=trHas_any h [33] (by decide)
 rw[bang_no hG]at hH
 have hH':Calls Tryz.prog 93 #[.pointer (some ⟨pt,0,none⟩),.string ⟨#[33]⟩] w fun e w'=>e=.returned (.bool false)∧w=w':=hH
 clear hH
 go_enter Tryz.func172,Tryz.ntmps172
 go_wp2_with (first
  |(go_at_call 94;refine hM.mono ?_;rintro e w1 ⟨rfl,rfl⟩)
  |(go_at_call 93;refine hH'.mono ?_;rintro e w2 ⟨rfl,rfl⟩))
 go_ret
 exact ⟨rfl,rfl⟩
end
end Go.Proofs.YtbkkchhimhlhcaaGreatDoor
/- The program's tree: Add. -/
namespace Go.Proofs.YtbkkchhimhlhcaaGreatDoor
open Go.RowKit Go.Sort
open Idn (L B Bs drop_L take_L size_L)
section
variable {w w':World} {hs lo pt:Nat} {es es':List IxE} {mb:Nat} {g g':Bs→Value}
theorem trAdd_any (h : TrV w hs lo pt es mb g) (hG : GdT es) (n : Bs) (hn : n.length ≤ 1000000) (av : Value) (A : List Idn.Att) (hatv : AttsV w w.heap.size av A) (hA7 : Idn.ASm7 A) :
    Calls Tryz.prog 30 #[.pointer (some ⟨pt,0,none⟩),.agg #[.string (B n),av]] w fun e w'=>e=.returned (.int .i64 (trAdd es n A).1)∧∃g',TrV w' hs lo pt (trAdd es n A).2 mb g'∧Mv (·=mb) w w':=by
 have hnm:n.length≤1000000000:=by omega
 obtain ⟨Ag,cg,rfl,_⟩:=SlV.shape hatv
 have hR:trAdd es n A=if n.isEmpty||!validN n then (5,es)else if hasE es n then (7,es)else if !trPar es n then (6,es)else if 256≤es.length then (3,es)else (0,insE n (Idn.rSorted A) es):=rfl
 have HR:=Lib.hid hR
 clear hR
 have hkeep:∀W',Below w.heap.size w W'→∃g',TrV W' hs lo pt es mb g'∧Mv (·=mb) w W':=fun W' hW=>⟨g,h.keep hW,Mv.of_below hW _⟩
 have hVn:=fun W=>nm_valid_any (B n) W (by rw[Idn.size_B];omega)
 have hHn:=fun W (hW:Below w.heap.size w W)=>trHas_any (h.keep hW) n hnm
 have hPn:=fun W (hW:Below w.heap.size w W)=>trPar_any (h.keep hW) n hn
 simp only[Idn.L_B]at hVn
 have c0:=h.c0
 go_enter Tryz.func30,Tryz.ntmps30
 go_upto_region 1 with fail
 with_reducible refine gen1 (R:=fun W=>Code.wp Tryz.prog _ _ _ W) ?_
 intro W hb hszW hc _
 have q0:W.cell? ⟨w.heap.size,0,none⟩=some (.string (B n)):=hc 0 _ rfl
 have q1:W.cell? ⟨w.heap.size,1,none⟩=some (.slice Ag A.length cg):=hc 1 _ rfl
 replace c0:=cell_later hb c0
 clear hc hszW
 go_upto_region 3 with (go_at_call 94;refine (trMade_any c0).mono ?_;rintro e w0 ⟨rfl,rfl⟩)
 by_cases h0:n=[]
 ·have hbe:(B n).toList.isEmpty=true:=by rw[toList_L,Idn.L_B,h0];rfl
  have HF:Hid (trAdd es n A=(5,es)):=by show _=_;rw[HR.out,h0];rfl
  clear h0 HR hVn hHn hPn
  go_wp2
  go_ret
  rw[HF.out]
  exact ⟨rfl,hkeep _ hb⟩
 have hbe:(B n).toList.isEmpty=false:=by rw[toList_L,Idn.L_B];cases n<;>simp_all
 have hie:n.isEmpty=false:=by cases n<;>simp_all
 cases hvn:validN n with
 |false=>
  have HF:Hid (trAdd es n A=(5,es)):=by show _=_;rw[HR.out,hie,hvn];rfl
  rw[hvn]at hVn
  clear h0 HR hvn hie hHn hPn
  go_wp2_with (go_at_call 58;refine (hVn _).mono ?_;rintro e w1 ⟨rfl,hb1⟩)
  go_ret
  rw[HF.out]
  exact ⟨rfl,hkeep _ (hb.trans (hb1.mono hb.size))⟩
 |true=>
 rw[hvn]at hVn
 have HR2:Hid (trAdd es n A=if hasE es n then (7,es)else if !trPar es n then (6,es)else if 256≤es.length then (3,es)else (0,insE n (Idn.rSorted A) es)):=by show _=_;rw[HR.out,hie,hvn];rfl
 clear HR h0 hie
 go_upto_region 5 with (go_at_call 58;refine (hVn _).mono ?_;rintro e w1 ⟨rfl,hb1⟩)
 have hbw1:=hb.trans (hb1.mono hb.size)
 replace q0:=cell_later hb1 q0
 replace q1:=cell_later hb1 q1
 replace c0:=cell_later hb1 c0
 have hHn1:=hHn w1 hbw1
 have hPn1:=hPn w1 hbw1
 clear hb hb1 hVn hHn hPn hbe
 cases hh:hasE es n with
 |true=>
  have HF:Hid (trAdd es n A=(7,es)):=by show _=_;rw[HR2.out,hh];rfl
  rw[hh]at hHn1
  clear HR2 hPn1
  go_wp2_with (go_at_call 93;refine hHn1.mono ?_;rintro e w2 ⟨rfl,rfl⟩)
  go_ret
  rw[HF.out]
  exact ⟨rfl,hkeep _ hbw1⟩
 |false=>
 rw[hh]at hHn1
 have HR3:Hid (trAdd es n A=if !trPar es n then (6,es)else if 256≤es.length then (3,es)else (0,insE n (Idn.rSorted A) es)):=by show _=_;rw[HR2.out,hh];rfl
 clear HR2
 go_upto_region 7 with (go_at_call 93;refine hHn1.mono ?_;rintro e w2 ⟨rfl,rfl⟩)
 cases hpp:trPar es n with
 |false=>
  have HF:Hid (trAdd es n A=(6,es)):=by show _=_;rw[HR3.out,hpp];rfl
  rw[hpp]at hPn1
  clear HR3 hHn1
  go_wp2_with (go_at_call 95;refine hPn1.mono ?_;rintro e w2 ⟨rfl,hb2⟩)
  go_ret
  rw[HF.out]
  exact ⟨rfl,hkeep _ (hbw1.trans (hb2.mono hbw1.size))⟩
 |true=>
 rw[hpp]at hPn1
 have HR4:Hid (trAdd es n A=if 256≤es.length then (3,es)else (0,insE n (Idn.rSorted A) es)):=by show _=_;rw[HR3.out,hpp];rfl
 clear HR3 hHn1
 go_upto_region 9 with (go_at_call 95;refine hPn1.mono ?_;rintro e w2 ⟨rfl,hb2⟩)
 have hbw2:=hbw1.trans (hb2.mono hbw1.size)
 replace q0:=cell_later hb2 q0
 replace q1:=cell_later hb2 q1
 replace c0:=cell_later hb2 c0
 have h2:=h.keep hbw2
 have hm2:=h2.ent
 have hlen:∀ks:List Bs,ks.Nodup→(∀x,x∈ks↔treF es g x≠none)→ks.length=es.length:=fun ks h1 h3=>len_names hG.ok h1 fun x=>by rw[h3,treF_some,mem_names]
 clear hPn1 hb2 hbw1
 by_cases hfl:256≤es.length
 ·have HF:Hid (trAdd es n A=(3,es)):=by show _=_;rw[HR4.out,if_pos hfl]
  have hflI:(256:Int)≤(es.length:Int):=by omega
  clear HR4
  go_wp2_with (at_len;refine wpList_lenF _ rfl _ 137 rfl Tryz.underlying137 rfl hm2 ?_;intro ks hnd hks;rw[hlen ks hnd hks])
  go_ret
  rw[HF.out]
  exact ⟨rfl,hkeep _ hbw2⟩
 have HF:Hid (trAdd es n A=(0,insE n (Idn.rSorted A) es)):=by show _=_;rw[HR4.out,if_neg hfl]
 have hflI:¬(256:Int)≤(es.length:Int):=by omega
 clear HR4
 go_upto_region 11 with (at_len;refine wpList_lenF _ rfl _ 137 rfl Tryz.underlying137 rfl hm2 ?_;intro ks hnd hks;rw[hlen ks hnd hks])
 have k0:w2.drew.cell? ⟨w.heap.size,0,none⟩=some (.string (B n)):=q0
 have k1:w2.drew.cell? ⟨w.heap.size,1,none⟩=some (.slice Ag A.length cg):=q1
 have kc:w2.drew.cell? ⟨pt,0,none⟩=some (.map (some mb)):=c0
 have hd:=h2.keep (Below.refl _ w2).drew
 have hbd:Below w.heap.size w w2.drew:=hbw2.drew
 have hatd:AttsV w2.drew w2.drew.heap.size (.slice Ag A.length cg) A:=AttsV.mono (AttsV.keep hatv hbd) hbd.size
 have hall:=hd.allMap
 clear q0 q1 c0 hm2 h2
 refine wp_region_held_drew (S:=fun W'=>Mv (·=mb) w2.drew W') (by kernel_rfl) (Mv.refl _ _) (fun hHeld=>?_)
 refine wpAnyH_take (i:=0) (oi:=⟨_,_,_,_,_,_⟩) (v:=?x1v) rfl (by kernel_rfl) (by kernel_rfl) (by kernel_rfl) (fun _ _ _ h=>h) (Or.inl ⟨by rfl,?x1h⟩) (by assumption) ?x1r
 rotate_left 1
 ·(intro w hSw;(try dsimp only at hSw);go_simp;(try with_reducible rfl))
 try simp only[Act.put,List.setIfInBounds_toArray,List.set_cons_zero,List.set_cons_succ]
 refine wpAnyH_take (i:=1) (oi:=⟨_,_,_,_,_,_⟩) (v:=?x2v) rfl (by kernel_rfl) (by kernel_rfl) (by kernel_rfl) (fun _ _ _ h=>h) (Or.inl ⟨by rfl,?x2h⟩) (by assumption) ?x2r
 rotate_left 1
 ·(intro w hSw;(try dsimp only at hSw);go_simp;(try with_reducible rfl))
 try simp only[Act.put,List.setIfInBounds_toArray,List.set_cons_zero,List.set_cons_succ]
 refine wpAnyH_take (i:=2) (oi:=⟨_,_,_,_,_,_⟩) (v:=?x3v) rfl (by kernel_rfl) (by kernel_rfl) (by kernel_rfl) (fun _ _ _ h=>h) (Or.inl ⟨by rfl,?x3h⟩) (by assumption) ?x3r
 rotate_left 1
 ·(intro w hSw;(try dsimp only at hSw);go_simp;(try with_reducible rfl))
 try simp only[Act.put,List.setIfInBounds_toArray,List.set_cons_zero,List.set_cons_succ]
 refine wpAnyH_take (i:=3) (oi:=⟨_,_,_,_,_,_⟩) (v:=?x4v) rfl (by kernel_rfl) (by kernel_rfl) (by kernel_rfl) (fun _ _ _ h=>h) (Or.inl ⟨by rfl,?x4h⟩) (by assumption) ?x4r
 rotate_left 1
 ·(intro w hSw;(try dsimp only at hSw);have f3:=hSw.cell hall kc;go_simp;(try with_reducible rfl))
 try simp only[Act.put,List.setIfInBounds_toArray,List.set_cons_zero,List.set_cons_succ]
 refine wpAnyH_take (i:=4) (oi:=⟨_,_,_,_,_,_⟩) (v:=?x5v) rfl (by kernel_rfl) (by kernel_rfl) (by kernel_rfl) (fun _ _ _ h=>h) (Or.inl ⟨by rfl,?x5h⟩) (by assumption) ?x5r
 rotate_left 1
 ·(intro w hSw;(try dsimp only at hSw);go_simp;(try with_reducible rfl))
 try simp only[Act.put,List.setIfInBounds_toArray,List.set_cons_zero,List.set_cons_succ]
 refine wpAnyH_take (i:=5) (oi:=⟨_,_,_,_,_,_⟩) (v:=?x6v) rfl (by kernel_rfl) (by kernel_rfl) (by kernel_rfl) (fun _ _ _ h=>h) (Or.inl ⟨by rfl,?x6h⟩) (by assumption) ?x6r
 rotate_left 1
 ·(intro w hSw;(try dsimp only at hSw);have f5:=hSw.cell hall k0;go_simp;(try with_reducible rfl))
 try simp only[Act.put,List.setIfInBounds_toArray,List.set_cons_zero,List.set_cons_succ]
 refine wpAnyH_take (i:=6) (oi:=⟨_,_,_,_,_,_⟩) (v:=?x7v) rfl (by kernel_rfl) (by kernel_rfl) (by kernel_rfl) (fun _ _ _ h=>h) (Or.inl ⟨by rfl,?x7h⟩) (by assumption) ?x7r
 rotate_left 1
 ·(intro w hSw;(try dsimp only at hSw);go_simp;(try with_reducible rfl))
 try simp only[Act.put,List.setIfInBounds_toArray,List.set_cons_zero,List.set_cons_succ]
 refine wpAnyH_take (i:=7) (oi:=⟨_,_,_,_,_,_⟩) (v:=?x8v) rfl (by kernel_rfl) (by kernel_rfl) (by kernel_rfl) (fun _ _ _ h=>h) (Or.inl ⟨by rfl,?x8h⟩) (by assumption) ?x8r
 rotate_left 1
 ·(intro w hSw;(try dsimp only at hSw);have f7:=hSw.cell hall k1;go_simp;(try with_reducible rfl))
 try simp only[Act.put,List.setIfInBounds_toArray,List.set_cons_zero,List.set_cons_succ]
 have hSo:=sortedG_any _ A w2.drew hatd hA7
 refine wpAnyH_ready (rs:=[8]) (by kernel_rfl) (by simp) ?_
 refine AllReadyH.cons (o:=⟨_,_,_,_,_,_⟩) rfl (fun K hK=>?_) AllReadyH.nil
 go_simp
 go_at_call 61
 refine hSo.mono ?_
 rintro e w5 ⟨v5,ps,rfl,hao,hps,hb5⟩
 obtain ⟨A5,c5,hsh,_⟩:=SlV.shape (hao.atts hps)
 subst hsh
 try go_wp2_with fail
 refine hK.out _ _ ?_ (fun hHeld=>?_)
 ·exact Mv.of_below hb5 _
 clear hK K hSo
 try simp only[Act.put,List.setIfInBounds_toArray,List.set_cons_zero,List.set_cons_succ]
 have h5:=hd.keep hb5
 obtain ⟨w9,hrun,hm9,hv9,hs9⟩:=h5.ent.run_put Tryz.underlying137 (l:=namesE es) (fun y hy=>treF_some.1 hy) (by have:=hG.len;unfold namesE;rw[List.length_map];omega) (k:=n) (by unfold maxLen;omega) (.slice A5 (Idn.rSorted A).length c5)
 refine wpAnyH_ready (rs:=[9]) (by kernel_rfl) (by simp) ?_
 refine AllReadyH.cons (o:=⟨_,_,_,_,_,_⟩) rfl (fun K hK=>?_) AllReadyH.nil
 go_simp
 refine hK.out _ _ ?_ (fun hHeld=>?_)
 ·exact (Mv.of_below hb5 _).trans hv9 fun j hj=>.inl hj
 clear hK K
 try simp only[Act.put,List.setIfInBounds_toArray,List.set_cons_zero,List.set_cons_succ]
 refine wpAnyH_done (by kernel_rfl) ?_ _
 rw[treF_put hG.ok hvn (Idn.rSorted A) _]at hm9
 have hfin:TrV w9 hs lo pt (insE n (Idn.rSorted A) es) mb fun y=>if y=n then .slice A5 (Idn.rSorted A).length c5 else g y:=by
  refine h5.turn hm9 hv9 fun e he=>?_
  rcases (insE_mem hvn hG.ok e).1 he with rfl|⟨h1,hne⟩
  ·refine ⟨ps,?_,hps⟩
   simp only[if_true]
   exact (hao.mv hv9 fun k hk=>.inr (h5.allMap k hk)).lower hd.loz
  ·obtain ⟨qs,h3,h4⟩:=h5.att e h1
   refine ⟨qs,?_,h4⟩
   simp only[if_neg hne]
   exact h3.mv hv9 fun k hk=>.inr (h5.allMap k hk)
 have hmv:Mv (·=mb) w w9:=(Mv.of_below hbd _).trans ((Mv.of_below hb5 _).trans hv9 fun j hj=>.inl hj) fun j hj=>.inl hj
 have HX:Hid (∃g',TrV w9 hs lo pt (insE n (Idn.rSorted A) es) mb g'∧Mv (·=mb) w w9):=⟨_,hfin,hmv⟩
 clear hfin hmv h5 hd hao hHeld hm9 hv9 hrun
 go_wp2
 go_ret
 rw[HF.out]
 exact ⟨rfl,HX.out⟩
end
end Go.Proofs.YtbkkchhimhlhcaaGreatDoor
/- The program's tree: New. -/
namespace Go.Proofs.YtbkkchhimhlhcaaGreatDoor
open Go.RowKit Go.Sort
open Idn (L B Bs drop_L take_L size_L)
def noG:Bs→Value:=fun _=>.slice none 0 0
theorem treF_nil:treF [] noG=fun _=>none:=by funext n;rfl
theorem treF_put0 {es:List IxE} (h:OkE es) {s:Bs} (hs:validN s=true):(fun y=>if y=s then some (.slice none 0 0)else treF es noG y)=treF (insE s [] es) noG:=by
 rw[treF_put h hs [] _]
 congr 1
 funext y
 unfold noG
 split<;>rfl
def RetTN (w:World) (roots:List Bs) (e:Ending) (w':World):Prop:=
 Below w.heap.size w w'∧(((trNew roots).1=0∧∃pt mb,e=.returned (.tuple #[.pointer (some ⟨pt,0,none⟩),.int .i64 0])∧∀lo,lo≤w'.heap.size→TrV w' w.heap.size lo pt (trNew roots).2 mb noG)∨((trNew roots).1≠0∧e=.returned (.tuple #[.pointer none,.int .i64 (trNew roots).1])))
section
variable {w w':World} {pt:Nat} {es:List IxE} {mb:Nat}
structure TrR (w:World) (hs pt:Nat) (es:List IxE) (mb:Nat):Prop where
 c0:w.cell? ⟨pt,0,none⟩=some (.map (some mb))
 ent:MapF w mb (treF es noG)
 nil:∀e∈es,e.2=[]
 ok:OkE es
 hsp:hs≤pt
 hsm:hs≤mb
 hsz:hs≤w.heap.size
theorem TrR.tree {hs:Nat} (h:TrR w hs pt es mb) {lo:Nat} (hl:lo≤w.heap.size):TrV w hs lo pt es mb noG where
 c0:=h.c0
 ent:=h.ent
 att:=fun e he=>⟨[],AttOwn.nil _ _,by rw[h.nil e he];rfl⟩
 hsz:=h.hsz
 hsp:=h.hsp
 hsm:=h.hsm
 loz:=hl
theorem TrR.keep {hs:Nat} (h:TrR w hs pt es mb) (hb:Below w.heap.size w w'):TrR w' hs pt es mb:=
 { h with c0:=cell_later hb h.c0,ent:=h.ent.keep hb,hsz:=Nat.le_trans h.hsz hb.size }
theorem trNew_any (v : Value) (roots : List Bs) (w : World) (hv : StrsV w w.heap.size v roots) (hl : roots.length ≤ 1000000000) (hx : ∀ s ∈ roots, s.length ≤ 1000000000) :
    Calls Tryz.prog 29 #[v] w (RetTN w roots):=by
 obtain ⟨A,c,rfl,_⟩:=SlV.shape hv
 have hR:trNew roots=if roots.length=0 then (6,[])else if 256<roots.length then (3,[])else trRoots roots []:=rfl
 have HR:=Lib.hid hR
 clear hR
 have hno:∀r W,trNew roots=(r,[])→r≠0→Below w.heap.size w W→RetTN w roots (.returned (.tuple #[.pointer none,.int .i64 r])) W:=fun r W h1 h2 hb=>⟨hb,.inr ⟨by rw[h1];exact h2,by rw[h1]⟩⟩
 have HN:=Lib.hid hno
 clear hno
 by_cases h0:roots.length=0
 ·have HF:Hid (trNew roots=(6,[])):=by show _=_;rw[HR.out,if_pos h0]
  have h0I:((roots.length:Int)==0)=true:=by simp[h0]
  have h0':(roots.length:Int)=0:=by omega
  clear HR
  go_enter Tryz.func29,Tryz.ntmps29
  go_wp2
  go_ret2
  exact HN.out 6 w HF.out (by decide) (Below.refl _ _)
 by_cases h1:256<roots.length
 ·have HF:Hid (trNew roots=(3,[])):=by show _=_;rw[HR.out,if_neg h0,if_pos h1]
  have h0I:¬(roots.length:Int)=0:=by omega
  have h1I:(256:Int)<(roots.length:Int):=by omega
  clear HR
  go_enter Tryz.func29,Tryz.ntmps29
  go_wp2
  go_ret2
  exact HN.out 3 w HF.out (by decide) (Below.refl _ _)
 have HR2:Hid (trNew roots=trRoots roots []):=by show _=_;rw[HR.out,if_neg h0,if_neg h1]
 have h0I:¬(roots.length:Int)=0:=by omega
 have h1I:¬(256:Int)<(roots.length:Int):=by omega
 have hmm:=@run_makeMap Tryz.prog
 clear HR h0
 go_enter Tryz.func29,Tryz.ntmps29
 go_upto_region 6 with fail
 with_reducible refine genW (R:=fun W=>Code.wp Tryz.prog _ _ _ W) (Q:=fun W=>TrR W w.heap.size (w.heap.size+1) [] w.heap.size∧Below w.heap.size w W) ?_ ?_
 ·have hb1:Below w.heap.size w (w.alloc (.map #[] 0)):=(Below.refl _ w).alloc (Nat.le_refl _) _
  have hs1:(w.alloc (.map #[] 0)).heap.size=w.heap.size+1:=by simp
  have hb2:∀o,Below (w.alloc (.map #[] 0)).heap.size (w.alloc (.map #[] 0)) ((w.alloc (.map #[] 0)).alloc o):=fun o=>(Below.refl _ _).alloc (Nat.le_refl _) _
  refine ⟨⟨?_,?_,by simp,OkE.nil,by omega,Nat.le_refl _,by simp;omega⟩,hb1.trans ((hb2 _).mono hb1.size)⟩
  ·rw[←hs1,cell_of_row _ _ 0 _ _ (0,0) (heap_alloc_new _ _)];rfl
  ·rw[treF_nil]
   exact (MapF.made w).keep (hb2 _)
 rintro W ⟨hT,hbW⟩
 go_wp2_with fail
 go_loopw [18] (fun i wr=>∃(k:Nat) (es:List IxE),k≤roots.length∧i=.int .i64 k∧TrR wr w.heap.size (w.heap.size+1) es w.heap.size∧Below w.heap.size w wr∧es.length≤k∧Hid (trRoots (roots.drop k) es=trRoots roots [])) (fun i _=>roots.length-(intOf i).toNat)
 case atStart=>exact ⟨0,[],Nat.zero_le _,rfl,hT,hbW,Nat.le_refl _,rfl⟩
 case round=>
  obtain ⟨k,es,hk,rfl,hTr,hb,hel,hinv⟩:=hrel
  clear hT hbW
  by_cases hlt:k<roots.length
  ·have hltI:(k:Int)<(roots.length:Int):=by omega
   obtain ⟨b,off,rfl,hbl,q0⟩:=StrsV.cell (SlV.keep hv hb) hlt
   have hxl:=hx _ (List.getElem_mem hlt)
   have hrd:roots.drop k=roots[k] :: roots.drop (k+1):=List.drop_eq_getElem_cons hlt
   have hinv2:Hid (trNew roots=if !validN roots[k]||decide (nmDep roots[k]≠1)then (5,[])else if hasE es roots[k]then (7,[])else trRoots (roots.drop (k+1)) (insE roots[k] [] es)):=by
    show _=_
    rw[HR2.out,←hinv.out,hrd,trRoots]
   have hVn:=nm_valid_any (B roots[k]) wr (by rw[Idn.size_B];omega)
   have hDn:=fun W=>nm_depth_any (B roots[k]) W (by rw[Idn.size_B];omega)
   have hHn:=fun W (hW:Below wr.heap.size wr W)=>trHas_any ((hTr.keep hW).tree (Nat.zero_le _)) roots[k] hxl
   have hstep:=hinv.out
   rw[hrd]at hstep
   simp only[Idn.L_B]at hVn hDn
   have hinv3:validN roots[k]=true→nmDep roots[k]=1→hasE es roots[k]=false→Hid (trRoots (roots.drop (k+1)) (insE roots[k] [] es)=trRoots roots []):=fun a1 a2 a3=>by
    show _=_
    rw[←hstep,trRoots,a1,a2,a3];rfl
   clear hrd hinv hstep hx
   generalize roots[k]=s at *
   cases hvn:validN s with
   |false=>
    have HF:Hid (trNew roots=(5,[])):=by show _=_;rw[hinv2.out,hvn];rfl
    rw[hvn]at hVn
    clear hinv2 hinv3 hDn hHn
    go_wp2_with (go_at_call 58;refine hVn.mono ?_;rintro e w1 ⟨rfl,hb1⟩)
    go_ret2
    exact HN.out 5 _ HF.out (by decide) (hb.trans (hb1.mono hb.size))
   |true=>
   rw[hvn]at hVn
   by_cases hd1:nmDep s=1
   case neg=>
    have HF:Hid (trNew roots=(5,[])):=by show _=_;rw[hinv2.out,decide_eq_true hd1,Bool.or_true];rfl
    have hdI:¬(nmDep s:Int)=1:=by omega
    clear hinv2 hinv3 hHn hd1
    generalize nmDep s=dd at *
    go_wp2_with (first
     |(go_at_call 58;refine hVn.mono ?_;rintro e w1 ⟨rfl,hb1⟩)
     |(go_at_call 92;refine (hDn _).mono ?_;rintro e w2 ⟨rfl,hb2⟩))
    go_ret2
    exact HN.out 5 _ HF.out (by decide) ((hb.trans (hb1.mono hb.size)).trans (hb2.mono (hb.trans (hb1.mono hb.size)).size))
   rw[hd1]at hDn
   cases hh:hasE es s with
   |true=>
    have HF:Hid (trNew roots=(7,[])):=by show _=_;rw[hinv2.out,hvn,hd1,hh];rfl
    rw[hh]at hHn
    clear hinv2 hinv3
    go_wp2_with (first
     |(go_at_call 58;refine hVn.mono ?_;rintro e w1 ⟨rfl,hb1⟩)
     |(go_at_call 92;refine (hDn _).mono ?_;rintro e w2 ⟨rfl,hb2⟩)
     |(go_at_call 93;refine (hHn _ (Below.on hb1 hb2)).mono ?_;rintro e w3 ⟨rfl,rfl⟩))
    go_ret2
    exact HN.out 7 _ HF.out (by decide) ((hb.trans (hb1.mono hb.size)).trans (hb2.mono (hb.trans (hb1.mono hb.size)).size))
   |false=>
    have hinv4:=hinv3 hvn hd1 hh
    rw[hh]at hHn
    clear hinv2 hinv3
    go_upto_region 13 with (first
     |(go_at_call 58;refine hVn.mono ?_;rintro e w1 ⟨rfl,hb1⟩)
     |(go_at_call 92;refine (hDn _).mono ?_;rintro e w2 ⟨rfl,hb2⟩)
     |(go_at_call 93;refine (hHn _ (Below.on hb1 hb2)).mono ?_;rintro e w3 ⟨rfl,rfl⟩))
    have hb12:=Below.on hb1 hb2
    have hT2:=hTr.keep hb12
    have hbw2:=hb.trans (hb12.mono hb.size)
    have c0:=hT2.c0
    have hent:=hT2.ent
    clear hVn hDn hHn hb1 hb2 q0
    go_wp2_with (at_mapUpdate;refine wpList_putF _ rfl _ _ _ 137 rfl Tryz.underlying137 rfl hent (l:=namesE es) (fun y hy=>treF_some.1 hy) (by unfold namesE;rw[List.length_map];omega) s rfl (by unfold maxLen;omega) (.slice none 0 0) rfl ?_;intro w5 hm5 hv5;go_frame)
    rw[treF_put0 hT2.ok hvn]at hm5
    have hall:AllMap w2 (·=w.heap.size):=fun k hk=>by
     have e:k=w.heap.size:=hk
     rw[e];exact hent.isMap
    have hb5:Below w.heap.size w2 w5:=hv5.below (fun j hj=>Nat.le_of_eq (Eq.symm hj)) hT2.hsz
    have hT5 : TrR w5 w.heap.size (w.heap.size + 1) (insE s [] es) w.heap.size := ⟨hv5.cell hall c0, hm5, fun e he => by
        rcases (insE_mem hvn hT2.ok e).1 he with rfl|⟨h1,_⟩
        ·rfl
        ·exact hT2.nil e h1,insE_ok hvn hT2.ok,hT2.hsp,hT2.hsm,Nat.le_trans hT2.hsz hv5.size⟩
    have hl5:(insE s [] es).length≤k+1:=by
     rw[insE_len hvn hT2.ok,hh]
     simp;omega
    go_roundw
    case rel=>exact ⟨k+1,_,by omega,by go_num,hT5,hbw2.trans hb5,hl5,hinv4⟩
    case measure=>simp[intOf];omega
  ·have hltI:¬(k:Int)<(roots.length:Int):=by omega
   have hfin:trNew roots=(0,es):=by
    rw[HR2.out,←hinv.out,List.drop_eq_nil_of_le (by omega)];rfl
   have HF:Hid (RetTN w roots (.returned (.tuple #[.pointer (some ⟨w.heap.size+1,0,none⟩),.int .i64 0])) wr):=⟨hb,.inl ⟨by rw[hfin],w.heap.size+1,w.heap.size,rfl,fun lo hlo=>by rw[hfin];exact hTr.tree hlo⟩⟩
   clear hinv hfin hTr
   go_wp2_with fail
   go_ret2
   exact HF.out
end
end Go.Proofs.YtbkkchhimhlhcaaGreatDoor
/- The program's tree: names, Children, Subtree. -/
namespace Go.Proofs.YtbkkchhimhlhcaaGreatDoor
open Go.RowKit Go.Sort
open Idn (L B Bs drop_L take_L size_L)
theorem own_iter {w w':World} {r base:Nat} {e:TypeId} {size:Nat} {v:Value} {n:Nat} {xs:List Value} (h:w.ownsRow base e size v n xs) (hm:Mv (·=r) w w') (hr:∃m s sn c,w.heap[r]?=some (.mapIter m s sn c)):w'.ownsRow base e size v n xs:=by
 refine ⟨h.1,?_⟩
 rcases h.2 with hn|⟨g,cap,cur,hv,hb,hgg,rest⟩
 ·exact .inl hn
 ·refine .inr ⟨g,cap,cur,hv,hb,(hm.block g (Array.getElem?_eq_some_iff.1 hgg).1 fun hk=>?_).trans hgg,rest⟩
  obtain ⟨m,s,sn,c,e⟩:=hr
  have hk':g=r:=hk
  rw[hk',e]at hgg
  cases hgg
theorem own_noIter {w:World} {r base:Nat} {e:TypeId} {size:Nat} {v:Value} {n:Nat} {xs:List Value} (h:w.ownsRow base e size v n xs) (hr:∃m s sn c,w.heap[r]?=some (.mapIter m s sn c)):v.ownBlock≠some r:=by
 obtain ⟨m,s,sn,c,e0⟩:=hr
 rcases h.2 with ⟨rfl,_⟩|⟨g,cap,cur,rfl,_,hg,_⟩
 ·intro e;cases e
 ·intro e1
  have e2:g=r:=by
   have:(some g:Option Nat)=some r:=e1
   exact Option.some.inj this
  subst e2
  rw[e0]at hg
  cases hg
section
variable {w w':World} {hs lo pt:Nat} {es es':List IxE} {mb:Nat} {g g':Bs→Value}
theorem TrV.below {w0:World} (h:TrV w hs lo pt es mb g) (hb:Below hs w w') (hm:MapF w' mb (treF es g)):mb<w'.heap.size:=hm.lt
theorem trNames_any (fid : Nat) (lb : Array Value) (eg : FnB fid) (h : TrV w hs lo pt es mb g) (hG : GdT es) (p : Bs → Bool) (hp : ∀ W n, Below w.heap.size w W → validN n = true → Calls Tryz.prog fid (#[.string (B n)] ++ lb) W fun e w' => e = .returned (.bool (p n)) ∧ Below W.heap.size W w') :
    Calls Tryz.prog 106 #[.pointer (some ⟨pt,0,none⟩),.func (.func fid) #[] lb] w fun e w'=>∃v,e=.returned v∧w'.ownsRow w.heap.size 9 1 v ((es.filter fun e=>p e.1).map (·.1)).length (((es.filter fun e=>p e.1).map (·.1)).map sv)∧Below w.heap.size w w':=by
 unfold FnB at eg
 have c0:=h.c0
 have hent:=h.ent
 have hmlt:=h.lt
 have hdom:∀x,treF es g x≠none→x∈namesE es:=fun x hx=>treF_some.1 hx
 have hel:(namesE es).length≤256:=by have:=hG.len;unfold namesE;rw[List.length_map];exact this
 have hvl:∀x∈namesE es,validN x=true:=fun x hx=>hG.ok.valN x hx
 obtain ⟨N,hN⟩:∃N,N=(es.filter fun e=>p e.1).map (·.1):=⟨_,rfl⟩
 rw[←hN]
 go_enter Tryz.func106,Tryz.ntmps106
 go_wp2_with (first
  |(at_range;refine wpList_rangeF _ rfl _ 137 rfl Tryz.underlying137 rfl hent ?_;intro w0 hr0 hb0 hs0)
  |go_in)
 go_frame
 go_loopw [5] (fun ov wr=>∃(left:Bs→Bool) (ks:List Bs),RangeF wr mb w.heap.size (treF es g) left∧ks.Nodup∧(∀x,x∈ks↔(x∈namesE es∧left x=false∧p x=true))∧wr.ownsRow (w.heap.size+1) 9 1 ov ks.length (ks.map sv)∧Below w.heap.size w wr∧w.heap.size<wr.heap.size) (fun _ wr=>wr.rangeLeft mb w.heap.size)
 case atStart=>
  refine ⟨_,[],hr0,List.nodup_nil,fun x=>?_,World.ownsRow_nil _ _ _ _,hb0,by omega⟩
  constructor
  ·intro hx;cases hx
  ·rintro ⟨h1,h2,_⟩
   have h3:(treF es g x).isSome=true:=by rw[treF_dom];exact mem_names.1 h1
   rw[h3]at h2;cases h2
 case round=>
  obtain ⟨left,ks,hr,hnd,hks,hown,hb,hlw⟩:=hrel
  have hkl:ks.length≤256:=Nat.le_trans (nodup_lenS hnd fun x hx=>((hks x).1 hx).1) hel
  obtain ⟨Ak,ck,hsh⟩:=own_shape hown
  subst hsh
  go_wp2_with (first
   |(at_next;refine wpList_nextF _ rfl _ rfl rfl hr ?_ ?_)
   |go_in)
  ·intro hl0
   have hS:=sortN_any _ _ ks wr hown hlw (by omega) hnd (fun x hx=>hvl x ((hks x).1 hx).1) (fun x hx=>by have:=valid_len (hvl x ((hks x).1 hx).1);omega)
   go_wp2_with (go_at_call 180;refine hS.mono ?_;rintro e w3 ⟨rfl,ts,hpm,hsr,hown3,hb3⟩)
   have hl:ts=N:=by
    rw[hN]
    exact sorted_is hG.ok _ hsr fun n=>by
     rw[hpm.mem_iff,hks]
     constructor
     ·rintro ⟨h1,_,h3⟩
      obtain ⟨e,he,rfl⟩:=List.mem_map.1 h1
      exact List.mem_map.2 ⟨e,List.mem_filter.2 ⟨he,h3⟩,rfl⟩
     ·intro hn
      obtain ⟨e,he,rfl⟩:=List.mem_map.1 hn
      obtain ⟨h1,h2⟩:=List.mem_filter.1 he
      exact ⟨List.mem_map.2 ⟨e,h1,rfl⟩,hl0 _,h2⟩
   rw[hl]at hown3
   have hlen:ks.length=N.length:=by rw[←hl,hpm.length_eq]
   have HF:Hid (∃v,(Ending.returned (Value.slice Ak ks.length ck))=.returned v∧w3.ownsRow w.heap.size 9 1 v N.length (N.map sv)∧Below w.heap.size w w3):=⟨_,rfl,own_lower hown3 (Nat.le_succ _),hb.trans (hb3.mono (Nat.le_succ _))⟩
   clear hl hlen hown3 hpm hsr hks hnd hown
   go_wp2_with fail
   go_ret
   exact HF.out
  ·intro x c w2 hxl hlx hfx hr2 hlt2 hm2 hsz2 hen
   have hxn:x∈namesE es:=hdom x (by rw[hfx];simp)
   have hit:=hr.iter
   have hown2:=own_iter hown hm2 hit
   have hb2:Below w.heap.size w w2:=hb.trans (hm2.below (fun j hj=>Nat.le_of_eq (Eq.symm hj)) hb.size)
   have hlw2:w.heap.size<w2.heap.size:=Nat.lt_of_lt_of_le hlw hm2.size
   have hP:=hp w2 x hb2 (hvl x hxn)
   have hnk:x∉ks:=fun hx=>by
    have:=((hks x).1 hx).2.1
    rw[hlx]at this;cases this
   have hst0:∀pb,p x=pb→∀y,(y∈(if pb then ks++[x]else ks))↔(y∈namesE es∧(left y&&decide (y≠x))=false∧p y=true):=fun pb hpb y=>by
    by_cases hyx:y=x
    ·subst hyx
     cases pb
     ·rw[if_neg (by decide)]
      exact ⟨fun h=>absurd h hnk,fun h=>by rw[hpb]at h;exact absurd h.2.2 (by decide)⟩
     ·rw[if_pos rfl]
      exact ⟨fun _=>⟨hxn,by simp,hpb⟩,fun _=>by simp⟩
    ·have e1 : (y ∈ (if pb then ks ++ [x] else ks)) ↔ y ∈ ks := by
       cases pb
       ·rw[if_neg (by decide)]
       ·rw[if_pos rfl];simp[hyx]
     rw[e1,hks]
     simp[hyx]
   have hst:=hst0 _ rfl
   generalize p x=pb at *
   clear hst0 hsz2 hfx hks
   cases pb with
   |false=>
    have HST:=Lib.hid hst
    clear hst
    go_wp2_with fail
    refine hP.mono ?_
    rintro e w3 ⟨rfl,hb3⟩
    have hr3:=hr2.keepB hb3
    have hlt3:w3.rangeLeft mb w.heap.size<wr.rangeLeft mb w.heap.size:=by rw[hr2.leftB hb3];exact hlt2
    go_wp2_with fail
    go_roundw
    case rel=>exact ⟨_,ks,hr3,hnd,fun y=>(by have h:=HST.out y;simpa using h),own_below hown2 hb3,hb2.trans (hb3.mono hb2.size),Nat.lt_of_lt_of_le hlw2 hb3.size⟩
    case measure=>exact hlt3
   |true=>
    have HST:=Lib.hid hst
    clear hst
    go_wp2_with fail
    refine hP.mono ?_
    rintro e w3 ⟨rfl,hb3⟩
    have hr3:=hr2.keepB hb3
    have hlt3:w3.rangeLeft mb w.heap.size<wr.rangeLeft mb w.heap.size:=by rw[hr2.leftB hb3];exact hlt2
    have hown3:=own_below hown2 hb3
    have hbw3:=hb2.trans (hb3.mono hb2.size)
    have hlw3:=Nat.lt_of_lt_of_le hlw2 hb3.size
    clear hown hown2 hP hr hr2 hm2 hlt2 hb hb2 hb3
    go_wp2_with (at_builtin;refine wpList_push w3 rfl _ _ 26 rfl (w.heap.size+1) 9 (.string ⟨#[]⟩) 1 16 Tryz.underlying26 info_str rfl (by decide) _ ks.length _ hown3 rfl [.string (B x)] rfl rfl (by intro u hu;simp at hu;subst hu;rfl) (by omega) hlw3 ?_ rfl)
    intro v' w4 hown4 hg4 hat4 hb4 _
    have hmv:=Mv.of_grown (S:=fun k=>(Value.slice Ak ks.length ck).ownBlock=some k) hg4 fun j hj=>hj
    have hn1:¬(Value.slice Ak ks.length ck).ownBlock=some mb:=fun e=>by
     have:=hown3.lt mb e
     omega
    have hn2:¬(Value.slice Ak ks.length ck).ownBlock=some w.heap.size:=own_noIter hown3 hr3.iter
    have hr4:=hr3.mv hmv hn1 hn2
    have hlt4:w4.rangeLeft mb w.heap.size<wr.rangeLeft mb w.heap.size:=by rw[hr3.left_mv hmv hn1 hn2];exact hlt3
    have hb4':Below w.heap.size w w4:=hbw3.trans (hb4.mono (Nat.le_succ _))
    have hnd4:(ks++[x]).Nodup:=by
     rw[List.nodup_append]
     refine ⟨hnd,by simp,fun a ha b hb e=>?_⟩
     rw[List.mem_singleton]at hb
     subst hb e
     exact hnk ha
    have hown5:w4.ownsRow (w.heap.size+1) 9 1 v' (ks++[x]).length ((ks++[x]).map sv):=by
     rw[List.length_append,List.map_append];exact hown4
    have hlw4:=Nat.lt_of_lt_of_le hlw3 hmv.size
    clear hmv hg4 hat4 hown4 hown3 hn1 hn2 hr3 hlt3
    go_wp2_with fail
    go_roundw
    case rel=>exact ⟨_,ks++[x],hr4,hnd4,fun y=>(by have h:=HST.out y;simpa using h),hown5,hb4',hlw4⟩
    case measure=>exact hlt4
theorem fn_sub1:FnB 107:=by intro a w;kernel_rfl
theorem sub1_any (n : Bs) (q : Nat) (b : Bs) (w : World) (hn : n.length ≤ 1000000) (hb : b.length ≤ 1000000) (hq : w.cell? ⟨q, 0, none⟩ = some (.string (B b))) :
  Calls Tryz.prog 107 #[.string (B n),.pointer (some ⟨q,0,none⟩)] w fun e w'=>e=.returned (.bool (nmUnd n b))∧Below w.heap.size w w':=by
 have hU:=nm_under_any (B n) (B b) w (by rw[Idn.size_B];omega) (by rw[Idn.size_B];omega)
 simp only[Idn.L_B]at hU
 go_enter Tryz.func107,Tryz.ntmps107
 go_wp2_with (go_at_call 86;refine hU.mono ?_;rintro e w1 ⟨rfl,hb1⟩)
 go_ret
 exact ⟨rfl,hb1⟩
theorem hasE_und {es:List IxE} {b:Bs} {e:IxE} (he:e∈subE es b):e∈es:=(List.mem_filter.1 he).1
theorem trSub_any (h : TrV w hs lo pt es mb g) (hG : GdT es) (b : Bs) (hb : b.length ≤ 1000000) :
    Calls Tryz.prog 40 #[.pointer (some ⟨pt,0,none⟩),.string (B b)] w fun e w'=>∃v qs,e=.returned v∧EntRow w' w.heap.size v qs∧qs.map (·.1)=trSub es b∧Below w.heap.size w w':=by
 have c0:=h.c0
 have hM:=fun W (hW:Below w.heap.size w W)=>trMade_any (cell_later hW c0)
 have hH:=fun W (hW:Below w.heap.size w W)=>trHas_any (h.keep hW) b (by omega)
 have HR:Hid (trSub es b=if !b.isEmpty&&!hasE es b then []else subE es b):=rfl
 generalize trSub es b=r at *
 have hgo:∀W,Below w.heap.size w W→W.cell? ⟨w.heap.size,0,none⟩=some (.string (B b))→Calls Tryz.prog 106 #[.pointer (some ⟨pt,0,none⟩),.func (.func 107) #[] #[.pointer (some ⟨w.heap.size,0,none⟩)]] W fun e w'=>∃v,e=.returned v∧w'.ownsRow W.heap.size 9 1 v ((subE es b).map (·.1)).length (((subE es b).map (·.1)).map sv)∧Below W.heap.size W w':=
  fun W hW hq=>trNames_any 107 #[.pointer (some ⟨w.heap.size,0,none⟩)] fn_sub1 (h.keep hW) hG (fun n=>nmUnd n b) fun V n hV hv=>sub1_any n _ b V (by have:=valid_len hv;omega) hb (cell_later hV hq)
 have hCp:=fun (e:IxE) (he:e∈subE es b) W (hW:Below w.heap.size w W)=>trCopied_any (n:=e.1) (A:=e.2) (h.keep hW) hG (hasE_und he)
 have hsl:(subE es b).length≤256:=Nat.le_trans (List.length_filter_le _ _) hG.len
 by_cases hno:b.isEmpty=false∧hasE es b=false
 ·obtain ⟨hie,hh⟩:=hno
  have hbe:(B b).toList.isEmpty=false:=by rw[toList_L,Idn.L_B];exact hie
  have HF:Hid (r=[]):=by show _=_;rw[HR.out,hie,hh];rfl
  rw[hh]at hH
  clear HR hgo hie hCp
  go_enter Tryz.func40,Tryz.ntmps40
  go_upto_region 1 with fail
  with_reducible refine gen1 (R:=fun W=>Code.wp Tryz.prog _ _ _ W) ?_
  intro W hbW hszW hc hfz
  have q0:W.cell? ⟨w.heap.size,0,none⟩=some (.string (B b)):=hc 0 _ rfl
  clear hc hfz hszW
  go_wp2_with (first
   |(go_at_call 94;refine (hM _ hbW).mono ?_;rintro e w1 ⟨rfl,rfl⟩)
   |(go_at_call 93;refine (hH _ hbW).mono ?_;rintro e w2 ⟨rfl,rfl⟩))
  go_ret
  exact ⟨_,[],rfl,EntRow.nil _ _,by rw[HF.out];rfl,hbW⟩
 have HF:Hid (r=subE es b):=by
  show _=_
  rw[HR.out,if_neg]
  intro hc
  rw[Bool.and_eq_true,Bool.not_eq_true',Bool.not_eq_true']at hc
  exact hno hc
 have hcase:(B b).toList.isEmpty=true∨((B b).toList.isEmpty=false∧hasE es b=true):=by
  rw[toList_L,Idn.L_B]
  cases h1:b.isEmpty with
  |true=>exact .inl rfl
  |false=>
   cases h2:hasE es b with
   |true=>exact .inr ⟨rfl,rfl⟩
   |false=>exact absurd ⟨h1,h2⟩ hno
 clear HR hno
 generalize hSE:subE es b=S at *
 clear hSE
 go_enter Tryz.func40,Tryz.ntmps40
 go_upto_region 1 with fail
 with_reducible refine gen1 (R:=fun W=>Code.wp Tryz.prog _ _ _ W) ?_
 intro W hbW hszW hc hfz
 have q0:W.cell? ⟨w.heap.size,0,none⟩=some (.string (B b)):=hc 0 _ rfl
 clear hc hfz hszW
 have hgoW:=hgo W hbW q0
 have hMW:=hM W hbW
 have hHW:=hH W hbW
 clear hgo hM hH
 have hmain:∀a:Act,True:=fun _=>trivial
 clear hmain
 rcases hcase with hbe|⟨hbe,hh⟩
 all_goals
  (try rw[hh]at hHW)
  go_upto_region 4 with (first
   |(go_at_call 94;refine hMW.mono ?_;rintro e w1 ⟨rfl,rfl⟩)
   |(go_at_call 93;refine hHW.mono ?_;rintro e w2 ⟨rfl,rfl⟩))
  go_wp2_with (go_at_call 106;refine hgoW.mono ?_;rintro e w3 ⟨v3,rfl,hown3,hb3⟩;obtain ⟨A3,c3,hsh⟩:=own_shape hown3;subst hsh)
  have hS3:StrsV w3 w3.heap.size (.slice A3 (S.map (·.1)).length c3) (S.map (·.1)):=StrsV.of_own hown3
  have hbw3:=hbW.trans (hb3.mono hbW.size)
  have hml:(S.map (·.1)).length=S.length:=List.length_map ..
  rw[hml]at hS3
  try simp only[hml]
  clear hgoW hMW hHW hown3 q0
  go_loopw [25,5] (fun i ov wr=>∃(k:Nat) (qs:List (EntP×Value)),k≤S.length∧i=.int .i64 k∧EntRow wr w3.heap.size ov qs∧qs.length=k∧Hid (qs.map (·.1)=S.take k)∧Below w3.heap.size w3 wr) (fun i _ _=>S.length-(intOf i).toNat)
  case atStart=>exact ⟨0,[],Nat.zero_le _,rfl,EntRow.nil _ _,rfl,rfl,Below.refl _ _⟩
  case round=>
   obtain ⟨k,qs,hk,rfl,hrow,hql,hinv,hb⟩:=hrel
   obtain ⟨Ao,co,hsh⟩:=own_shape hrow.1
   subst hsh
   rw[hql]
   by_cases hlt:k<S.length
   ·have hltI:(k:Int)<(S.length:Int):=by omega
    obtain ⟨b9,off,rfl,hbl,d0⟩:=StrsV.cell (SlV.keep hS3 hb) (k:=k) (by rw[List.length_map];exact hlt)
    rw[List.getElem_map]at d0
    have hbw:=hbw3.trans (hb.mono hbw3.size)
    have hC:=hCp S[k] (List.getElem_mem hlt) wr hbw
    have hstep:Hid (S.take (k+1)=S.take k++[S[k]]):=List.take_succ_eq_append_getElem hlt
    have hQL:=Lib.hid hql
    clear hql hCp
    generalize S[k]=x at *
    go_wp2_with (first
     |(go_at_call 108;refine hC.mono ?_;rintro e w4 ⟨k4,c4,ps,rfl,hao,hps,hb4⟩;have hrow4:=hrow.keep hb4)
     |(at_builtin;refine wpList_pushE (w:=w4) rfl _ _ rfl w3.heap.size _ qs hrow4 (by rw[hQL.out];rfl) ((x.1,x.2),.slice k4 x.2.length c4) ⟨ps,AttRow.low ⟨hao.1,hao.2.1⟩ hb.size,hps⟩ rfl (by rw[hQL.out];omega) (Nat.le_trans hb.size hb4.size) ?_ rfl;intro A5 c5 w5 hrow5 hg5 hb5))
    go_roundw
    case rel=>exact ⟨k+1,qs++[((x.1,x.2),.slice k4 x.2.length c4)],by omega,by go_num,hrow5,by simp[hQL.out],by show _=_;rw[List.map_append,hinv.out,hstep.out];rfl,(hb.trans (hb4.mono hb.size)).trans hb5⟩
    case measure=>simp[intOf];omega
   ·have hltI:¬(k:Int)<(S.length:Int):=by omega
    have HX:Hid (∃v qs,Ending.returned (Value.slice Ao k co)=.returned v∧EntRow wr w.heap.size v qs∧qs.map (·.1)=r∧Below w.heap.size w wr):=⟨_,qs,rfl,by rw[←hql];exact hrow.low hbw3.size,by rw[hinv.out,HF.out,List.take_of_length_le (by omega)],hbw3.trans (hb.mono hbw3.size)⟩
    clear hinv hql
    go_wp2_with fail
    go_ret
    obtain ⟨v,qs',h1,h2,h3,h4⟩:=HX.out
    exact ⟨v,h1,qs',h2,h3,h4⟩
end
end Go.Proofs.YtbkkchhimhlhcaaGreatDoor
/- law12: example, query, program. -/
namespace Go.Proofs.YtbkkchhimhlhcaaGreatDoor
open Go.RowKit Go.Sort
open Idn (L B Bs drop_L take_L size_L)
namespace E12
def staffN:Bs:=[111,117,61,115,116,97,102,102]
def annN:Bs:=[99,110,61,97,110,110,44,111,117,61,115,116,97,102,102]
def bobN:Bs:=[99,110,61,98,111,98,44,111,117,61,115,116,97,102,102]
def CN:Bs:=[67,78]
def sch:Idn.Sch:=⟨[⟨Idn.mainN,1,false⟩,⟨E8.cnN,1,false⟩,⟨E9.mailN,1,false⟩],[]⟩
def annL:List Idn.Att:=[⟨E8.cnN,[[97,110,110]]⟩,⟨E9.mailN,[[109]]⟩]
def bobL:List Idn.Att:=[⟨E8.cnN,[[98,111,98]]⟩]
def dat:Dat:=⟨sch,[staffN],[(annN,annL),(bobN,bobL)],[E8.cnN]⟩
end E12
def putsOk:List IxE→List IxE→Bool
 |[],_=>true
 |x :: l,es=>(ixPut es x.1 x.2).1==0&&putsOk l (ixPut es x.1 x.2).2
theorem att_one {w:World} {n x:Bs} {p q:Nat} {e1 e2:TypeId} (h1:w.ownsRow 0 e1 2 (.slice (some ⟨p,0,none⟩) 1 1) 1 [sv n,.slice (some ⟨q,0,none⟩) 1 1]) (h2:w.ownsRow 0 e2 1 (.slice (some ⟨q,0,none⟩) 1 1) 1 [sv x]):AttsV w w.heap.size (.slice (some ⟨p,0,none⟩) 1 1) [⟨n,[x]⟩]:=by
 refine SlV.own (l:=[(⟨n,[x]⟩:Idn.Att)]) h1 fun i y hy=>?_
 match i,hy with
 |0,hy=>injection hy with hy;subst hy;exact ⟨_,rfl,⟨_,rfl,oneS h2⟩,fun j u hj=>by match j,hj with|0,hj=>exact hj|1,hj=>exact hj⟩
theorem att_two {w:World} {n x n' x':Bs} {p q q':Nat} {e1 e2 e3:TypeId} (h1:w.ownsRow 0 e1 2 (.slice (some ⟨p,0,none⟩) 2 2) 2 [sv n,.slice (some ⟨q,0,none⟩) 1 1,sv n',.slice (some ⟨q',0,none⟩) 1 1]) (h2:w.ownsRow 0 e2 1 (.slice (some ⟨q,0,none⟩) 1 1) 1 [sv x]) (h3:w.ownsRow 0 e3 1 (.slice (some ⟨q',0,none⟩) 1 1) 1 [sv x']):AttsV w w.heap.size (.slice (some ⟨p,0,none⟩) 2 2) [⟨n,[x]⟩,⟨n',[x']⟩]:=by
 refine SlV.own (l:=[(⟨n,[x]⟩:Idn.Att),⟨n',[x']⟩]) h1 fun i y hy=>?_
 match i,hy with
 |0,hy=>injection hy with hy;subst hy;exact ⟨_,rfl,⟨_,rfl,oneS h2⟩,fun j u hj=>by match j,hj with|0,hj=>exact hj|1,hj=>exact hj⟩
 |1,hy=>injection hy with hy;subst hy;exact ⟨_,rfl,⟨_,rfl,oneS h3⟩,fun j u hj=>by match j,hj with|0,hj=>exact hj|1,hj=>exact hj⟩
theorem ent_two {w:World} {n n':Bs} {v v':Value} {A A':List Idn.Att} {p:Nat} {e:TypeId} (h1:w.ownsRow 0 e 2 (.slice (some ⟨p,0,none⟩) 2 2) 2 [sv n,v,sv n',v']) (h2:AttsV w w.heap.size v A) (h3:AttsV w w.heap.size v' A'):EntsV w w.heap.size (.slice (some ⟨p,0,none⟩) 2 2) [(n,A),(n',A')]:=by
 refine SlV.own (l:=[((n,A):EntP),(n',A')]) h1 fun i y hy=>?_
 match i,hy with
 |0,hy=>injection hy with hy;subst hy;exact ⟨_,rfl,⟨_,rfl,h2⟩,fun j u hj=>by match j,hj with|0,hj=>exact hj|1,hj=>exact hj⟩
 |1,hy=>injection hy with hy;subst hy;exact ⟨_,rfl,⟨_,rfl,h3⟩,fun j u hj=>by match j,hj with|0,hj=>exact hj|1,hj=>exact hj⟩
section
variable {w:World}
theorem query12_any {d : Nat} {v : Value} {f : Flt} (hF : FltV w w.heap.size d v f) (sc lim : Int) :
  Calls Tryz.prog 80 #[v,.int .i64 sc,.int .i64 lim] w fun e w'=>∃Ap cp Ak ck An cn,e=.returned (.agg #[.string (B E12.staffN),.int .i64 sc,.int .i64 f.kind,.string (B f.name),.string (B f.value),.slice Ap f.parts.length cp,.slice Ak f.kids.length ck,.slice An 1 cn,.int .i64 lim])∧QryV w' w'.heap.size d (.agg #[.string (B E12.staffN),.int .i64 sc,.int .i64 f.kind,.string (B f.name),.string (B f.value),.slice Ap f.parts.length cp,.slice Ak f.kids.length ck,.slice An 1 cn,.int .i64 lim]) ⟨E12.staffN,sc,f,[E12.CN],lim⟩∧Below w.heap.size w w':=by
 obtain ⟨Ap,cp,Ak,ck,rfl,hp,hk⟩:=hF.shape
 go_enter Tryz.func80,Tryz.ntmps80
 go_upto_region 1 with fail
 with_reducible refine gen2g (R:=fun W=>Code.wp Tryz.prog _ _ _ W) ?_
 intro W hbW hszW hc hc2 hf1 hf2
 have b0:W.cell? ⟨w.heap.size,0,none⟩=some (.int .i64 f.kind):=hc 0 _ rfl
 have b1:W.cell? ⟨w.heap.size,1,none⟩=some (.string (B f.name)):=hc 1 _ rfl
 have b2:W.cell? ⟨w.heap.size,2,none⟩=some (.string (B f.value)):=hc 2 _ rfl
 have b3:W.cell? ⟨w.heap.size,3,none⟩=some (.slice Ap f.parts.length cp):=hc 3 _ rfl
 have b4:W.cell? ⟨w.heap.size,4,none⟩=some (.slice Ak f.kids.length ck):=hc 4 _ rfl
 have z0:W.cell? ⟨w.heap.size+1,0,none⟩=some (.string ⟨#[]⟩):=hc2 0 _ rfl
 have g0:=hf2 0
 have z1:W.cell? ⟨w.heap.size+1,1,none⟩=some (.int .i64 0):=hc2 1 _ rfl
 have g1:=hf2 1
 have z2:W.cell? ⟨w.heap.size+1,2,none⟩=some (.int .i64 0):=hc2 2 _ rfl
 have g2:=hf2 2
 have z3:W.cell? ⟨w.heap.size+1,3,none⟩=some (.string ⟨#[]⟩):=hc2 3 _ rfl
 have g3:=hf2 3
 have z4:W.cell? ⟨w.heap.size+1,4,none⟩=some (.string ⟨#[]⟩):=hc2 4 _ rfl
 have g4:=hf2 4
 have z5:W.cell? ⟨w.heap.size+1,5,none⟩=some (.slice none 0 0):=hc2 5 _ rfl
 have g5:=hf2 5
 have z6:W.cell? ⟨w.heap.size+1,6,none⟩=some (.slice none 0 0):=hc2 6 _ rfl
 have g6:=hf2 6
 have z7:W.cell? ⟨w.heap.size+1,7,none⟩=some (.slice none 0 0):=hc2 7 _ rfl
 have g7:=hf2 7
 have z8:W.cell? ⟨w.heap.size+1,8,none⟩=some (.int .i64 0):=hc2 8 _ rfl
 have g8:=hf2 8
 have hzW:w.heap.size+1<W.heap.size:=by omega
 clear hc hc2 hf1 hf2 hszW
 go_wp2
 have hb1:∀X:World,Below w.heap.size w X→Below w.heap.size w (X.alloc (.cells #[.string ⟨#[67,78]⟩] 9)):=fun X h=>Below.lay h _
 have hbX:Below w.heap.size w (((((((((W.setCell ⟨w.heap.size+1,0,none⟩ (.string ⟨#[111,117,61,115,116,97,102,102]⟩)).setCell ⟨w.heap.size+1,1,none⟩ (.int .i64 sc)).setCell ⟨w.heap.size+1,2,none⟩ (.int .i64 f.kind)).setCell ⟨w.heap.size+1,3,none⟩ (.string (B f.name))).setCell ⟨w.heap.size+1,4,none⟩ (.string (B f.value))).setCell ⟨w.heap.size+1,5,none⟩ (.slice Ap f.parts.length cp)).setCell ⟨w.heap.size+1,6,none⟩ (.slice Ak f.kids.length ck)).setCell ⟨w.heap.size+1,7,none⟩ (.slice (some ⟨W.heap.size,0,none⟩) 1 1)).setCell ⟨w.heap.size+1,8,none⟩ (.int .i64 lim)):=by
  repeat (first|with_reducible exact hbW|refine Below.setCell ?_ (by simp) _)
 with_reducible refine genW (R:=fun W=>bodyPost _ _ _ _ _ W) (Q:=fun V=>(V.cell? ⟨w.heap.size+1,0,none⟩=some (.string (B E12.staffN))∧V.cell? ⟨w.heap.size+1,1,none⟩=some (.int .i64 sc)∧V.cell? ⟨w.heap.size+1,2,none⟩=some (.int .i64 f.kind)∧V.cell? ⟨w.heap.size+1,3,none⟩=some (.string (B f.name))∧V.cell? ⟨w.heap.size+1,4,none⟩=some (.string (B f.value))∧V.cell? ⟨w.heap.size+1,5,none⟩=some (.slice Ap f.parts.length cp)∧V.cell? ⟨w.heap.size+1,6,none⟩=some (.slice Ak f.kids.length ck)∧V.cell? ⟨w.heap.size+1,7,none⟩=some (.slice (some ⟨W.heap.size,0,none⟩) 1 1)∧V.cell? ⟨w.heap.size+1,8,none⟩=some (.int .i64 lim))∧QryV V V.heap.size d (.agg #[.string (B E12.staffN),.int .i64 sc,.int .i64 f.kind,.string (B f.name),.string (B f.value),.slice Ap f.parts.length cp,.slice Ak f.kids.length ck,.slice (some ⟨W.heap.size,0,none⟩) 1 1,.int .i64 lim]) ⟨E12.staffN,sc,f,[E12.CN],lim⟩∧Below w.heap.size w V) ?_ ?_
 ·refine ⟨⟨?_,?_,?_,?_,?_,?_,?_,?_,?_⟩,⟨_,_,_,rfl,hF.on (hb1 _ hbX),oneS (x:=E12.CN) (litR _ _ 1 1 _ _ (by simp) (by decide) rfl)⟩,hb1 _ hbX⟩
  ·exact cell_later (Below.lay (Below.refl _ _) _) (cell_set (i:=8) (cell_set (i:=7) (cell_set (i:=6) (cell_set (i:=5) (cell_set (i:=4) (cell_set (i:=3) (cell_set (i:=2) (cell_set (i:=1) (cell_set (i:=0) (z0))))))))))
  ·exact cell_later (Below.lay (Below.refl _ _) _) (cell_set (i:=8) (cell_set (i:=7) (cell_set (i:=6) (cell_set (i:=5) (cell_set (i:=4) (cell_set (i:=3) (cell_set (i:=2) (cell_set (i:=1) (cell_set (i:=0) (z1))))))))))
  ·exact cell_later (Below.lay (Below.refl _ _) _) (cell_set (i:=8) (cell_set (i:=7) (cell_set (i:=6) (cell_set (i:=5) (cell_set (i:=4) (cell_set (i:=3) (cell_set (i:=2) (cell_set (i:=1) (cell_set (i:=0) (z2))))))))))
  ·exact cell_later (Below.lay (Below.refl _ _) _) (cell_set (i:=8) (cell_set (i:=7) (cell_set (i:=6) (cell_set (i:=5) (cell_set (i:=4) (cell_set (i:=3) (cell_set (i:=2) (cell_set (i:=1) (cell_set (i:=0) (z3))))))))))
  ·exact cell_later (Below.lay (Below.refl _ _) _) (cell_set (i:=8) (cell_set (i:=7) (cell_set (i:=6) (cell_set (i:=5) (cell_set (i:=4) (cell_set (i:=3) (cell_set (i:=2) (cell_set (i:=1) (cell_set (i:=0) (z4))))))))))
  ·exact cell_later (Below.lay (Below.refl _ _) _) (cell_set (i:=8) (cell_set (i:=7) (cell_set (i:=6) (cell_set (i:=5) (cell_set (i:=4) (cell_set (i:=3) (cell_set (i:=2) (cell_set (i:=1) (cell_set (i:=0) (z5))))))))))
  ·exact cell_later (Below.lay (Below.refl _ _) _) (cell_set (i:=8) (cell_set (i:=7) (cell_set (i:=6) (cell_set (i:=5) (cell_set (i:=4) (cell_set (i:=3) (cell_set (i:=2) (cell_set (i:=1) (cell_set (i:=0) (z6))))))))))
  ·exact cell_later (Below.lay (Below.refl _ _) _) (cell_set (i:=8) (cell_set (i:=7) (cell_set (i:=6) (cell_set (i:=5) (cell_set (i:=4) (cell_set (i:=3) (cell_set (i:=2) (cell_set (i:=1) (cell_set (i:=0) (z7))))))))))
  ·exact cell_later (Below.lay (Below.refl _ _) _) (cell_set (i:=8) (cell_set (i:=7) (cell_set (i:=6) (cell_set (i:=5) (cell_set (i:=4) (cell_set (i:=3) (cell_set (i:=2) (cell_set (i:=1) (cell_set (i:=0) (z8))))))))))
 ·rintro V ⟨⟨k0,k1,k2,k3,k4,k5,k6,k7,k8⟩,hQ,hb⟩
  exact bodyPost_ret (by simp[results,Tryz.results80,go_sem,k0,k1,k2,k3,k4,k5,k6,k7,k8]) rfl ⟨_,_,_,_,_,_,rfl,hQ,hb⟩
theorem example12_any (w : World) :
  Calls Tryz.prog 79 #[] w fun e w'=>∃v,e=.returned v∧DatV w' w'.heap.size v E12.dat∧Below w.heap.size w w':=by
 go_enter Tryz.func79,Tryz.ntmps79
 go_wp2
 with_reducible refine genW (R:=fun W=>bodyPost _ _ _ _ _ W) (Q:=fun W=>(W.cell? ⟨w.heap.size,0,none⟩=some (.slice (some ⟨w.heap.size+1,0,none⟩) 3 3)∧W.cell? ⟨w.heap.size,1,none⟩=some (.slice none 0 0)∧W.cell? ⟨w.heap.size,2,none⟩=some (.slice (some ⟨w.heap.size+1+1+1+1+1+1+1+1+1,0,none⟩) 1 1)∧W.cell? ⟨w.heap.size,3,none⟩=some (.slice (some ⟨w.heap.size+1+1+1+1+1+1+1+1,0,none⟩) 2 2)∧W.cell? ⟨w.heap.size,4,none⟩=some (.slice (some ⟨w.heap.size+1+1+1+1+1+1+1+1+1+1,0,none⟩) 1 1))∧
  DatV W W.heap.size (.agg #[.slice (some ⟨w.heap.size+1,0,none⟩) 3 3,.slice none 0 0,.slice (some ⟨w.heap.size+1+1+1+1+1+1+1+1+1,0,none⟩) 1 1,.slice (some ⟨w.heap.size+1+1+1+1+1+1+1+1,0,none⟩) 2 2,.slice (some ⟨w.heap.size+1+1+1+1+1+1+1+1+1+1,0,none⟩) 1 1]) E12.dat∧Below w.heap.size w W) ?_ ?_
 ·refine ⟨⟨?_,?_,?_,?_,?_⟩,⟨_,_,_,_,_,rfl,⟨_,_,rfl,?_,SlV.nil _ _ _ _⟩,?_,?_,?_⟩,?_⟩
  ·refine Eq.trans (World.ownsRow.cellAt (n:=1) (size:=5) (((((((((((litR w _ 1 5 _ _ rfl (by decide) rfl).alloc _).alloc _).alloc _).alloc _).alloc _).alloc _).alloc _).alloc _).alloc _).alloc _) 0 (by decide)) ?_
   rfl
  ·refine Eq.trans (World.ownsRow.cellAt (n:=1) (size:=5) (((((((((((litR w _ 1 5 _ _ rfl (by decide) rfl).alloc _).alloc _).alloc _).alloc _).alloc _).alloc _).alloc _).alloc _).alloc _).alloc _) 1 (by decide)) ?_
   rfl
  ·refine Eq.trans (World.ownsRow.cellAt (n:=1) (size:=5) (((((((((((litR w _ 1 5 _ _ rfl (by decide) rfl).alloc _).alloc _).alloc _).alloc _).alloc _).alloc _).alloc _).alloc _).alloc _).alloc _) 2 (by decide)) ?_
   rfl
  ·refine Eq.trans (World.ownsRow.cellAt (n:=1) (size:=5) (((((((((((litR w _ 1 5 _ _ rfl (by decide) rfl).alloc _).alloc _).alloc _).alloc _).alloc _).alloc _).alloc _).alloc _).alloc _).alloc _) 3 (by decide)) ?_
   rfl
  ·refine Eq.trans (World.ownsRow.cellAt (n:=1) (size:=5) (((((((((((litR w _ 1 5 _ _ rfl (by decide) rfl).alloc _).alloc _).alloc _).alloc _).alloc _).alloc _).alloc _).alloc _).alloc _).alloc _) 4 (by decide)) ?_
   rfl
  ·refine SlV.own ((((((((((litR _ _ 3 3 _ _ (by simp) (by decide) rfl).alloc _).alloc _).alloc _).alloc _).alloc _).alloc _).alloc _).alloc _).alloc _) fun i x hx=>?_
   match i,hx with
   |0,hx=>injection hx with hx;subst hx;exact ⟨_,rfl,rfl,fun j u hj=>by match j,hj with|0,hj=>exact hj|1,hj=>exact hj|2,hj=>exact hj⟩
   |1,hx=>injection hx with hx;subst hx;exact ⟨_,rfl,rfl,fun j u hj=>by match j,hj with|0,hj=>exact hj|1,hj=>exact hj|2,hj=>exact hj⟩
   |2,hx=>injection hx with hx;subst hx;exact ⟨_,rfl,rfl,fun j u hj=>by match j,hj with|0,hj=>exact hj|1,hj=>exact hj|2,hj=>exact hj⟩
  ·exact oneS (x:=E12.staffN) ((litR _ _ 1 1 _ _ (by simp) (by decide) rfl).alloc _)
  ·exact ent_two (((litR _ _ 2 2 _ _ (by simp) (by decide) rfl).alloc _).alloc _) (att_two ((((((litR _ _ 2 2 _ _ (by simp) (by decide) rfl).alloc _).alloc _).alloc _).alloc _).alloc _) ((((((((litR _ _ 1 1 _ _ (by simp) (by decide) rfl).alloc _).alloc _).alloc _).alloc _).alloc _).alloc _).alloc _) (((((((litR _ _ 1 1 _ _ (by simp) (by decide) rfl).alloc _).alloc _).alloc _).alloc _).alloc _).alloc _)) (att_one ((((litR _ _ 1 2 _ _ (by simp) (by decide) rfl).alloc _).alloc _).alloc _) (((((litR _ _ 1 1 _ _ (by simp) (by decide) rfl).alloc _).alloc _).alloc _).alloc _))
  ·exact oneS (x:=E8.cnN) (litR _ _ 1 1 _ _ (by simp) (by decide) rfl)
  ·repeat (first|with_reducible exact Below.refl _ _|with_reducible refine Below.lay ?_ _)
 ·rintro W ⟨⟨k0,k1,k2,k3,k4⟩,hS,hb⟩
  exact bodyPost_ret (by simp[results,Tryz.results79,go_sem,k0,k1,k2,k3,k4]) rfl ⟨_,rfl,hS,hb⟩
end
end Go.Proofs.YtbkkchhimhlhcaaGreatDoor
/- law12: program. -/
namespace Go.Proofs.YtbkkchhimhlhcaaGreatDoor
open Go.RowKit Go.Sort
open Idn (L B Bs drop_L take_L size_L)
section
variable {w w':World} {hs lo px:Nat} {s:Idn.Sch} {ns:List Bs} {ix:List IxE} {ta cb:Value} {eb vb:Nat} {gx:Bs→Value} {ts:List (Bs×Nat)} {G:Bs→Bs→Option Nat} {hs' lo' pt:Nat} {es:List IxE} {mb:Nat} {g:Bs→Value}
theorem IxV.tree (h:IxV w hs lo px s ns ix ta cb eb vb gx ts G) (ht:TrV w hs' lo' pt es mb g) (hm:Mv (·=mb) w w') (hb:mb<hs):IxV w' hs lo px s ns ix ta cb eb vb gx ts G:=
 h.mv hm fun k hk=>by
  have e:k=mb:=hk
  subst e
  exact ⟨fun e=>by have:=h.hsv;omega,fun hS=>by have:=h.lowS _ hS;omega,.inl ht.mapb⟩
theorem TrV.index (ht:TrV w hs' lo' pt es mb g) (h:IxV w hs lo px s ns ix ta cb eb vb gx ts G) (hm:Mv (IxS eb ts G) w w') (hb:mb<hs):TrV w' hs' lo' pt es mb g:=
 ht.mv hm fun k hk=>⟨fun e=>by have:=h.lowS _ hk;omega,.inl (h.allMap k hk)⟩
end
def RetPr (w:World) (d:Dat) (e:Ending) (w':World):Prop:=Below w.heap.size w w'∧
 (((trNew d.roots).1=0∧nwE d.sch d.idx=0∧∃lo pt mb g px,e=.returned (.tuple #[.pointer (some ⟨pt,0,none⟩),.pointer (some ⟨px,0,none⟩),.bool (putsOk (addsE d.ents (trNew d.roots).2) [])])∧TrV w' w.heap.size lo pt (addsE d.ents (trNew d.roots).2) mb g∧GdT (addsE d.ents (trNew d.roots).2)∧
  (putsOk (addsE d.ents (trNew d.roots).2) []=true→∃hs lo' ta cb eb vb gx ts G,IxV w' hs lo' px d.sch d.idx (addsE d.ents (trNew d.roots).2) ta cb eb vb gx ts G∧GdI d.sch d.idx (addsE d.ents (trNew d.roots).2)))∨
  (¬((trNew d.roots).1=0∧nwE d.sch d.idx=0)∧e=.returned (.tuple #[.pointer none,.pointer none,.bool false])))
theorem RetPr.no {w w':World} {d:Dat} (h:¬((trNew d.roots).1=0∧nwE d.sch d.idx=0)) (hb:Below w.heap.size w w'):RetPr w d (.returned (.tuple #[.pointer none,.pointer none,.bool false])) w':=⟨hb,.inr ⟨h,rfl⟩⟩
theorem program12_any {v : Value} {d : Dat} (w : World) (hD : DatV w w.heap.size v d) (hd : DSm d) (hssm : SSm d.sch) (hE : ∀ W, Below w.heap.size w W → Env W ∧ EnvU W) :
    Calls Tryz.prog 39 #[v] w (RetPr w d):=by
 obtain ⟨A1,c1,A2,c2,A3,c3,A4,c4,A5,c5,rfl,hS,hR,hV,hX⟩:=hD.shape
 have kT:=fun W (hW:Below w.heap.size w W)=>trNew_any _ d.roots W (SlV.mono (SlV.keep hR hW) hW.size) (by have:=hd.rt.1;omega) (fun x hx=>by have:=hd.rt.2 x hx;omega)
 have kI:=fun W (hW:Below w.heap.size w W)=>ixNew_any _ _ d.sch d.idx W (SchV.mono (SchV.keep hS hW) hW.size) hssm (by have:=hd.ty;omega) (by have:=hd.cl;omega) (fun c hc=>by have:=hd.ml c hc;omega) (SlV.mono (SlV.keep hX hW) hW.size) (by have:=hd.ix.1;omega) (fun x hx=>by have:=hd.ix.2 x hx;omega)
 have hno:∀W:World,¬((trNew d.roots).1=0∧nwE d.sch d.idx=0)→Below w.heap.size w W→RetPr w d (.returned (.tuple #[.pointer none,.pointer none,.bool false])) W:=fun W h1 h2=>RetPr.no h1 h2
 have hgd:(trNew d.roots).1=0→GdT (trNew d.roots).2:=fun h=>new_gd h fun x hx=>by have:=hd.rt.2 x hx;omega
 have hgi:=fun h=>nwE_zero (s:=d.sch) (ns:=d.idx) hssm h
 have hne:=hd.en
 have hel:=hd.el
 have HP:∀e W,RetPr w d e W↔(Below w.heap.size w W∧
  (((trNew d.roots).1=0∧nwE d.sch d.idx=0∧∃lo pt mb g px,e=.returned (.tuple #[.pointer (some ⟨pt,0,none⟩),.pointer (some ⟨px,0,none⟩),.bool (putsOk (addsE d.ents (trNew d.roots).2) [])])∧TrV W w.heap.size lo pt (addsE d.ents (trNew d.roots).2) mb g∧GdT (addsE d.ents (trNew d.roots).2)∧
  (putsOk (addsE d.ents (trNew d.roots).2) []=true→∃hs lo' ta cb eb vb gx ts G,IxV W hs lo' px d.sch d.idx (addsE d.ents (trNew d.roots).2) ta cb eb vb gx ts G∧GdI d.sch d.idx (addsE d.ents (trNew d.roots).2)))∨
   (¬((trNew d.roots).1=0∧nwE d.sch d.idx=0)∧e=.returned (.tuple #[.pointer none,.pointer none,.bool false])))):=fun e W=>Iff.rfl
 have HPh:=Lib.hid HP
 have HNh:=Lib.hid hno
 clear hS hR hX hd hno HP hD
 obtain ⟨s,roots,ents,idx⟩:=d
 dsimp only at *
 go_enter Tryz.func39,Tryz.ntmps39
 go_upto_region 1 with fail
 with_reducible refine gen1 (R:=fun W=>Code.wp Tryz.prog _ _ _ W) ?_
 intro W hbW hszW hc _
 have b0:W.cell? ⟨w.heap.size,0,none⟩=some (.slice A1 s.types.length c1):=hc 0 _ rfl
 have b1:W.cell? ⟨w.heap.size,1,none⟩=some (.slice A2 s.classes.length c2):=hc 1 _ rfl
 have b2:W.cell? ⟨w.heap.size,2,none⟩=some (.slice A3 roots.length c3):=hc 2 _ rfl
 have b3:W.cell? ⟨w.heap.size,3,none⟩=some (.slice A4 ents.length c4):=hc 3 _ rfl
 have b4:W.cell? ⟨w.heap.size,4,none⟩=some (.slice A5 idx.length c5):=hc 4 _ rfl
 clear hc
 have hwW:w.heap.size<W.heap.size:=by omega
 clear hszW
 generalize hnw:nwE s idx=ec at *
 have HNW:=Lib.hid hnw
 clear hnw
 generalize htn:trNew roots=tn at *
 have HTN:=Lib.hid htn
 obtain ⟨tr,es0⟩:=tn
 dsimp only at *
 have hTT:=kT W hbW
 unfold RetTN at hTT
 rw[htn]at hTT
 clear htn kT
 go_upto_region 2 with fail
 refine hTT.mono ?_
 rintro e w1 ⟨hb1,⟨hz,pt,mb,rfl,hT⟩|⟨hz,rfl⟩⟩
 case inr=>
  have hbw1:=hbW.trans (hb1.mono hbW.size)
  replace b0:=cell_later hb1 b0
  replace b1:=cell_later hb1 b1
  replace b4:=cell_later hb1 b4
  have hzI:(tr !=0)=true:=by simpa using hz
  have HX:Hid (¬(tr=0∧ec=0)):=fun h=>hz h.1
  clear hTT hz hgd hgi HPh HTN b2 b3 hb1
  go_upto_region 3 with fail
  refine (kI w1 hbw1).mono ?_
  rintro e w2 ⟨hb2,⟨hz2,px,eb,vb,hs,ta,cb,ts,rfl,_,_⟩|⟨hz2,rfl⟩⟩
  all_goals
   have hbw2:=hbw1.trans (hb2.mono hbw1.size)
   clear kI b0 b1 b4 hz2
   go_wp2_with fail
   refine bodyPost_ret (v:=.tuple #[.pointer none,.pointer none,.bool false]) (by simp[results,Tryz.results39,go_sem]) rfl ?_
   exact HNh.out _ HX.out hbw2
 subst hz
 have hG0:=hgd rfl
 have hT0:=hT 0 (Nat.zero_le _)
 have hbw1:=hbW.trans (hb1.mono hbW.size)
 replace b0:=cell_later hb1 b0
 replace b1:=cell_later hb1 b1
 replace b3:=cell_later hb1 b3
 replace b4:=cell_later hb1 b4
 clear hTT hgd hT b2
 go_upto_region 3 with fail
 refine (kI w1 hbw1).mono ?_
 rintro e w2 ⟨hb2,⟨hz2,px,eb,vb,hs,ta,cb,ts,rfl,hhs,hI⟩|⟨hz2,rfl⟩⟩
 case inr=>
  have hbw2:=hbw1.trans (hb2.mono hbw1.size)
  have hzI:(ec !=0)=true:=by simpa using hz2
  have HX:Hid (¬((0:Int)=0∧ec=0)):=fun h=>hz2 h.2
  clear kI b0 b1 b3 b4 hz2 hgi HPh HTN hT0 hG0
  go_wp2_with fail
  refine bodyPost_ret (v:=.tuple #[.pointer none,.pointer none,.bool false]) (by simp[results,Tryz.results39,go_sem]) rfl ?_
  exact HNh.out _ HX.out hbw2
 subst hz2
 have hGI0:=Lib.hid (hgi rfl)
 have hbw2:=hbw1.trans (hb2.mono hbw1.size)
 have hbW2:Below W.heap.size W w2:=hb1.trans (hb2.mono hb1.size)
 have hT2:=hT0.keep hb2
 have hmbh:mb<hs:=Nat.lt_of_lt_of_le hT0.lt hhs
 have hWh:W.heap.size≤hs:=Nat.le_trans hb1.size hhs
 have hbk2:∀V,Below W.heap.size W V→V.heap[w.heap.size]?=w2.heap[w.heap.size]?:=fun V hV=>(hV.block _ hwW).trans (hbW2.block _ hwW).symm
 replace b3:=cell_later hb2 b3
 have HG0:=Lib.hid hG0
 clear kI b0 b1 b4 hgi hT0 hhs hb1 hb2 hbw1 hG0
 go_upto_region 5 with fail
 go_wp2_with fail
 go_loopw [43] (fun i wr=>∃(k:Nat) (g:Bs→Value),k≤ents.length∧i=.int .i64 k∧TrV wr W.heap.size 0 pt (addsE (ents.take k) es0) mb g∧IxV wr hs hs px s idx [] ta cb eb vb (fun _=>.map none) ts (fun _ _=>none)∧Hid (GdT (addsE (ents.take k) es0))∧Below W.heap.size W wr) (fun i _=>ents.length-(intOf i).toNat)
 case atStart=>exact ⟨0,noG,Nat.zero_le _,rfl,hT2,hI,HG0,hbW2⟩
 case round=>
  obtain ⟨k,g,hk,rfl,hTk,hIk,hGk,hbk⟩:=hrel
  clear hT2 hI hbW2
  replace b3:=(World.cell?_of_block (hbk2 wr hbk)).trans b3
  by_cases hlt:k<ents.length
  ·have hltI:(k:Int)<(ents.length:Int):=by omega
   have hbwk:Below w.heap.size w wr:=hbW.trans (hbk.mono hbW.size)
   obtain ⟨b,off,va,hAd,hbl,d0,d1,hva⟩:=EntsV.cell (EntsV.keep hV hbwk) hlt
   subst hAd
   obtain ⟨Av,cv,rfl,_⟩:=SlV.shape hva
   obtain ⟨hn3,hrc⟩:=hel _ (List.getElem_mem hlt)
   have hA:=trAdd_any hTk hGk.out ents[k].1 (by omega) _ ents[k].2 (AttsV.mono hva hbwk.size) hrc.sm
   have hst:(trAdd (addsE (ents.take k) es0) ents[k].1 ents[k].2).2=addsE (ents.take (k+1)) es0:=by
    rw[List.take_succ_eq_append_getElem hlt,adds_snoc]
   have hG9:Hid (GdT (addsE (ents.take (k+1)) es0)):=by
    have:=hGk.out.add (n:=ents[k].1) (A:=ents[k].2) (by omega) hrc
    rw[hst]at this
    exact this
   rw[hst]at hA
   generalize (trAdd (addsE (ents.take k) es0) ents[k].1 ents[k].2).1=r at *
   clear hst hva hrc hn3 hGk
   generalize ents[k]=x at *
   obtain ⟨xn,xa⟩:=x
   dsimp only at d0 d1 hA
   go_wp2_with (go_at_call 30;refine hA.mono ?_;rintro e w5 ⟨rfl,g5,hT5,hm5⟩)
   have hI5:=hIk.tree hTk hm5 hmbh
   have hb5:Below W.heap.size W w5:=hbk.trans (hm5.below (fun j hj=>by have e:j=mb:=hj;rw[e];exact hTk.hsm) hbk.size)
   go_roundw
   case rel=>exact ⟨k+1,g5,by omega,by go_num,hT5,hI5,hG9,hb5⟩
   case measure=>simp[intOf];omega
  ·have hltI:¬(k:Int)<(ents.length:Int):=by omega
   rw[List.take_of_length_le (by omega)]at hTk hGk
   have hSb:=trSub_any hTk hGk.out [] (by decide)
   rw[sub_all hGk.out.ok]at hSb
   have hSb':Calls Tryz.prog 40 #[.pointer (some ⟨pt,0,none⟩),.string ⟨#[]⟩] wr fun e w'=>∃v qs,e=.returned v∧EntRow w' wr.heap.size v qs∧qs.map (·.1)=addsE ents es0∧Below wr.heap.size wr w':=hSb
   generalize hES:addsE ents es0=es at *
   have HES:=Lib.hid hES
   clear hSb hES b3 hV hel
   go_upto_region 11 with (go_at_call 40;refine hSb'.mono ?_;rintro e w3 ⟨v3,ps,rfl,hrow,hps,hb3⟩;obtain ⟨A9,c9,hsh⟩:=own_shape hrow.1;subst hsh)
   have hT3:=hTk.keep hb3
   have hI3:=hIk.keep hb3
   have hbW3:=hbk.trans (hb3.mono hbk.size)
   have hpl:ps.length=es.length:=by rw[←hps,List.length_map]
   have hpl9:ps.length≤256:=by rw[hpl];exact hGk.out.len
   have HPS:=Lib.hid hps
   have HPL:=Lib.hid hpl
   have hrs:wr.heap.size≤w3.heap.size:=hb3.size
   clear hSb' hTk hIk hb3 hbk hps hpl
   go_wp2_with fail
   go_loopw [58] (fun i wi=>∃(k:Nat) (gx:Bs→Value) (G:Bs→Bs→Option Nat),k≤ps.length∧i=.int .i64 k∧TrV wi W.heap.size 0 pt es mb g∧IxV wi hs hs px s idx (es.take k) ta cb eb vb gx ts G∧EntRow wi wr.heap.size (.slice A9 ps.length c9) ps∧Hid (GdI s idx (es.take k))∧Below W.heap.size W wi∧Hid (putsOk es []=putsOk (es.drop k) (es.take k))) (fun i _=>ps.length-(intOf i).toNat)
   case atStart=>exact ⟨0,_,_,Nat.zero_le _,rfl,hT3,hI3,hrow,hGI0,hbW3,rfl⟩
   case round=>
    rename World=>wi
    obtain ⟨m,gx,Gx,hm,rfl,hTm,hIm,hrm,hGm,hbm,hinv⟩:=hrel
    clear hT3 hI3 hrow hbW3
    by_cases hlt5:m<ps.length
    ·have hltI5:(m:Int)<(ps.length:Int):=by omega
     have hltS:m<es.length:=by rw[←HPL.out];exact hlt5
     obtain ⟨g9,hA1,hcell⟩:=own_open hrm.1 (by omega)
     subst hA1
     obtain ⟨rx0,rx1⟩:=rowEn_at ps m _ (List.getElem?_eq_getElem hlt5)
     have d0:=hcell _ _ rx0
     have d1:=hcell _ _ rx1
     obtain ⟨pz,hox,hoz⟩:=hrm.2 _ (List.getElem_mem hlt5)
     have hSk:es[m]=ps[m].1:=by
      have h1:(ps.map (·.1))[m]?=es[m]?:=by rw[HPS.out]
      rw[List.getElem?_map,List.getElem?_eq_getElem hlt5,List.getElem?_eq_getElem hltS]at h1
      exact (Option.some.inj h1).symm
     have hat:=hox.atts hoz
     have hnm:=hGk.out.nam _ (List.getElem_mem hltS)
     have hsm:=hGk.out.sm (List.getElem_mem hltS)
     have hdr:es.drop m=es[m] :: es.drop (m+1):=List.drop_eq_getElem_cons hltS
     have hpn:=put_next hGk.out hltS
     have htl:(es.take m).length<256:=by rw[List.length_take];have:=hGk.out.len;omega
     have hinv2:=hinv.out
     rw[hdr,putsOk]at hinv2
     clear hcell rx0 rx1 hdr hinv hoz
     rw[hSk]at hnm hsm hpn hinv2
     generalize ps[m]=px' at *
     obtain ⟨⟨xn,xa⟩,xu⟩:=px'
     obtain ⟨Ax,cx,hxu⟩:=own_shape hox.1
     dsimp only at d0 d1 hxu hnm hsm hpn hat hinv2
     subst hxu
     unfold sv at d0
     have hP:=put11_any hIm hGm.out htl hWh W hbm (fun V hV=>hE V (hbW.trans (hV.mono hbW.size))) xn hnm _ xa hat hsm
     clear hox hat hSk
     generalize hrr:ixPut (es.take m) xn xa=rr at *
     obtain ⟨ri,re⟩:=rr
     dsimp only at hP hpn hinv2
     clear hrr
     go_wp2_with fail
     refine hP.mono ?_
     rintro e w6 ⟨rfl,g6,G6,hI6,hG6,hm6,_,hb6,_⟩
     have hT6:=hTm.index hIm hm6 hmbh
     have hr6:=hrm.mvM hm6 fun k hk=>.inr (hIm.allMap k hk)
     by_cases h0:ri=0
     ·subst h0
      have hre:=hpn rfl
      subst hre
      have HX:Hid (putsOk es []=putsOk (es.drop (m+1)) (es.take (m+1))):=by show _=_;rw[hinv2];rfl
      have HG6:=Lib.hid hG6
      clear hpn hinv2 hG6 hP hTm hIm hm6
      go_wp2_with fail
      go_roundw
      case rel=>exact ⟨m+1,g6,G6,by omega,by go_num,hT6,hI6,hr6,HG6,hb6,HX⟩
      case measure=>simp[intOf];omega
     ·have h0I:(ri !=0)=true:=by simpa using h0
      have HX:Hid (putsOk es []=false):=by
       show _=_
       rw[hinv2,beq_eq_false_iff_ne.2 h0];rfl
      have HY:Hid (RetPr w ⟨s,roots,ents,idx⟩ (.returned (.tuple #[.pointer (some ⟨pt,0,none⟩),.pointer (some ⟨px,0,none⟩),.bool false])) w6):=by
       refine (HPh.out _ _).2 ⟨hbW.trans (hb6.mono hbW.size),.inl ⟨by trivial,by trivial,0,pt,mb,g,px,?_,?_,?_,fun h=>?_⟩⟩
       ·first|rw[HES.out,HX.out]|rw[HX.out]
       ·first|(rw[HES.out];exact { hT6 with hsz:=Nat.le_trans hbW.size hT6.hsz,hsp:=Nat.le_trans hbW.size hT6.hsp,hsm:=Nat.le_trans hbW.size hT6.hsm })|exact { hT6 with hsz:=Nat.le_trans hbW.size hT6.hsz,hsp:=Nat.le_trans hbW.size hT6.hsp,hsm:=Nat.le_trans hbW.size hT6.hsm }
       ·first|(rw[HES.out];exact hGk.out)|exact hGk.out
       ·first|(rw[HES.out,HX.out]at h;cases h)|(rw[HX.out]at h;cases h)
      clear hpn hinv2 hG6 hP hTm hIm hm6 hT6 hI6 hr6 HX h0
      go_wp2_with fail
      refine bodyPost_ret (v:=.tuple #[.pointer (some ⟨pt,0,none⟩),.pointer (some ⟨px,0,none⟩),.bool false]) (by simp[results,Tryz.results39,go_sem]) rfl ?_
      exact HY.out
    ·have hltI5:¬(m:Int)<(ps.length:Int):=by omega
     have hml:es.length≤m:=by rw[←HPL.out];omega
     have hX:putsOk es []=true:=by rw[hinv.out,List.drop_eq_nil_of_le hml];rfl
     rw[List.take_of_length_le hml]at hIm hGm
     have HY:Hid (RetPr w ⟨s,roots,ents,idx⟩ (.returned (.tuple #[.pointer (some ⟨pt,0,none⟩),.pointer (some ⟨px,0,none⟩),.bool true])) wi):=by
      refine (HPh.out _ _).2 ⟨hbW.trans (hbm.mono hbW.size),.inl ⟨by trivial,by trivial,0,pt,mb,g,px,?_,?_,?_,fun _=>?_⟩⟩
      ·first|rw[HES.out,hX]|rw[hX]
      ·first|(rw[HES.out];exact { hTm with hsz:=Nat.le_trans hbW.size hTm.hsz,hsp:=Nat.le_trans hbW.size hTm.hsp,hsm:=Nat.le_trans hbW.size hTm.hsm })|exact { hTm with hsz:=Nat.le_trans hbW.size hTm.hsz,hsp:=Nat.le_trans hbW.size hTm.hsp,hsm:=Nat.le_trans hbW.size hTm.hsm }
      ·first|(rw[HES.out];exact hGk.out)|exact hGk.out
      ·first|(rw[HES.out];exact ⟨_,_,_,_,_,_,_,_,_,hIm,hGm.out⟩)|exact ⟨_,_,_,_,_,_,_,_,_,hIm,hGm.out⟩
     clear hinv hX hIm hGm hTm hrm
     go_wp2_with fail
     refine bodyPost_ret (v:=.tuple #[.pointer (some ⟨pt,0,none⟩),.pointer (some ⟨px,0,none⟩),.bool true]) (by simp[results,Tryz.results39,go_sem]) rfl ?_
     exact HY.out
end Go.Proofs.YtbkkchhimhlhcaaGreatDoor
/- search: Check, Within. -/
namespace Go.Proofs.YtbkkchhimhlhcaaGreatDoor
open Go.RowKit Go.Sort
open Idn (L B Bs drop_L take_L size_L)
theorem all_takeS {p:Bs→Bool} {l:List Bs} {k:Nat} (h:(l.take k).all p=true) (hk:k<l.length) (hp:p l[k]=true):(l.take (k+1)).all p=true:=by
 rw[List.take_succ_eq_append_getElem hk,List.all_append,h]
 simp[hp]
theorem all_no {p:Bs→Bool} {l:List Bs} {k:Nat} (hk:k<l.length) (hp:p l[k]=false):l.all p=false:=by
 rw[List.all_eq_false]
 exact ⟨l[k],List.getElem_mem hk,by rw[hp];decide⟩
section
variable {w:World} {d:Nat} {v:Value} {q:Qry}
theorem seCheck_any (hq : QryV w w.heap.size d v q) (hs : QSm q) :
  Calls Tryz.prog 23 #[v] w fun e w'=>e=.returned (.int .i64 (qChk q))∧Below w.heap.size w w':=by
 obtain ⟨Ap,cp,Ak,ck,An,cn,rfl,hF,hN⟩:=hq.shape
 have hVn:=fun W=>nm_valid_any (B q.base) W (by have:=hs.base;rw[Idn.size_B];omega)
 have hCk:=fun W (hW:Below w.heap.size w W)=>fCheck_any d _ q.flt W (hF.on hW) hs.flt
 have hNm:=fun (k:Nat) (hk:k<q.names.length) W=>name_any (B q.names[k]) W (by have:=hs.nam _ (List.getElem_mem hk);rw[Idn.size_B];omega)
 have hnl:=hs.len
 simp only[Idn.L_B]at hVn hNm
 have HR:Hid (qChk q=if !validN q.base then 5 else if q.scope<1∨3<q.scope then 2 else if fCheck q.flt≠0 then fCheck q.flt else if 32<q.names.length then 3 else if !q.names.all Idn.name then 5 else if q.limit<1∨256<q.limit then 27 else 0):=rfl
 generalize qChk q=r at *
 clear hs hq
 obtain ⟨base,scope,flt,names,limit⟩:=q
 dsimp only at *
 go_enter Tryz.func23,Tryz.ntmps23
 go_upto_region 1 with fail
 with_reducible refine gen1 (R:=fun W=>Code.wp Tryz.prog _ _ _ W) ?_
 intro W hbW hszW hc _
 have b0:W.cell? ⟨w.heap.size,0,none⟩=some (.string (B base)):=hc 0 _ rfl
 have b1:W.cell? ⟨w.heap.size,1,none⟩=some (.int .i64 scope):=hc 1 _ rfl
 have b2:W.cell? ⟨w.heap.size,2,none⟩=some (.int .i64 flt.kind):=hc 2 _ rfl
 have b3:W.cell? ⟨w.heap.size,3,none⟩=some (.string (B flt.name)):=hc 3 _ rfl
 have b4:W.cell? ⟨w.heap.size,4,none⟩=some (.string (B flt.value)):=hc 4 _ rfl
 have b5:W.cell? ⟨w.heap.size,5,none⟩=some (.slice Ap flt.parts.length cp):=hc 5 _ rfl
 have b6:W.cell? ⟨w.heap.size,6,none⟩=some (.slice Ak flt.kids.length ck):=hc 6 _ rfl
 have b7:W.cell? ⟨w.heap.size,7,none⟩=some (.slice An names.length cn):=hc 7 _ rfl
 have b8:W.cell? ⟨w.heap.size,8,none⟩=some (.int .i64 limit):=hc 8 _ rfl
 clear hc hszW hF
 cases hv:validN base
 case false=>
  have HF:Hid (r=5):=by show _=_;rw[HR.out,hv];rfl
  rw[hv]at hVn
  clear HR hCk hNm hN
  go_wp2_with (go_at_call 58;refine (hVn _).mono ?_;rintro e w1 ⟨rfl,hb1⟩)
  go_ret
  exact ⟨ret_int HF.out.symm,hbW.trans (hb1.mono hbW.size)⟩
 rw[hv]at hVn
 have HR1:Hid (r=if scope<1∨3<scope then 2 else if fCheck flt≠0 then fCheck flt else if 32<names.length then 3 else if !names.all Idn.name then 5 else if limit<1∨256<limit then 27 else 0):=by show _=_;rw[HR.out,hv];rfl
 clear HR hv
 go_upto_region 3 with (go_at_call 58;refine (hVn _).mono ?_;rintro e w1 ⟨rfl,hb1⟩)
 have hbw1:=hbW.trans (hb1.mono hbW.size)
 replace b1:=cell_later hb1 b1
 replace b2:=cell_later hb1 b2
 replace b3:=cell_later hb1 b3
 replace b4:=cell_later hb1 b4
 replace b5:=cell_later hb1 b5
 replace b6:=cell_later hb1 b6
 replace b7:=cell_later hb1 b7
 replace b8:=cell_later hb1 b8
 clear b0 hVn hb1 hbW
 by_cases h1:scope<1
 ·have HF:Hid (r=2):=by show _=_;rw[HR1.out,if_pos (.inl h1)]
  clear HR1 hCk hNm hN
  go_wp2
  go_ret
  exact ⟨ret_int HF.out.symm,hbw1⟩
 by_cases h2:3<scope
 ·have HF:Hid (r=2):=by show _=_;rw[HR1.out,if_pos (.inr h2)]
  clear HR1 hCk hNm hN
  go_wp2
  go_ret
  exact ⟨ret_int HF.out.symm,hbw1⟩
 have HR2:Hid (r=if fCheck flt≠0 then fCheck flt else if 32<names.length then 3 else if !names.all Idn.name then 5 else if limit<1∨256<limit then 27 else 0):=by show _=_;rw[HR1.out,if_neg (by omega)]
 clear HR1
 replace hCk:=hCk w1 hbw1
 generalize fCheck flt=fc at *
 go_upto_region 6 with (go_at_call 81;refine hCk.mono ?_;rintro e w2 ⟨rfl,hb2⟩)
 have hbw2:=hbw1.trans (hb2.mono hbw1.size)
 replace b7:=cell_later hb2 b7
 replace b8:=cell_later hb2 b8
 clear b1 b2 b3 b4 b5 b6 hCk hb2 hbw1
 by_cases h3:fc=0
 case neg=>
  have hI:(fc !=0)=true:=by simpa using h3
  have HF:Hid (r=fc):=by show _=_;rw[HR2.out,if_pos h3]
  clear HR2 hNm hN
  go_wp2
  go_ret
  exact ⟨ret_int HF.out.symm,hbw2⟩
 subst h3
 have HR3:Hid (r=if 32<names.length then 3 else if !names.all Idn.name then 5 else if limit<1∨256<limit then 27 else 0):=HR2.out
 clear HR2
 by_cases h4:32<names.length
 ·have hI:(32:Int)<(names.length:Int):=by omega
  have HF:Hid (r=3):=by show _=_;rw[HR3.out,if_pos h4]
  clear HR3 hNm hN
  go_wp2
  go_ret
  exact ⟨ret_int HF.out.symm,hbw2⟩
 have hI4:¬(32:Int)<(names.length:Int):=by omega
 have HR4:Hid (r=if !names.all Idn.name then 5 else if limit<1∨256<limit then 27 else 0):=by show _=_;rw[HR3.out,if_neg h4]
 clear HR3
 go_wp2_with fail
 go_loopw [31] (fun i wr=>∃k:Nat,k≤names.length∧i=.int .i64 k∧Below w2.heap.size w2 wr∧Hid ((names.take k).all Idn.name=true)) (fun i _=>names.length-(intOf i).toNat)
 case atStart=>exact ⟨0,Nat.zero_le _,rfl,Below.refl _ _,rfl⟩
 case round=>
  obtain ⟨k,hk,rfl,hb,hinv⟩:=hrel
  replace b8:=cell_later hb b8
  have hbw:=hbw2.trans (hb.mono hbw2.size)
  by_cases hlt:k<names.length
  ·have hltI:(k:Int)<(names.length:Int):=by omega
   obtain ⟨b,off,rfl,_,c0⟩:=StrsV.cell (SlV.keep hN hbw) hlt
   have hC:=hNm k hlt wr
   cases hnm:Idn.name names[k]
   ·have HF:Hid (r=5):=by show _=_;rw[HR4.out,all_no hlt hnm];rfl
    rw[hnm]at hC
    clear hinv hNm hnm HR4
    go_wp2_with (go_at_call 82;refine hC.mono ?_;rintro e w3 ⟨rfl,rfl⟩)
    go_ret
    exact ⟨ret_int HF.out.symm,hbw⟩
   ·have HF:=Lib.hid (all_takeS hinv.out hlt hnm)
    rw[hnm]at hC
    clear hinv hNm hnm HR4
    go_wp2_with (go_at_call 82;refine hC.mono ?_;rintro e w3 ⟨rfl,rfl⟩)
    go_roundw
    case rel=>exact ⟨k+1,by omega,by go_num,hb,HF⟩
    case measure=>simp[intOf];omega
  ·have hltI:¬(k:Int)<(names.length:Int):=by omega
   have hall:names.all Idn.name=true:=by
    have:=hinv.out
    rwa[List.take_of_length_le (by omega)]at this
   have HR5:Hid (r=if limit<1∨256<limit then 27 else 0):=by show _=_;rw[HR4.out,hall];rfl
   clear hinv HR4 hall hNm hN
   by_cases h5:limit<1
   ·have HF:Hid (r=27):=by show _=_;rw[HR5.out,if_pos (.inl h5)]
    clear HR5
    go_wp2
    go_ret
    exact ⟨ret_int HF.out.symm,hbw⟩
   by_cases h6:256<limit
   ·have HF:Hid (r=27):=by show _=_;rw[HR5.out,if_pos (.inr h6)]
    clear HR5
    go_wp2
    go_ret
    exact ⟨ret_int HF.out.symm,hbw⟩
   have HF:Hid (r=0):=by show _=_;rw[HR5.out,if_neg (by omega)]
   clear HR5
   go_wp2
   go_ret
   exact ⟨ret_int HF.out.symm,hbw⟩
theorem seIn_any (hq : QryV w w.heap.size d v q) (hb0 : q.base.length ≤ 1000000) (n : Bs) (hn : n.length ≤ 1000000) :
    Calls Tryz.prog 25 #[v,.string (B n)] w fun e w'=>e=.returned (.bool (qIn q n))∧Below w.heap.size w w':=by
 obtain ⟨Ap,cp,Ak,ck,An,cn,rfl,_,_⟩:=hq.shape
 have hVb:=fun W=>nm_valid_any (B q.base) W (by rw[Idn.size_B];omega)
 have hVn:=fun W=>nm_valid_any (B n) W (by rw[Idn.size_B];omega)
 have hPn:=fun W=>nm_parent_any (B n) W (by rw[Idn.size_B];omega)
 have hUn:=fun W=>nm_under_any (B n) (B q.base) W (by rw[Idn.size_B];omega) (by rw[Idn.size_B];omega)
 simp only[Idn.L_B]at hVb hVn hPn hUn
 have HR:Hid (qIn q n=(validN q.base&&(validN n&&(if q.scope=1 then n==q.base else if q.scope=2 then (nmPar n).2&&(nmPar n).1==q.base else if q.scope=3 then nmUnd n q.base else false)))):=rfl
 generalize qIn q n=r at *
 clear hq
 obtain ⟨base,scope,flt,names,limit⟩:=q
 dsimp only at *
 have ht:((B n).toList==(B base).toList)=(n==base):=by rw[toList_L,toList_L,Idn.L_B,Idn.L_B]
 have ht2:((B (nmPar n).1).toList==(B base).toList)=((nmPar n).1==base):=by rw[toList_L,toList_L,Idn.L_B,Idn.L_B]
 generalize validN base=vb at *
 generalize validN n=vn at *
 generalize nmUnd n base=un at *
 generalize nmPar n=pp at *
 obtain ⟨pn,pd⟩:=pp
 dsimp only at *
 generalize (n==base)=e1 at *
 generalize (pn==base)=e2 at *
 go_enter Tryz.func25,Tryz.ntmps25
 go_upto_region 1 with fail
 with_reducible refine gen1 (R:=fun W=>Code.wp Tryz.prog _ _ _ W) ?_
 intro W hbW hszW hc _
 have b0:W.cell? ⟨w.heap.size,0,none⟩=some (.string (B base)):=hc 0 _ rfl
 have b1:W.cell? ⟨w.heap.size,1,none⟩=some (.int .i64 scope):=hc 1 _ rfl
 clear hc hszW
 cases vn
 ·have HF:Hid (r=false):=by show _=_;rw[HR.out];simp
  clear HR hVb hPn hUn
  go_wp2_with (go_at_call 58;with_reducible refine (hVn _).mono ?_;rintro e w1 ⟨rfl,hb1⟩)
  go_ret
  exact ⟨ret_bool HF.out.symm,hbW.trans (hb1.mono hbW.size)⟩
 cases vb
 ·have HF:Hid (r=false):=by show _=_;rw[HR.out];simp
  clear HR hPn hUn
  go_wp2_with (first
   |(go_at_call 58;with_reducible refine (hVn _).mono ?_;rintro e w1 ⟨rfl,hb1⟩;replace b0:=cell_later hb1 b0;replace b1:=cell_later hb1 b1)
   |(go_at_call 58;with_reducible refine (hVb _).mono ?_;rintro e w2 ⟨rfl,hb2⟩))
  go_ret
  exact ⟨ret_bool HF.out.symm,(hbW.trans (hb1.mono hbW.size)).trans (hb2.mono (hbW.trans (hb1.mono hbW.size)).size)⟩
 have HR1:Hid (r=if scope=1 then e1 else if scope=2 then pd&&e2 else if scope=3 then un else false):=by show _=_;rw[HR.out];rfl
 clear HR
 go_upto_region 3 with (first
  |(go_at_call 58;with_reducible refine (hVn _).mono ?_;rintro e w1 ⟨rfl,hb1⟩;replace b0:=cell_later hb1 b0;replace b1:=cell_later hb1 b1)
  |(go_at_call 58;with_reducible refine (hVb _).mono ?_;rintro e w2 ⟨rfl,hb2⟩))
 have hbw1:=hbW.trans (hb1.mono hbW.size)
 have hbw:=hbw1.trans (hb2.mono hbw1.size)
 replace b0:=cell_later hb2 b0
 replace b1:=cell_later hb2 b1
 clear hVn hVb hb1 hb2 hbw1 hbW
 by_cases h1:scope=1
 ·subst h1
  have HF:Hid (r=e1):=HR1.out
  clear HR1 hPn hUn
  go_wp2
  go_ret
  exact ⟨ret_bool HF.out.symm,hbw⟩
 by_cases h2:scope=2
 ·subst h2
  have HF:Hid (r=(pd&&e2)):=HR1.out
  clear HR1 hUn
  cases pd
  ·go_wp2_with (go_at_call 85;refine (hPn _).mono ?_;rintro e w3 ⟨rfl,hb3⟩)
   go_ret
   exact ⟨ret_bool (by rw[HF.out];rfl),hbw.trans (hb3.mono hbw.size)⟩
  ·go_wp2_with (go_at_call 85;refine (hPn _).mono ?_;rintro e w3 ⟨rfl,hb3⟩;replace b0:=cell_later hb3 b0)
   go_ret
   exact ⟨ret_bool (by rw[HF.out];rfl),hbw.trans (hb3.mono hbw.size)⟩
 by_cases h3:scope=3
 ·subst h3
  have HF:Hid (r=un):=HR1.out
  clear HR1 hPn
  go_wp2_with (go_at_call 86;refine (hUn _).mono ?_;rintro e w3 ⟨rfl,hb3⟩)
  go_ret
  exact ⟨ret_bool HF.out.symm,hbw.trans (hb3.mono hbw.size)⟩
 have HF:Hid (r=false):=by show _=_;rw[HR1.out,if_neg h1,if_neg h2,if_neg h3]
 clear HR1 hPn hUn
 go_wp2
 go_ret
 exact ⟨ret_bool HF.out.symm,hbw⟩
end
end Go.Proofs.YtbkkchhimhlhcaaGreatDoor
/- search: begin, scope, found, Scan. -/
namespace Go.Proofs.YtbkkchhimhlhcaaGreatDoor
open Go.RowKit Go.Sort
open Idn (L B Bs drop_L take_L size_L)
def RetQ (w:World) (r:List IxE×Int) (e:Ending) (w':World):Prop:=∃v qs,e=.returned (.tuple #[v,.int .i64 r.2])∧EntRow w' w.heap.size v qs∧qs.map (·.1)=r.1∧Below w.heap.size w w'
theorem RetQ.no {w w':World} {r:Int} (h:Below w.heap.size w w'):RetQ w ([],r) (.returned (.tuple #[.slice none 0 0,.int .i64 r])) w':=⟨_,[],rfl,EntRow.nil _ _,rfl,h⟩
theorem RetQ.up {w W w':World} {r:List IxE×Int} {e:Ending} (h:RetQ W r e w') (hb:Below w.heap.size w W):RetQ w r e w':=by
 obtain ⟨v,qs,h1,h2,h3,h4⟩:=h
 exact ⟨v,qs,h1,h2.low hb.size,h3,hb.trans (h4.mono hb.size)⟩
def RetEs (w:World) (l:List IxE) (e:Ending) (w':World):Prop:=∃k c qs,e=.returned (.slice k l.length c)∧EntRow w' w.heap.size (.slice k l.length c) qs∧qs.map (·.1)=l∧Below w.heap.size w w'
theorem EntRow.val {w:World} {base:Nat} {v:Value} {qs:List (EntP×Value)} {l:List IxE} (h:EntRow w base v qs) (hl:qs.map (·.1)=l):∃k c,v=.slice k l.length c:=by
 obtain ⟨k,c,e⟩:=own_shape h.1
 exact ⟨k,c,by rw[e,←hl,List.length_map]⟩
section
variable {w:World} {hs lo pt:Nat} {es:List IxE} {mb:Nat} {g:Bs→Value} {d:Nat} {v:Value} {q:Qry}
theorem seFirst_any (hT : TrV w hs lo pt es mb g) (hG : GdT es) (hq : QryV w w.heap.size d v q) (hsm : QSm q) :
    Calls Tryz.prog 96 #[.pointer (some ⟨pt,0,none⟩),v] w fun e w'=>e=.returned (.int .i64 (qFirst es q))∧Below w.heap.size w w':=by
 have hD:=fun W (hW:Below w.heap.size w W)=>trDelB_any (hT.keep hW) hG
 have hC:=fun W (hW:Below w.heap.size w W)=>seCheck_any (hq.on hW) hsm
 have hGt:=fun W (hW:Below w.heap.size w W)=>trGet_any (hT.keep hW) hG q.base hsm.base
 obtain ⟨Ap,cp,Ak,ck,An,cn,rfl,_,_⟩:=hq.shape
 have HR:Hid (qFirst es q=if qChk q≠0 then qChk q else if hasE es q.base then 0 else 6):=rfl
 generalize qFirst es q=r at *
 generalize qChk q=qc at *
 generalize hh:hasE es q.base=hb at *
 clear hq hh hT
 obtain ⟨base,scope,flt,names,limit⟩:=q
 dsimp only at *
 go_enter Tryz.func96,Tryz.ntmps96
 go_upto_region 1 with fail
 with_reducible refine gen1 (R:=fun W=>Code.wp Tryz.prog _ _ _ W) ?_
 intro W hbW hszW hc _
 have b0:W.cell? ⟨w.heap.size,0,none⟩=some (.string (B base)):=hc 0 _ rfl
 have b1:W.cell? ⟨w.heap.size,1,none⟩=some (.int .i64 scope):=hc 1 _ rfl
 have b2:W.cell? ⟨w.heap.size,2,none⟩=some (.int .i64 flt.kind):=hc 2 _ rfl
 have b3:W.cell? ⟨w.heap.size,3,none⟩=some (.string (B flt.name)):=hc 3 _ rfl
 have b4:W.cell? ⟨w.heap.size,4,none⟩=some (.string (B flt.value)):=hc 4 _ rfl
 have b5:W.cell? ⟨w.heap.size,5,none⟩=some (.slice Ap flt.parts.length cp):=hc 5 _ rfl
 have b6:W.cell? ⟨w.heap.size,6,none⟩=some (.slice Ak flt.kids.length ck):=hc 6 _ rfl
 have b7:W.cell? ⟨w.heap.size,7,none⟩=some (.slice An names.length cn):=hc 7 _ rfl
 have b8:W.cell? ⟨w.heap.size,8,none⟩=some (.int .i64 limit):=hc 8 _ rfl
 clear hc hszW
 go_upto_region 4 with (first
  |(go_at_call 172;refine (hD _ hbW).mono ?_;rintro e w1 ⟨rfl,rfl⟩)
  |(go_at_call 23;refine (hC _ hbW).mono ?_;rintro e w2 ⟨rfl,hb2⟩))
 have hbw2:=hbW.trans (hb2.mono hbW.size)
 replace b0:=cell_later hb2 b0
 clear b1 b2 b3 b4 b5 b6 b7 b8 hC hD
 by_cases h0:qc=0
 case neg=>
  have hI:(qc !=0)=true:=by simpa using h0
  have HF:Hid (r=qc):=by show _=_;rw[HR.out,if_pos h0]
  clear HR
  go_wp2
  go_ret
  exact ⟨ret_int HF.out.symm,hbw2⟩
 subst h0
 have HR1:Hid (r=if hb then 0 else 6):=HR.out
 clear HR
 replace hGt:=hGt w2 hbw2
 cases hb
 ·have HF:Hid (r=6):=HR1.out
  go_wp2_with (go_at_call 173;refine hGt.mono ?_;rintro e w3 ⟨s3,k3,l3,c3,rfl,hb3⟩)
  go_ret
  exact ⟨ret_int HF.out.symm,Below.lay (hbw2.trans (hb3.mono hbw2.size)) _⟩
 ·have HF:Hid (r=0):=HR1.out
  go_wp2_with (go_at_call 173;refine hGt.mono ?_;rintro e w3 ⟨s3,k3,l3,c3,rfl,hb3⟩)
  go_ret
  exact ⟨ret_int HF.out.symm,Below.lay (hbw2.trans (hb3.mono hbw2.size)) _⟩
theorem seScope_any (hT : TrV w hs lo pt es mb g) (hG : GdT es) (hq : QryV w w.heap.size d v q) (hsm : QSm q) :
  Calls Tryz.prog 98 #[.pointer (some ⟨pt,0,none⟩),v] w (RetEs w ((trSub es q.base).filter fun e=>qIn q e.1)):=by
 have hSb:=fun W (hW:Below w.heap.size w W)=>trSub_any (hT.keep hW) hG q.base hsm.base
 have hIn:=fun (n:Bs) (hn:n.length≤1000000) W (hW:Below w.heap.size w W)=>seIn_any (hq.on hW) hsm.base n hn
 have hsl:(trSub es q.base).length≤256:=by
  unfold trSub
  split
  ·exact Nat.zero_le _
  ·exact Nat.le_trans (List.length_filter_le _ _) hG.len
 have hnm:∀e∈trSub es q.base,e.1.length≤1000000:=fun e he=>by
  unfold trSub at he
  split at he
  ·cases he
  ·exact hG.nam e (List.mem_filter.1 he).1
 obtain ⟨Ap,cp,Ak,ck,An,cn,rfl,_,_⟩:=hq.shape
 generalize trSub es q.base=S at *
 obtain ⟨M,hM⟩:∃M:Bs→Bool,M=fun n=>qIn q n:=⟨_,rfl⟩
 have hMn:=fun n=>(congrFun hM n).symm
 have hres:(S.filter fun e=>qIn q e.1)=S.filter fun e=>M e.1:=by rw[hM]
 rw[hres]
 simp only[hMn]at hIn
 clear hq hsm hT hM hMn hres
 obtain ⟨base,scope,flt,names,limit⟩:=q
 dsimp only at *
 go_enter Tryz.func98,Tryz.ntmps98
 go_upto_region 2 with fail
 with_reducible refine gen1 (R:=fun W=>Code.wp Tryz.prog _ _ _ W) ?_
 intro W hbW hszW hc _
 have b0:W.cell? ⟨w.heap.size,0,none⟩=some (.string (B base)):=hc 0 _ rfl
 have b1:W.cell? ⟨w.heap.size,1,none⟩=some (.int .i64 scope):=hc 1 _ rfl
 have b2:W.cell? ⟨w.heap.size,2,none⟩=some (.int .i64 flt.kind):=hc 2 _ rfl
 have b3:W.cell? ⟨w.heap.size,3,none⟩=some (.string (B flt.name)):=hc 3 _ rfl
 have b4:W.cell? ⟨w.heap.size,4,none⟩=some (.string (B flt.value)):=hc 4 _ rfl
 have b5:W.cell? ⟨w.heap.size,5,none⟩=some (.slice Ap flt.parts.length cp):=hc 5 _ rfl
 have b6:W.cell? ⟨w.heap.size,6,none⟩=some (.slice Ak flt.kids.length ck):=hc 6 _ rfl
 have b7:W.cell? ⟨w.heap.size,7,none⟩=some (.slice An names.length cn):=hc 7 _ rfl
 have b8:W.cell? ⟨w.heap.size,8,none⟩=some (.int .i64 limit):=hc 8 _ rfl
 clear hc hszW
 go_wp2_with (go_at_call 40;refine (hSb _ hbW).mono ?_;rintro e w1 ⟨v1,ps,rfl,hrow,hps,hb1⟩;obtain ⟨A1,c1,hv1⟩:=own_shape hrow.1;subst hv1)
 have hbw1:=hbW.trans (hb1.mono hbW.size)
 replace b0:=cell_later hb1 b0
 replace b1:=cell_later hb1 b1
 replace b2:=cell_later hb1 b2
 replace b3:=cell_later hb1 b3
 replace b4:=cell_later hb1 b4
 replace b5:=cell_later hb1 b5
 replace b6:=cell_later hb1 b6
 replace b7:=cell_later hb1 b7
 replace b8:=cell_later hb1 b8
 have hpl:ps.length=S.length:=by rw[←hps,List.length_map]
 have hpl9:ps.length≤256:=by omega
 have HPS:=Lib.hid hps
 clear hSb hpl hsl hps
 go_loopw [5,13] (fun o i wr=>∃(k:Nat) (qs:List (EntP×Value)),k≤ps.length∧i=.int .i64 k∧wr.ownsRow w1.heap.size 48 2 o qs.length (rowEn qs)∧Below w1.heap.size w1 wr∧Hid (qs=(ps.take k).filter fun p=>M p.1.1)∧qs.length≤k) (fun _ i _=>ps.length-(intOf i).toNat)
 case atStart=>exact ⟨0,[],Nat.zero_le _,rfl,World.ownsRow_nil _ _ _ _,Below.refl _ _,rfl,Nat.le_refl _⟩
 case round=>
  obtain ⟨k,qs,hk,rfl,hown,hb,hinv,hql⟩:=hrel
  obtain ⟨wo,hwo⟩:∃wo:World,wo=wr:=⟨_,rfl⟩
  subst hwo
  by_cases hlt:k<ps.length
  ·have hltI:(k:Int)<(ps.length:Int):=by omega
   obtain ⟨g9,hA1,hcell⟩:=own_open (own_below hrow.1 hb) (by omega)
   subst hA1
   obtain ⟨rx0,rx1⟩:=rowEn_at ps k _ (List.getElem?_eq_getElem hlt)
   have d0:=hcell _ _ rx0
   have d1:=hcell _ _ rx1
   have hstep:=filter_take8 (fun p:EntP×Value=>M p.1.1) ps k hlt
   obtain ⟨pz,hox,_⟩:=hrow.2 _ (List.getElem_mem hlt)
   have hxn:ps[k].1.1.length≤1000000:=hnm _ (by rw[←HPS.out];exact List.mem_map.2 ⟨_,List.getElem_mem hlt,rfl⟩)
   clear hcell rx0 rx1
   generalize ps[k]=px at *
   obtain ⟨⟨xn,xa⟩,xu⟩:=px
   obtain ⟨Ax,cx,hxu⟩:=own_shape hox.1
   dsimp only at d0 d1 hstep hxu hxn
   subst hxu
   unfold sv at d0
   replace b0:=cell_later hb b0
   replace b1:=cell_later hb b1
   replace b2:=cell_later hb b2
   replace b3:=cell_later hb b3
   replace b4:=cell_later hb b4
   replace b5:=cell_later hb b5
   replace b6:=cell_later hb b6
   replace b7:=cell_later hb b7
   replace b8:=cell_later hb b8
   go_upto_region 5 with fail
   with_reducible refine gen1 (R:=fun W=>Code.wp Tryz.prog _ _ _ W) ?_
   intro V hbV hszV hcV _
   have x0:V.cell? ⟨wo.heap.size,0,none⟩=some (.string (B xn)):=hcV 0 _ rfl
   have x1:V.cell? ⟨wo.heap.size,1,none⟩=some (.slice Ax pz.length cx):=hcV 1 _ rfl
   replace b0:=cell_later hbV b0
   replace b1:=cell_later hbV b1
   replace b2:=cell_later hbV b2
   replace b3:=cell_later hbV b3
   replace b4:=cell_later hbV b4
   replace b5:=cell_later hbV b5
   replace b6:=cell_later hbV b6
   replace b7:=cell_later hbV b7
   replace b8:=cell_later hbV b8
   have hbwV:Below w.heap.size w V:=hbw1.trans ((hb.trans (hbV.mono hb.size)).mono hbw1.size)
   have hP1:=hIn xn hxn V hbwV
   have hownV:=own_below hown hbV
   have hb1V:=hb.trans (hbV.mono hb.size)
   clear hcV hszV hIn hox hbwV d0 d1
   cases hw:M xn
   ·rw[hw]at hP1 hstep
    have HX:Hid (qs=(ps.take (k+1)).filter fun p=>M p.1.1):=by show _=_;rw[hstep,if_neg (by decide),List.append_nil,hinv.out]
    clear hstep hw hinv
    go_wp2_with (go_at_call 25;refine hP1.mono ?_;rintro e w5 ⟨rfl,hb5⟩)
    go_roundw
    case rel=>exact ⟨k+1,qs,by omega,by go_num,own_below hownV hb5,hb1V.trans (hb5.mono hb1V.size),HX,by omega⟩
    case measure=>simp[intOf];omega
   ·rw[hw]at hP1 hstep
    have HX:Hid (qs++[((xn,xa),.slice Ax pz.length cx)]=(ps.take (k+1)).filter fun p=>M p.1.1):=by show _=_;rw[hstep,if_pos rfl,hinv.out]
    clear hstep hw hinv
    go_upto_region 6 with (go_at_call 25;refine hP1.mono ?_;rintro e w5 ⟨rfl,hb5⟩)
    replace x0:=cell_later hb5 x0
    replace x1:=cell_later hb5 x1
    have hown5:=own_below hownV hb5
    have hb15:=hb1V.trans (hb5.mono hb1V.size)
    clear hownV hown hP1
    go_wp2_with (at_builtin;refine wpList_push w5 rfl _ _ 27 rfl w1.heap.size 48 (.agg #[.string ⟨#[]⟩,.slice none 0 0]) 2 40 Tryz.underlying27 info_ent rfl (by decide) _ qs.length _ hown5 rfl [.string (B xn),.slice Ax pz.length cx] rfl rfl (by intro u hu;simp at hu;rcases hu with rfl|rfl<;>rfl) (by omega) hb15.size ?_ rfl)
    intro v9 w9 hown9 _ _ hb9 _
    clear hown5
    go_wp2
    go_roundw
    case rel=>exact ⟨k+1,qs++[((xn,xa),.slice Ax pz.length cx)],by omega,by go_num,by rw[List.length_append,rowEn_app];exact hown9,hb15.trans hb9,HX,by rw[List.length_append];simp;omega⟩
    case measure=>simp[intOf];omega
  ·have hltI:¬(k:Int)<(ps.length:Int):=by omega
   have hqs:qs=ps.filter fun p=>M p.1.1:=by rw[hinv.out,List.take_of_length_le (by omega)]
   have hfin:qs.map (·.1)=S.filter fun e=>M e.1:=by
    rw[←HPS.out,hqs,List.filter_map];rfl
   have hrw:EntRow wo w.heap.size _ qs:=⟨own_base hown hbw1.size,fun p hp=>by
    rw[hqs]at hp
    obtain ⟨pz,h1,h2⟩:=hrow.2 p (List.mem_filter.1 hp).1
    exact ⟨pz,(h1.keep hb).low hbW.size,h2⟩⟩
   obtain ⟨ko,co,ho⟩:=hrw.val hfin
   subst ho
   have HX:Hid (RetEs w (S.filter fun e=>M e.1) (.returned (.slice ko (S.filter fun e=>M e.1).length co)) wo):=⟨ko,co,qs,rfl,hrw,hfin,hbw1.trans (hb.mono hbw1.size)⟩
   clear hinv hqs hfin hrw hIn hown
   go_wp2_with fail
   go_ret
   exact HX.out
theorem seFound_any (sv0 : Value) (s : Idn.Sch) (lv : Value) (l : List IxE) (hS : SchV w w.heap.size sv0 s) (hssm : SSm s) (hE : Env w) (hU : EnvU w) (hL : EntsV w w.heap.size lv l) (hll : l.length ≤ 256) (hget : ∀ e ∈ l, AGet e.2) (hq : QryV w w.heap.size d v q) (hsm : QSm q) :
    Calls Tryz.prog 97 #[sv0,lv,v] w (RetQ w (qRes s l q)):=by
 have kM:=fun (k:Nat) (hk:k<l.length) (nm:ByteArray) (av:Value) W (hW:Below w.heap.size w W) (hav:AttsV W W.heap.size av l[k].2) (fv:Value) (hf:FltV W W.heap.size d fv q.flt)=>fMatch_any d sv0 s fv q.flt nm av l[k].2 W (SchV.mono (SchV.keep hS hW) hW.size) hssm (hE.keep hW) (hU.keep hW) hav (hget _ (List.getElem_mem hk)) hf hsm.flt
 have kP:=fun (k:Nat) (hk:k<l.length) (av nv:Value) W (hav:AttsV W W.heap.size av l[k].2) (hn:StrsV W W.heap.size nv q.names)=>pick_any av l[k].2 nv q.names W hav (hget _ (List.getElem_mem hk)).1 hn hsm.len hsm.nam
 obtain ⟨Ap,cp,Ak,ck,An,cn,rfl,hF,hN⟩:=hq.shape
 obtain ⟨sa,sb,rfl,hTy,hCl⟩:=hS
 obtain ⟨A1,c1,rfl,_⟩:=SlV.shape hTy
 obtain ⟨A2,c2,rfl,_⟩:=SlV.shape hCl
 obtain ⟨A3,c3,rfl,_⟩:=SlV.shape hL
 have HR:Hid (qRes s l q=if q.limit<((l.filter fun e=>fMatch s e.2 q.flt).length:Int)then ([],3)else ((l.filter fun e=>fMatch s e.2 q.flt).map fun e=>(e.1,pickA e.2 q.names),0)):=rfl
 generalize qRes s l q=r at *
 obtain ⟨M,hM⟩:∃M:List Idn.Att→Bool,M=fun A=>fMatch s A q.flt:=⟨_,rfl⟩
 have hMn:=fun n=>(congrFun hM n).symm
 simp only[hMn]at HR kM
 clear hM hMn hq hsm hTy hCl
 obtain ⟨base,scope,flt,names,limit⟩:=q
 dsimp only at *
 go_enter Tryz.func97,Tryz.ntmps97
 go_upto_region 2 with fail
 with_reducible refine gen2 (R:=fun W=>Code.wp Tryz.prog _ _ _ W) ?_
 intro W hbW hszW hc1 hc
 have s0:W.cell? ⟨w.heap.size,0,none⟩=some (.slice A1 s.types.length c1):=hc1 0 _ rfl
 have s1:W.cell? ⟨w.heap.size,1,none⟩=some (.slice A2 s.classes.length c2):=hc1 1 _ rfl
 have b0:W.cell? ⟨w.heap.size+1,0,none⟩=some (.string (B base)):=hc 0 _ rfl
 have b1:W.cell? ⟨w.heap.size+1,1,none⟩=some (.int .i64 scope):=hc 1 _ rfl
 have b2:W.cell? ⟨w.heap.size+1,2,none⟩=some (.int .i64 flt.kind):=hc 2 _ rfl
 have b3:W.cell? ⟨w.heap.size+1,3,none⟩=some (.string (B flt.name)):=hc 3 _ rfl
 have b4:W.cell? ⟨w.heap.size+1,4,none⟩=some (.string (B flt.value)):=hc 4 _ rfl
 have b5:W.cell? ⟨w.heap.size+1,5,none⟩=some (.slice Ap flt.parts.length cp):=hc 5 _ rfl
 have b6:W.cell? ⟨w.heap.size+1,6,none⟩=some (.slice Ak flt.kids.length ck):=hc 6 _ rfl
 have b7:W.cell? ⟨w.heap.size+1,7,none⟩=some (.slice An names.length cn):=hc 7 _ rfl
 have b8:W.cell? ⟨w.heap.size+1,8,none⟩=some (.int .i64 limit):=hc 8 _ rfl
 clear hc hc1 hszW
 go_wp2_with fail
 go_loopw [8,13] (fun o i wr=>∃(k:Nat) (qs:List (EntP×Value)),k≤l.length∧i=.int .i64 k∧EntRow wr W.heap.size o qs∧Below W.heap.size W wr∧Hid (qs.map (·.1)=((l.take k).filter fun e=>M e.2).map fun e=>(e.1,pickA e.2 names))∧qs.length≤k) (fun _ i _=>l.length-(intOf i).toNat)
 case atStart=>exact ⟨0,[],Nat.zero_le _,rfl,EntRow.nil _ _,Below.refl _ _,rfl,Nat.le_refl _⟩
 case round=>
  obtain ⟨k,qs,hk,rfl,hrow,hb,hinv,hql⟩:=hrel
  obtain ⟨wo,hwo⟩:∃wo:World,wo=wr:=⟨_,rfl⟩
  subst hwo
  have hbwo:=hbW.trans (hb.mono hbW.size)
  replace s0:=cell_later hb s0
  replace s1:=cell_later hb s1
  replace b0:=cell_later hb b0
  replace b1:=cell_later hb b1
  replace b2:=cell_later hb b2
  replace b3:=cell_later hb b3
  replace b4:=cell_later hb b4
  replace b5:=cell_later hb b5
  replace b6:=cell_later hb b6
  replace b7:=cell_later hb b7
  replace b8:=cell_later hb b8
  by_cases hlt:k<l.length
  ·have hltI:(k:Int)<(l.length:Int):=by omega
   obtain ⟨b9,off,va,hA3,hbl,d0,d1,hva⟩:=EntsV.cell (EntsV.keep hL hbwo) hlt
   subst hA3
   obtain ⟨Ax,cx,rfl,_⟩:=SlV.shape hva
   have hM1:=kM k hlt
   have hP1:=kP k hlt
   have hstep:=filter_take8 (fun e:IxE=>M e.2) l k hlt
   have hvas:=AttsV.mono hva hbwo.size
   clear kM kP hva
   generalize l[k]=x at *
   obtain ⟨xn,xa⟩:=x
   dsimp only at d0 d1 hstep hM1 hP1 hvas
   go_upto_region 5 with fail
   with_reducible refine gen1 (R:=fun W=>Code.wp Tryz.prog _ _ _ W) ?_
   intro V hbV hszV hcV _
   have x0:V.cell? ⟨wo.heap.size,0,none⟩=some (.string (B xn)):=hcV 0 _ rfl
   have x1:V.cell? ⟨wo.heap.size,1,none⟩=some (.slice Ax xa.length cx):=hcV 1 _ rfl
   replace s0:=cell_later hbV s0
   replace s1:=cell_later hbV s1
   replace b0:=cell_later hbV b0
   replace b1:=cell_later hbV b1
   replace b2:=cell_later hbV b2
   replace b3:=cell_later hbV b3
   replace b4:=cell_later hbV b4
   replace b5:=cell_later hbV b5
   replace b6:=cell_later hbV b6
   replace b7:=cell_later hbV b7
   replace b8:=cell_later hbV b8
   have hbwV:=hbwo.trans (hbV.mono hbwo.size)
   have hvaV:=AttsV.mono (AttsV.keep hvas hbV) hbV.size
   have hM2:=hM1 (B xn) _ V hbwV hvaV _ (hF.on hbwV)
   have hrowV:=hrow.keep hbV
   have hbWV:=hb.trans (hbV.mono hb.size)
   clear hcV hszV hM1 d0 d1 hvas hbwo hrow
   cases hw:M xa
   ·rw[hw]at hM2 hstep
    have HX:Hid (qs.map (·.1)=((l.take (k+1)).filter fun e=>M e.2).map fun e=>(e.1,pickA e.2 names)):=by show _=_;rw[hstep,if_neg (by decide),List.append_nil,hinv.out]
    clear hstep hw hinv hP1
    go_wp2_with (go_at_call 174;refine hM2.mono ?_;rintro e w5 ⟨rfl,hb5⟩)
    go_roundw
    case rel=>exact ⟨k+1,qs,by omega,by go_num,hrowV.keep hb5,hbWV.trans (hb5.mono hbWV.size),HX,by omega⟩
    case measure=>simp[intOf];omega
   ·rw[hw]at hM2 hstep
    have HX:Hid (qs.map (·.1)++[(xn,pickA xa names)]=((l.take (k+1)).filter fun e=>M e.2).map fun e=>(e.1,pickA e.2 names)):=by show _=_;rw[hstep,if_pos rfl,List.map_append,hinv.out];rfl
    clear hstep hw hinv
    go_upto_region 6 with (go_at_call 174;refine hM2.mono ?_;rintro e w5 ⟨rfl,hb5⟩)
    have hbd:=hb5.drew
    have y0:w5.drew.cell? ⟨wo.heap.size,0,none⟩=some (.string (B xn)):=cell_later hbd x0
    have y1:w5.drew.cell? ⟨wo.heap.size,1,none⟩=some (.slice Ax xa.length cx):=cell_later hbd x1
    have y2:w5.drew.cell? ⟨w.heap.size+1,7,none⟩=some (.slice An names.length cn):=cell_later hbd b7
    have hrow5:=hrowV.keep hbd
    have hbw5:=hbwV.trans (hbd.mono hbwV.size)
    have hbW5:=hbWV.trans (hbd.mono hbWV.size)
    have hP2:=hP1 _ _ w5.drew (AttsV.mono (AttsV.keep hvaV hbd) hbd.size) (SlV.mono (SlV.keep hN hbw5) hbw5.size)
    obtain ⟨A0,c0,hsh⟩:=own_shape hrow5.1
    subst hsh
    have hs5:=hbW5.size
    clear hM2 hP1 hrowV hb5 hbd x0 x1 s0 s1 b0 b1 b2 b3 b4 b5 b6 b7 b8 hbwV hvaV hbV
    go_region_law (first
     | (go_simp
        go_at_call 175
        refine hP2.mono ?_
        rintro e w7 ⟨v7,ps7,rfl,hat7,hps7,hb7⟩
        obtain ⟨A7,c7,hsh⟩:=own_shape hat7.1
        subst hsh
        have z0:=cell_later hb7 y0
        have hrow7:=hrow5.keep hb7
        have hs7:W.heap.size≤w7.heap.size:=Nat.le_trans hs5 hb7.size
        have hat8:=hat7.low hs5
        go_wp2_with fail)
     | (refine step_pushE (w := w7) rfl _ _ rfl W.heap.size _ qs hrow7 rfl ((xn, pickA xa names), .slice A7 ps7.length c7) ⟨ps7, hat8, hps7⟩ rfl (by omega) hs7 ?_ rfl
        intro A8 c8 w8 hrow8 hg8 hb8))
    all_goals
     have hbf:=(hbW5.trans (hb7.mono hbW5.size)).trans hb8
     have HX2:Hid ((qs++[((xn,pickA xa names),Value.slice A7 ps7.length c7)]).map (·.1)=((l.take (k+1)).filter fun e=>M e.2).map fun e=>(e.1,pickA e.2 names)):=by show _=_;rw[List.map_append];exact HX.out
     have hlen8:(qs++[((xn,pickA xa names),Value.slice A7 ps7.length c7)]).length≤k+1:=by rw[List.length_append];simp;omega
     clear HX hps7 hat7 hat8 hP2
     go_wp2_with fail
     go_roundw
     case rel=>exact ⟨k+1,_,by omega,by go_num,hrow8,hbf,HX2,hlen8⟩
     case measure=>simp[intOf];omega
  ·have hltI:¬(k:Int)<(l.length:Int):=by omega
   have hfin:qs.map (·.1)=(l.filter fun e=>M e.2).map fun e=>(e.1,pickA e.2 names):=by rw[hinv.out,List.take_of_length_le (by omega)]
   have hlq:qs.length=(l.filter fun e=>M e.2).length:=by
    have:=congrArg List.length hfin
    simpa using this
   obtain ⟨A0,c0,hsh⟩:=own_shape hrow.1
   subst hsh
   rw[←hlq]at HR
   clear hinv kM kP hL hN hF
   by_cases hlim:limit<(qs.length:Int)
   ·have HF:Hid (r=([],3)):=by show _=_;rw[HR.out,if_pos hlim]
    clear HR hfin hlq
    go_wp2_with fail
    go_ret2
    rw[HF.out]
    exact RetQ.no hbwo
   ·have HF : Hid (RetQ w r (.returned (.tuple #[.slice A0 qs.length c0, .int .i64 0])) wo) := by
      rw[HR.out,if_neg hlim]
      exact ⟨_,qs,rfl,hrow.low hbW.size,hfin,hbwo⟩
    clear HR hfin hlq
    go_wp2_with fail
    go_ret2
    exact HF.out
theorem seScan_any (sv0 : Value) (s : Idn.Sch) (hS : SchV w w.heap.size sv0 s) (hssm : SSm s) (hE : Env w) (hU : EnvU w) (hT : TrV w hs lo pt es mb g) (hG : GdT es) (hq : QryV w w.heap.size d v q) (hsm : QSm q) :
    Calls Tryz.prog 31 #[sv0,.pointer (some ⟨pt,0,none⟩),v] w (RetQ w (qScan s es q)):=by
 have kB:=fun W (hW:Below w.heap.size w W)=>seFirst_any (hT.keep hW) hG (hq.on hW) hsm
 have kS:=fun W (hW:Below w.heap.size w W)=>seScope_any (hT.keep hW) hG (hq.on hW) hsm
 have hsub:∀e∈qScope es q,e∈es:=fun e he=>(List.mem_filter.1 he).1
 have kF:=fun (lv:Value) W (hW:Below w.heap.size w W) (hL:EntsV W W.heap.size lv (qScope es q))=>seFound_any sv0 s lv (qScope es q) (SchV.mono (SchV.keep hS hW) hW.size) hssm (hE.keep hW) (hU.keep hW) hL (Nat.le_trans (List.length_filter_le _ _) hG.len) (fun e he=>hG.get (hsub e he)) (hq.on hW) hsm
 obtain ⟨Ap,cp,Ak,ck,An,cn,rfl,_,_⟩:=hq.shape
 obtain ⟨sa,sb,rfl,hTy,hCl⟩:=hS
 obtain ⟨A1,c1,rfl,_⟩:=SlV.shape hTy
 obtain ⟨A2,c2,rfl,_⟩:=SlV.shape hCl
 have HR:Hid (qScan s es q=if qFirst es q≠0 then ([],qFirst es q)else qRes s (qScope es q) q):=rfl
 have hsc:qFirst es q=0→(trSub es q.base).filter (fun e=>qIn q e.1)=qScope es q:=fun h0=>by
  refine scope_sub par_law ?_
  unfold qFirst at h0
  cases hh:hasE es q.base with
  |true=>rfl
  |false=>
   rw[hh]at h0
   by_cases hc:qChk q=0
   ·rw[if_neg (by simpa using hc)]at h0;cases h0
   ·rw[if_pos hc]at h0;exact absurd h0 hc
 generalize qScan s es q=r at *
 generalize qFirst es q=f0 at *
 by_cases h0:f0=0
 case neg=>
  have HF:Hid (r=([],f0)):=by show _=_;rw[HR.out,if_pos h0]
  have hI:(f0 !=0)=true:=by simpa using h0
  clear HR kS kF hsc hsub hTy hCl hq
  obtain ⟨base,scope,flt,names,limit⟩:=q
  dsimp only at *
  go_enter Tryz.func31,Tryz.ntmps31
  go_upto_region 1 with fail
  with_reducible refine gen2 (R:=fun W=>Code.wp Tryz.prog _ _ _ W) ?_
  intro W hbW hszW hc1 hc
  have b0:W.cell? ⟨w.heap.size+1,0,none⟩=some (.string (B base)):=hc 0 _ rfl
  have b1:W.cell? ⟨w.heap.size+1,1,none⟩=some (.int .i64 scope):=hc 1 _ rfl
  have b2:W.cell? ⟨w.heap.size+1,2,none⟩=some (.int .i64 flt.kind):=hc 2 _ rfl
  have b3:W.cell? ⟨w.heap.size+1,3,none⟩=some (.string (B flt.name)):=hc 3 _ rfl
  have b4:W.cell? ⟨w.heap.size+1,4,none⟩=some (.string (B flt.value)):=hc 4 _ rfl
  have b5:W.cell? ⟨w.heap.size+1,5,none⟩=some (.slice Ap flt.parts.length cp):=hc 5 _ rfl
  have b6:W.cell? ⟨w.heap.size+1,6,none⟩=some (.slice Ak flt.kids.length ck):=hc 6 _ rfl
  have b7:W.cell? ⟨w.heap.size+1,7,none⟩=some (.slice An names.length cn):=hc 7 _ rfl
  have b8:W.cell? ⟨w.heap.size+1,8,none⟩=some (.int .i64 limit):=hc 8 _ rfl
  clear hc hc1 hszW
  go_wp2_with (go_at_call 96;refine (kB _ hbW).mono ?_;rintro e w2 ⟨rfl,hb2⟩)
  go_ret2
  rw[HF.out]
  exact RetQ.no (hbW.trans (hb2.mono hbW.size))
 subst h0
 have HF:Hid (r=qRes s (qScope es q) q):=HR.out
 rw[hsc rfl]at kS
 rw[←HF.out]at kF
 generalize qScope es q=S at *
 clear HR hsc hsub hTy hCl HF hq
 obtain ⟨base,scope,flt,names,limit⟩:=q
 dsimp only at *
 go_enter Tryz.func31,Tryz.ntmps31
 go_upto_region 1 with fail
 with_reducible refine gen2 (R:=fun W=>Code.wp Tryz.prog _ _ _ W) ?_
 intro W hbW hszW hc1 hc
 have s0:W.cell? ⟨w.heap.size,0,none⟩=some (.slice A1 s.types.length c1):=hc1 0 _ rfl
 have s1:W.cell? ⟨w.heap.size,1,none⟩=some (.slice A2 s.classes.length c2):=hc1 1 _ rfl
 have b0:W.cell? ⟨w.heap.size+1,0,none⟩=some (.string (B base)):=hc 0 _ rfl
 have b1:W.cell? ⟨w.heap.size+1,1,none⟩=some (.int .i64 scope):=hc 1 _ rfl
 have b2:W.cell? ⟨w.heap.size+1,2,none⟩=some (.int .i64 flt.kind):=hc 2 _ rfl
 have b3:W.cell? ⟨w.heap.size+1,3,none⟩=some (.string (B flt.name)):=hc 3 _ rfl
 have b4:W.cell? ⟨w.heap.size+1,4,none⟩=some (.string (B flt.value)):=hc 4 _ rfl
 have b5:W.cell? ⟨w.heap.size+1,5,none⟩=some (.slice Ap flt.parts.length cp):=hc 5 _ rfl
 have b6:W.cell? ⟨w.heap.size+1,6,none⟩=some (.slice Ak flt.kids.length ck):=hc 6 _ rfl
 have b7:W.cell? ⟨w.heap.size+1,7,none⟩=some (.slice An names.length cn):=hc 7 _ rfl
 have b8:W.cell? ⟨w.heap.size+1,8,none⟩=some (.int .i64 limit):=hc 8 _ rfl
 clear hc hc1 hszW
 go_upto_region 4 with (go_at_call 96;refine (kB _ hbW).mono ?_;rintro e w2 ⟨rfl,hb2⟩)
 have hbw2:=hbW.trans (hb2.mono hbW.size)
 replace s0:=cell_later hb2 s0
 replace s1:=cell_later hb2 s1
 replace b0:=cell_later hb2 b0
 replace b1:=cell_later hb2 b1
 replace b2:=cell_later hb2 b2
 replace b3:=cell_later hb2 b3
 replace b4:=cell_later hb2 b4
 replace b5:=cell_later hb2 b5
 replace b6:=cell_later hb2 b6
 replace b7:=cell_later hb2 b7
 replace b8:=cell_later hb2 b8
 have hSt:∀W':World,Below w2.heap.size w2 W'→(W'.cell? ⟨w.heap.size,0,none⟩=some (.slice A1 s.types.length c1)∧W'.cell? ⟨w.heap.size,1,none⟩=some (.slice A2 s.classes.length c2)∧W'.cell? ⟨w.heap.size+1,0,none⟩=some (.string (B base))∧W'.cell? ⟨w.heap.size+1,1,none⟩=some (.int .i64 scope)∧W'.cell? ⟨w.heap.size+1,2,none⟩=some (.int .i64 flt.kind)∧W'.cell? ⟨w.heap.size+1,3,none⟩=some (.string (B flt.name))∧W'.cell? ⟨w.heap.size+1,4,none⟩=some (.string (B flt.value))∧W'.cell? ⟨w.heap.size+1,5,none⟩=some (.slice Ap flt.parts.length cp)∧W'.cell? ⟨w.heap.size+1,6,none⟩=some (.slice Ak flt.kids.length ck)∧W'.cell? ⟨w.heap.size+1,7,none⟩=some (.slice An names.length cn)∧W'.cell? ⟨w.heap.size+1,8,none⟩=some (.int .i64 limit)∧Below w2.heap.size w2 W'):=fun W' h=>⟨cell_later h s0,cell_later h s1,cell_later h b0,cell_later h b1,cell_later h b2,cell_later h b3,cell_later h b4,cell_later h b5,cell_later h b6,cell_later h b7,cell_later h b8,h⟩
 have kS2:=fun W (hW:Below w2.heap.size w2 W)=>kS W (hbw2.trans (hW.mono hbw2.size))
 have kF2:=fun lv W (hW:Below w2.heap.size w2 W) hL=>(kF lv W (hbw2.trans (hW.mono hbw2.size)) hL).mono (R':=fun e w'=>RetQ w r e w'∧Below w2.heap.size w2 w') fun e w' h=>⟨h.up (hbw2.trans (hW.mono hbw2.size)),by obtain ⟨_,_,_,_,_,h4⟩:=h;exact hW.trans (h4.mono hW.size)⟩
 clear kB kS kF hT hE hU hbW hb2
 go_region_held3 (fun W'=>W'.cell? ⟨w.heap.size,0,none⟩=some (.slice A1 s.types.length c1)∧W'.cell? ⟨w.heap.size,1,none⟩=some (.slice A2 s.classes.length c2)∧W'.cell? ⟨w.heap.size+1,0,none⟩=some (.string (B base))∧W'.cell? ⟨w.heap.size+1,1,none⟩=some (.int .i64 scope)∧W'.cell? ⟨w.heap.size+1,2,none⟩=some (.int .i64 flt.kind)∧W'.cell? ⟨w.heap.size+1,3,none⟩=some (.string (B flt.name))∧W'.cell? ⟨w.heap.size+1,4,none⟩=some (.string (B flt.value))∧W'.cell? ⟨w.heap.size+1,5,none⟩=some (.slice Ap flt.parts.length cp)∧W'.cell? ⟨w.heap.size+1,6,none⟩=some (.slice Ak flt.kids.length ck)∧W'.cell? ⟨w.heap.size+1,7,none⟩=some (.slice An names.length cn)∧W'.cell? ⟨w.heap.size+1,8,none⟩=some (.int .i64 limit)∧Below w2.heap.size w2 W')
  (first|(refine hSt _ ?_;repeat (first|with_reducible exact Below.refl _ _|with_reducible apply Below.drew|with_reducible exact hb6|with_reducible refine Below.on ?_ hb5)))
  (first
   |(go_at_call 97;refine (kF2 _ _ (by repeat (first|with_reducible exact Below.refl _ _|with_reducible apply Below.drew|with_reducible refine Below.on ?_ hb5)) (hL5 _ (by repeat (first|with_reducible exact Below.refl _ _|with_reducible apply Below.drew)))).mono ?_;rintro e w6 ⟨⟨v6,qs6,rfl,hrow6,hqs6,hbw6⟩,hb6⟩;obtain ⟨k6,c6,hsh6⟩:=own_shape hrow6.1;subst hsh6)
   |(go_at_call 98;refine (kS2 _ (by repeat (first|with_reducible exact Below.refl _ _|with_reducible apply Below.drew))).mono ?_;rintro e w5 ⟨k5,c5,qs5,rfl,hrow5,hps5,hb5⟩;have hL5:=fun V (hV:Below w5.heap.size w5 V)=>EntsV.mono (EntsV.keep (hrow5.ents hps5) hV) hV.size))
 go_wp2_with fail
 go_ret2
 exact ⟨_,qs6,rfl,hrow6,hqs6,hbw6⟩
end
end Go.Proofs.YtbkkchhimhlhcaaGreatDoor
/- The values of the small case of identitylaw12, reckoned. -/
namespace Go.Proofs.YtbkkchhimhlhcaaGreatDoor
open Go.RowKit Go.Sort
open Idn (L B Bs)
namespace E12
def idx:List Bs:=[E8.cnN]
def es:List IxE:=[(staffN,[]),(annN,annL),(bobN,bobL)]
def fAll:Flt:=.mk 1 [] [] [] []
def fAnn:Flt:=.mk 4 E8.cnN [65,110,110] [] []
def qry (f:Flt) (sc lim:Int):Qry:=⟨staffN,sc,f,[CN],lim⟩
theorem ssm:SSm sch:=by unfold SSm TSm CSm Sm sch;decide
theorem ev_tn:trNew [staffN]=(0,[(staffN,[])]):=by kernel_rfl
theorem ev_es:addsE [(annN,annL),(bobN,bobL)] [(staffN,[])]=es:=by kernel_rfl
theorem ev_nw:nwE sch [E8.cnN]=0:=by kernel_rfl
theorem ev_ok:putsOk es []=true:=by kernel_rfl
theorem ev_idx:[E8.cnN].map Idn.lower=idx:=by kernel_rfl
theorem ev_s1:qScan sch es (qry fAll 3 5)=([(staffN,[]),(annN,[⟨E8.cnN,[[97,110,110]]⟩]),(bobN,bobL)],0):=by kernel_rfl
theorem ev_cd:ixCand sch idx es fAnn=([annN],true):=by kernel_rfl
theorem ev_r2:qRun sch es (qry fAnn 2 1) ([annN],true)=([(annN,[⟨E8.cnN,[[97,110,110]]⟩])],0):=by kernel_rfl
theorem ev_s3:qScan sch es (qry fAll 2 1)=([],3):=by kernel_rfl
theorem ev_x4:(if qFirst es (qry fAnn 3 1)≠0 then 0 else (qExam es (qry fAnn 3 1) ([annN],true)).length:Int)=1:=by kernel_rfl
theorem ev_c5:qChk (qry fAll 2 0)=27:=by kernel_rfl
theorem ev_i6:qIn (qry fAll 2 1) annN=true:=by kernel_rfl
theorem ev_i7:qIn (qry fAll 2 1) staffN=false:=by kernel_rfl
theorem sm (f:Flt) (hf:FSm 1000 f) (sc lim:Int):QSm (qry f sc lim):=⟨by show staffN.length≤_;decide,hf,by show [CN].length≤_;decide,fun n hn=>by
 have e:n=CN:=by simpa[qry]using hn
 rw[e];decide⟩
theorem fsAll:FSm 1000 fAll:=⟨by decide,by unfold fAll;simp[fOk,fOks]⟩
theorem fsAnn:FSm 1000 fAnn:=⟨by decide,by unfold fAnn;simp[fOk,fOks,E8.cnN]⟩
theorem dsm:DSm dat:=by
 refine ⟨by decide,by decide,⟨by decide,by decide⟩,by decide,⟨by decide,by decide⟩,?_,?_⟩
 ·intro c hc;cases hc
 ·intro e he
  have he':e=(annN,annL)∨e=(bobN,bobL):=by simpa[dat]using he
  rcases he' with rfl|rfl
  ·exact ⟨by decide,by unfold RchA annL;decide⟩
  ·exact ⟨by decide,by unfold RchA bobL;decide⟩
end E12
theorem RetQ.head {w w':World} {x:IxE} {l:List IxE} {r:Int} {e:Ending} (h:RetQ w (x :: l,r) e w'):∃g c a ca,e=.returned (.tuple #[.slice (some ⟨g,0,none⟩) (l.length+1) c,.int .i64 r])∧w'.cell? ⟨g,0,none⟩=some (.string (B x.1))∧w'.cell? ⟨g,1,none⟩=some (.slice a x.2.length ca)∧Below w.heap.size w w':=by
 obtain ⟨v,qs,rfl,hrow,hl,hb⟩:=h
 dsimp only at hl
 obtain ⟨k,c,rfl⟩:=hrow.val hl
 cases qs with
 |nil=>cases hl
 |cons q qs=>
  rw[List.map_cons]at hl
  injection hl with h1 h2
  obtain ⟨g,hA,hcell⟩:=own_open hrow.1 (by simp)
  obtain ⟨e0,e1⟩:=rowEn_at (q :: qs) 0 q rfl
  obtain ⟨ps,hp,hps⟩:=hrow.2 q List.mem_cons_self
  obtain ⟨a,ca,hq2⟩:=own_shape hp.1
  have hpl:ps.length=x.2.length:=by rw[←h1,←hps,List.length_map]
  refine ⟨g,c,a,ca,by rw[hA,List.length_cons],?_,?_,hb⟩
  ·have:=hcell _ _ e0
   rw[h1]at this
   exact this
  ·have:=hcell _ _ e1
   rw[hq2,hpl]at this
   exact this
end Go.Proofs.YtbkkchhimhlhcaaGreatDoor
/- search: made, examined, Run, Examined. -/
namespace Go.Proofs.YtbkkchhimhlhcaaGreatDoor
open Go.RowKit Go.Sort
open Idn (L B Bs drop_L take_L size_L)
theorem own_noMap {w:World} {m base:Nat} {e:TypeId} {size:Nat} {v:Value} {n:Nat} {xs:List Value} (h:w.ownsRow base e size v n xs) (hm:∃es c,w.heap[m]?=some (.map es c)):v.ownBlock≠some m:=by
 obtain ⟨es,c,e0⟩:=hm
 rcases h.2 with ⟨rfl,_⟩|⟨g,cap,cur,rfl,_,hg,_⟩
 ·intro e;cases e
 ·intro e1
  have e2:g=m:=by
   have:(some g:Option Nat)=some m:=e1
   exact Option.some.inj this
  subst e2
  rw[e0]at hg
  cases hg
theorem zeroBool (w:World):(zeroValue 4).run Tryz.prog w=.ok (.bool false) w:=by kernel_rfl
theorem setF_get (p:Bs→Bool) (n:Bs):(setF p n).getD (.bool false)=.bool (p n):=by
 unfold setF
 cases p n<;>rfl
section
variable {w:World} {hs lo px:Nat} {s:Idn.Sch} {ns:List Bs} {es:List IxE} {ta cb:Value} {eb vb:Nat} {g:Bs→Value} {ts:List (Bs×Nat)} {G:Bs→Bs→Option Nat}
theorem ixPutB_any (hI:IxV w hs lo px s ns es ta cb eb vb g ts G):Calls Tryz.prog 16 #[.pointer (some ⟨px,0,none⟩),.agg #[.string ⟨#[33]⟩,.slice none 0 0]] w fun e w'=>e=.returned (.int .i64 5)∧Below w.heap.size w w':=by
 have hVn:=fun W=>nm_valid_any ⟨#[33]⟩ W (by decide)
 have hv:validN (L ⟨#[33]⟩)=false:=by kernel_rfl
 rw[hv]at hVn
 have c2:=hI.c2
 go_enter Tryz.func16,Tryz.ntmps16
 go_upto_region 1 with fail
 with_reducible refine gen1 (R:=fun W=>Code.wp Tryz.prog _ _ _ W) ?_
 intro W hb hszW hc _
 have q0:W.cell? ⟨w.heap.size,0,none⟩=some (.string ⟨#[33]⟩):=hc 0 _ rfl
 replace c2:=cell_later hb c2
 clear hc hszW
 go_wp2_with (first
  |(go_at_call 57;refine (ready_any px eb W c2).mono ?_;rintro e w0 ⟨rfl,rfl⟩)
  |(go_at_call 58;refine (hVn _).mono ?_;rintro e w1 ⟨rfl,hb1⟩))
 go_ret
 exact ⟨rfl,hb.trans (hb1.mono hb.size)⟩
theorem seMade_any (hI:IxV w hs lo px s ns es ta cb eb vb g ts G):Calls Tryz.prog 103 #[.pointer (some ⟨px,0,none⟩)] w fun e w'=>e=.returned (.bool true)∧Below w.heap.size w w':=by
 have hP:=ixPutB_any hI
 go_enter Tryz.func103,Tryz.ntmps103
 go_wp2_with (go_at_call 16;refine hP.mono ?_;rintro e w1 ⟨rfl,hb1⟩)
 go_ret
 exact ⟨rfl,hb1⟩
end
section
variable {w:World} {hs lo pt:Nat} {es:List IxE} {mb:Nat} {g:Bs→Value} {d:Nat} {v:Value} {q:Qry}
variable {hs' lo' px:Nat} {sx:Idn.Sch} {ns:List Bs} {ix:List IxE} {ta cb:Value} {eb vb:Nat} {gx:Bs→Value} {ts:List (Bs×Nat)} {G:Bs→Bs→Option Nat}
theorem seExam_any (hT : TrV w hs lo pt es mb g) (hG : GdT es) (hI : IxV w hs' lo' px sx ns ix ta cb eb vb gx ts G) (hGI : GdI sx ns ix) (hE : ∀ W, Below w.heap.size w W → Env W ∧ EnvU W) (hq : QryV w w.heap.size d v q) (hsm : QSm q) (hb0 : qFirst es q = 0) :
    Calls Tryz.prog 104 #[.pointer (some ⟨pt,0,none⟩),.pointer (some ⟨px,0,none⟩),v] w (RetEs w (qExam es q (ixCand sx (ns.map Idn.lower) ix q.flt))):=by
 have hsc:(trSub es q.base).filter (fun e=>qIn q e.1)=qScope es q:=by
  refine scope_sub par_law ?_
  unfold qFirst at hb0
  cases hh:hasE es q.base with
  |true=>rfl
  |false=>
   rw[hh]at hb0
   by_cases hc:qChk q=0
   ·rw[if_neg (by simpa using hc)]at hb0;cases hb0
   ·rw[if_pos hc]at hb0;exact absurd hb0 hc
 have kS:=fun W (hW:Below w.heap.size w W)=>seScope_any (hT.keep hW) hG (hq.on hW) hsm
 rw[hsc]at kS
 have hnd:((qScope es q).map (·.1)).Nodup:=names_nodup (filter_ok hG.ok _)
 have hsl:(qScope es q).length≤256:=Nat.le_trans (List.length_filter_le _ _) hG.len
 have hvl:∀e∈qScope es q,e.1.length≤1000000:=fun e he=>hG.nam e (List.mem_filter.1 he).1
 have kC:=fun (fv:Value) W (hW:Below w.heap.size w W) (hf:FltV W W.heap.size d fv q.flt)=>cand_any hGI d fv q.flt W (hI.keep hW) (fun V hV=>hE V (hW.trans (hV.mono hW.size))) hf hsm.flt
 have hco:=cand_ok (s:=sx) (idx:=ns.map Idn.lower) hGI.ok q.flt
 have hcl:(ixCand sx (ns.map Idn.lower) ix q.flt).1.length≤256:=Nat.le_trans (hco.len hGI.ok) hGI.len
 have hcn:∀n∈(ixCand sx (ns.map Idn.lower) ix q.flt).1,n.length≤1000000:=fun n hn=>hGI.name_len (hco.2 n hn)
 obtain ⟨Ap,cp,Ak,ck,An,cn,rfl,hF,_⟩:=hq.shape
 have HR:Hid (qExam es q (ixCand sx (ns.map Idn.lower) ix q.flt)=if (ixCand sx (ns.map Idn.lower) ix q.flt).2 then (qScope es q).filter fun e=>(ixCand sx (ns.map Idn.lower) ix q.flt).1.contains e.1 else qScope es q):=rfl
 generalize qExam es q (ixCand sx (ns.map Idn.lower) ix q.flt)=r at *
 generalize ixCand sx (ns.map Idn.lower) ix q.flt=c at *
 generalize qScope es q=S at *
 clear hco hsc hb0 hq hsm hT hG hI hGI hE
 obtain ⟨cl,co⟩:=c
 obtain ⟨base,scope,flt,names,limit⟩:=q
 dsimp only at *
 have hmm:=@run_makeMap Tryz.prog
 go_enter Tryz.func104,Tryz.ntmps104
 go_upto_region 1 with fail
 with_reducible refine gen1 (R:=fun W=>Code.wp Tryz.prog _ _ _ W) ?_
 intro W hbW hszW hc _
 have b0:W.cell? ⟨w.heap.size,0,none⟩=some (.string (B base)):=hc 0 _ rfl
 have b1:W.cell? ⟨w.heap.size,1,none⟩=some (.int .i64 scope):=hc 1 _ rfl
 have b2:W.cell? ⟨w.heap.size,2,none⟩=some (.int .i64 flt.kind):=hc 2 _ rfl
 have b3:W.cell? ⟨w.heap.size,3,none⟩=some (.string (B flt.name)):=hc 3 _ rfl
 have b4:W.cell? ⟨w.heap.size,4,none⟩=some (.string (B flt.value)):=hc 4 _ rfl
 have b5:W.cell? ⟨w.heap.size,5,none⟩=some (.slice Ap flt.parts.length cp):=hc 5 _ rfl
 have b6:W.cell? ⟨w.heap.size,6,none⟩=some (.slice Ak flt.kids.length ck):=hc 6 _ rfl
 have b7:W.cell? ⟨w.heap.size,7,none⟩=some (.slice An names.length cn):=hc 7 _ rfl
 have b8:W.cell? ⟨w.heap.size,8,none⟩=some (.int .i64 limit):=hc 8 _ rfl
 clear hc hszW
 go_upto_region 2 with (go_at_call 98;refine (kS _ hbW).mono ?_;rintro e w1 ⟨k1,c1,ps,rfl,hrow,hps,hb1⟩)
 have hbw1:=hbW.trans (hb1.mono hbW.size)
 replace b0:=cell_later hb1 b0
 replace b1:=cell_later hb1 b1
 replace b2:=cell_later hb1 b2
 replace b3:=cell_later hb1 b3
 replace b4:=cell_later hb1 b4
 replace b5:=cell_later hb1 b5
 replace b6:=cell_later hb1 b6
 replace b7:=cell_later hb1 b7
 replace b8:=cell_later hb1 b8
 have hC1:=kC _ w1 hbw1 (hF.on hbw1)
 clear kS kC hF
 go_upto_region 3 with (go_at_call 18;refine hC1.mono ?_;intro e w2 hret;obtain ⟨A2,c2,rfl,S2,hb2⟩:=hret.open_;dsimp only at S2)
 clear hC1 hret b0 b1 b2 b3 b4 b5 b6 b7 b8
 have hbw2:=hbw1.trans (hb2.mono hbw1.size)
 have hrow2:=hrow.keep hb2
 cases co
 case false=>
  have HF:Hid (r=S):=HR.out
  have HX:Hid (RetEs w r (.returned (.slice k1 S.length c1)) w2):=by
   rw[HF.out]
   exact ⟨k1,c1,ps,rfl,hrow2.low hbW.size,hps,hbw2⟩
  clear HR HF hrow hrow2 hps S2
  go_wp2_with fail
  go_ret
  exact HX.out
 have HF:Hid (r=S.filter fun e=>cl.contains e.1):=HR.out
 clear HR hrow
 have hpl:ps.length=S.length:=by rw[←hps,List.length_map]
 have hpl9:ps.length≤256:=by omega
 go_upto_region 6 with fail
 have hba:Below w2.heap.size w2 (w2.alloc (.map #[] 0)):=(Below.refl _ w2).alloc (Nat.le_refl _) _
 have hm0:=MapF.made w2
 have hsz2:(w2.alloc (.map #[] 0)).heap.size=w2.heap.size+1:=by simp
 generalize w2.alloc (.map #[] 0)=X at *
 have hX1:w2.heap.size<X.heap.size:=by omega
 clear hsz2
 go_wp2_with fail
 go_loopw [32] (fun i wr=>∃(k:Nat),k≤cl.length∧i=.int .i64 k∧MapF wr w2.heap.size (setF fun n=>(cl.take k).contains n)∧Below w2.heap.size w2 wr) (fun i _=>cl.length-(intOf i).toNat)
 case atStart=>
  refine ⟨0,Nat.zero_le _,rfl,?_,hba⟩
  have e:(setF fun n=>((cl.take 0).contains n))=fun _=>none:=by funext n;unfold setF;rfl
  rw[e];exact hm0
 case round=>
  obtain ⟨k,hk,rfl,hm,hb⟩:=hrel
  by_cases hlt:k<cl.length
  ·have hltI:(k:Int)<(cl.length:Int):=by omega
   obtain ⟨b9,off,hA2,hbl,d0⟩:=StrsV.cell (SlV.keep S2 hb) hlt
   subst hA2
   have hxl:=hcn _ (List.getElem_mem hlt)
   have hkeys:∀y,setF (fun n=>(cl.take k).contains n) y≠none→y∈cl:=fun y hy=>List.mem_of_mem_take (List.contains_iff_mem.1 (setF_some.1 hy))
   have hst:(setF fun y=>if y=cl[k]then true else (cl.take k).contains y)=setF fun n=>(cl.take (k+1)).contains n:=by
    congr 1
    funext y
    rw[List.take_succ_eq_append_getElem hlt]
    by_cases e:y=cl[k]
    ·rw[if_pos e];exact (List.contains_iff_mem.2 (List.mem_append.2 (.inr (by rw[e];exact List.mem_singleton.2 rfl)))).symm
    ·rw[if_neg e,Bool.eq_iff_iff,List.contains_iff_mem,List.contains_iff_mem,List.mem_append,List.mem_singleton];exact ⟨.inl,fun h=>h.resolve_right e⟩
   generalize cl[k]=x at *
   go_wp2_with (at_mapUpdate;refine wpList_putF _ rfl _ _ _ 120 rfl Tryz.underlying120 rfl hm (l:=cl) hkeys (by omega) x rfl (by unfold maxLen;omega) (.bool true) rfl ?_;intro w5 hm5 hv5;go_frame)
   rw[setF_put,hst]at hm5
   have hb5:Below w2.heap.size w2 w5:=hb.trans (hv5.below (fun j hj=>Nat.le_of_eq (Eq.symm hj)) hb.size)
   go_roundw
   case rel=>exact ⟨k+1,by omega,by go_num,hm5,hb5⟩
   case measure=>simp[intOf];omega
  ·have hltI:¬(k:Int)<(cl.length:Int):=by omega
   rw[List.take_of_length_le (by omega)]at hm
   have hrw:=hrow2.keep hb
   have hbw3:=hbw2.trans (hb.mono hbw2.size)
   have hX3:w2.heap.size<wr.heap.size:=hm.lt
   clear hm0 hba S2 hrow2 hX1 hcn
   obtain ⟨w3,hw3⟩:∃w3:World,w3=wr:=⟨_,rfl⟩
   subst hw3
   have HPS:=Lib.hid hps
   have HPL:=Lib.hid hpl
   clear hps hpl
   rw[←HPL.out]
   go_wp2_with fail
   go_loopw [13,41] (fun o i wr=>∃(k:Nat) (qs:List (EntP×Value)),k≤ps.length∧i=.int .i64 k∧wr.ownsRow w3.heap.size 48 2 o qs.length (rowEn qs)∧MapF wr w2.heap.size (setF fun n=>cl.contains n&&!((S.take k).map (·.1)).contains n)∧Mv (·=w2.heap.size) w3 wr∧Hid (qs=(ps.take k).filter fun p=>cl.contains p.1.1)∧qs.length≤k) (fun _ i _=>ps.length-(intOf i).toNat)
   case atStart=>
    refine ⟨0,[],Nat.zero_le _,rfl,World.ownsRow_nil _ _ _ _,?_,Mv.refl _ _,rfl,Nat.le_refl _⟩
    have e:(setF fun n=>cl.contains n&&!((S.take 0).map (·.1)).contains n)=setF fun n=>cl.contains n:=by
     congr 1
     funext n
     simp
    rw[e];exact hm
   case round=>
    obtain ⟨k,qs,hk,rfl,hown,hmi,hmv,hinv,hql⟩:=hrel
    obtain ⟨wo,hwo⟩:∃wo:World,wo=wr:=⟨_,rfl⟩
    subst hwo
    obtain ⟨Ko,Co,hso⟩:=own_shape hown
    subst hso
    have hrwi:EntRow wo W.heap.size (.slice k1 ps.length c1) ps:=by
     rw[HPL.out]
     exact hrw.mvM hmv fun j hj=>.inr (by have e:j=w2.heap.size:=hj;rw[e];exact hm.isMap)
    by_cases hlt:k<ps.length
    ·have hltI:(k:Int)<(ps.length:Int):=by omega
     have hltS:k<S.length:=by rw[←HPL.out];exact hlt
     obtain ⟨g9,hA1,hcell⟩:=own_open hrwi.1 (by omega)
     subst hA1
     obtain ⟨rx0,rx1⟩:=rowEn_at ps k _ (List.getElem?_eq_getElem hlt)
     have d0:=hcell _ _ rx0
     have d1:=hcell _ _ rx1
     have hstep:=filter_take8 (fun p:EntP×Value=>cl.contains p.1.1) ps k hlt
     obtain ⟨pz,hox,_⟩:=hrwi.2 _ (List.getElem_mem hlt)
     have hSk:S[k].1=ps[k].1.1:=by
      have h1:(ps.map (·.1))[k]?=S[k]?:=by rw[HPS.out]
      rw[List.getElem?_map,List.getElem?_eq_getElem hlt,List.getElem?_eq_getElem hltS]at h1
      exact congrArg (·.1) (Option.some.inj h1).symm
     have hxn:ps[k].1.1.length≤1000000:=by rw[←hSk];exact hvl _ (List.getElem_mem hltS)
     have hnk:((S.take k).map (·.1)).contains ps[k].1.1=false:=by
      rw[←hSk,←Bool.not_eq_true,List.contains_iff_mem]
      intro hx
      have h2:=hnd
      rw[←List.take_append_drop k S,List.map_append,List.nodup_append]at h2
      exact h2.2.2 _ hx _ (List.mem_map.2 ⟨S[k],by rw[List.drop_eq_getElem_cons hltS];exact List.mem_cons_self,rfl⟩) rfl
     have hst2:(fun n=>cl.contains n&&!((S.take (k+1)).map (·.1)).contains n)=fun n=>if n=ps[k].1.1 then false else cl.contains n&&!((S.take k).map (·.1)).contains n:=by
      funext n
      rw[List.take_succ_eq_append_getElem hltS,List.map_append,List.map_cons,List.map_nil,hSk]
      by_cases e:n=ps[k].1.1
      ·rw[if_pos e,e];simp
      ·rw[if_neg e];simp[e]
     clear hcell rx0 rx1 hSk hltS
     generalize ps[k]=px' at *
     obtain ⟨⟨xn,xa⟩,xu⟩:=px'
     obtain ⟨Ax,cx,hxu⟩:=own_shape hox.1
     dsimp only at d0 d1 hstep hxu hxn hnk hst2
     subst hxu
     unfold sv at d0
     go_upto_region 15 with fail
     with_reducible refine gen1 (R:=fun W=>Code.wp Tryz.prog _ _ _ W) ?_
     intro V hbV hszV hcV _
     have x0:V.cell? ⟨wo.heap.size,0,none⟩=some (.string (B xn)):=hcV 0 _ rfl
     have x1:V.cell? ⟨wo.heap.size,1,none⟩=some (.slice Ax pz.length cx):=hcV 1 _ rfl
     have hmV:=hmi.keep hbV
     have hownV:=own_below hown hbV
     have hmvV:Mv (·=w2.heap.size) w3 V:=hmv.then_below hbV
     have hg0:(setF (fun n=>cl.contains n&&!((S.take k).map (·.1)).contains n) xn).getD (.bool false)=.bool (cl.contains xn):=by
      rw[setF_get,hnk];simp
     have hlo9:∀j,(Value.slice Ko qs.length Co).ownBlock=some j→j<wo.heap.size:=fun j hj=>(hown.lt j hj).2
     clear hcV hszV hox d0 d1 hrwi hown hmi
     cases hw:cl.contains xn
     ·rw[hw]at hg0 hstep
      have HX:Hid (qs=(ps.take (k+1)).filter fun p=>cl.contains p.1.1):=by show _=_;rw[hstep,if_neg (by decide),List.append_nil,hinv.out]
      have hme:MapF V w2.heap.size (setF fun n=>cl.contains n&&!((S.take (k+1)).map (·.1)).contains n):=by
       have e:(fun n=>cl.contains n&&!((S.take (k+1)).map (·.1)).contains n)=fun n=>cl.contains n&&!((S.take k).map (·.1)).contains n:=by
        rw[hst2]
        funext n
        by_cases e:n=xn
        ·rw[if_pos e,e,hw];rfl
        ·rw[if_neg e]
       rw[e];exact hmV
      clear hstep hw hinv hst2 hnk
      go_wp2_with (at_lookup;refine wpList_look1F V rfl _ _ 120 rfl Tryz.underlying120 (zeroBool V) rfl hmV xn rfl (by unfold maxLen;omega) ?_;rw[hg0])
      go_roundw
      case rel=>exact ⟨k+1,qs,by omega,by go_num,hownV,hme,hmvV,HX,by omega⟩
      case measure=>simp[intOf];omega
     ·rw[hw]at hg0 hstep
      have HX:Hid (qs++[((xn,xa),.slice Ax pz.length cx)]=(ps.take (k+1)).filter fun p=>cl.contains p.1.1):=by show _=_;rw[hstep,if_pos rfl,hinv.out]
      clear hstep hinv
      go_upto_region 16 with (at_lookup;refine wpList_look1F V rfl _ _ 120 rfl Tryz.underlying120 (zeroBool V) rfl hmV xn rfl (by unfold maxLen;omega) ?_;rw[hg0])
      have hsV:w3.heap.size≤V.heap.size:=hmvV.size
      go_upto_region 17 with (at_builtin;refine wpList_push V rfl _ _ 27 rfl w3.heap.size 48 (.agg #[.string ⟨#[]⟩,.slice none 0 0]) 2 40 Tryz.underlying27 info_ent rfl (by decide) _ qs.length _ hownV rfl [.string (B xn),.slice Ax pz.length cx] rfl rfl (by intro u hu;simp at hu;rcases hu with rfl|rfl<;>rfl) (by omega) hsV ?_ rfl;intro v9 w9 hown9 hg9 _ hb9 _)
      have hmv9:=Mv.of_grown (S:=fun k=>(Value.slice Ko qs.length Co).ownBlock=some k) hg9 fun j hj=>hj
      have hm9:=hmV.mv hmv9 (own_noMap hownV hmV.isMap)
      replace x0:=(World.cell?_of_block (hmv9.block wo.heap.size (World.block_lt_of_cell? _ _ x0) (fun hj=>Nat.lt_irrefl _ (hlo9 _ hj)))).trans x0
      have hmv39:Mv (·=w2.heap.size) w3 w9:=hmvV.trans hmv9 fun j hj=>.inr (hownV.lt j hj).1
      clear hg9 hownV hmV
      go_wp2_with (at_delete;refine wpList_delF _ rfl _ _ 120 rfl Tryz.underlying120 rfl hm9 xn rfl (by unfold maxLen;omega) ?_;intro w10 hm10 hv10)
      rw[setF_del]at hm10
      have hown10:=own_mv hown9 hv10 fun j hj=>.inr (by have e:j=w2.heap.size:=hj;rw[e];exact hm9.isMap)
      go_roundw
      case rel=>exact ⟨k+1,qs++[((xn,xa),.slice Ax pz.length cx)],by omega,by go_num,by rw[List.length_append,rowEn_app];exact hown10,by rw[hst2];exact hm10,hmv39.trans hv10 (fun j hj=>.inl hj),HX,by rw[List.length_append];simp;omega⟩
      case measure=>simp[intOf];omega
    ·have hltI:¬(k:Int)<(ps.length:Int):=by omega
     have hqs:qs=ps.filter fun p=>cl.contains p.1.1:=by rw[hinv.out,List.take_of_length_le (by omega)]
     have hfin:qs.map (·.1)=r:=by
      rw[HF.out,←HPS.out,hqs,List.filter_map];rfl
     have hrq:EntRow wo w.heap.size _ qs:=⟨own_base hown hbw3.size,fun p hp=>by
      rw[hqs]at hp
      obtain ⟨pz,h1,h2⟩:=hrwi.2 p (List.mem_filter.1 hp).1
      exact ⟨pz,h1.low hbW.size,h2⟩⟩
     have hln:qs.length=r.length:=by rw[←hfin,List.length_map]
     have HX:Hid (RetEs w r (.returned (.slice Ko qs.length Co)) wo):=⟨Ko,Co,qs,by rw[hln],by rw[←hln];exact hrq,hfin,hbw3.trans (hmv.below (fun j hj=>by have e:j=w2.heap.size:=hj;rw[e];exact hbw2.size) hbw3.size)⟩
     clear hinv hqs hfin hrq hown hrwi hmi hln
     go_wp2_with fail
     go_ret
     exact HX.out
theorem seRun_any (sv0 : Value) (s : Idn.Sch) (hS : SchV w w.heap.size sv0 s) (hssm : SSm s) (hE : ∀ W, Below w.heap.size w W → Env W ∧ EnvU W) (hT : TrV w hs lo pt es mb g) (hG : GdT es) (hI : IxV w hs' lo' px sx ns ix ta cb eb vb gx ts G) (hGI : GdI sx ns ix) (hq : QryV w w.heap.size d v q) (hsm : QSm q) :
    Calls Tryz.prog 35 #[sv0,.pointer (some ⟨pt,0,none⟩),.pointer (some ⟨px,0,none⟩),v] w (RetQ w (qRun s es q (ixCand sx (ns.map Idn.lower) ix q.flt))):=by
 have kM:=fun W (hW:Below w.heap.size w W)=>seMade_any (hI.keep hW)
 have kB:=fun W (hW:Below w.heap.size w W)=>seFirst_any (hT.keep hW) hG (hq.on hW) hsm
 have kS:=fun h0 W (hW:Below w.heap.size w W)=>seExam_any (hT.keep hW) hG (hI.keep hW) hGI (fun V hV=>hE V (hW.trans (hV.mono hW.size))) (hq.on hW) hsm h0
 have hsub:∀e∈qExam es q (ixCand sx (ns.map Idn.lower) ix q.flt),e∈es:=fun e he=>by
  unfold qExam at he
  split at he
  ·exact (List.mem_filter.1 (List.mem_filter.1 he).1).1
  ·exact (List.mem_filter.1 he).1
 have hlen:(qExam es q (ixCand sx (ns.map Idn.lower) ix q.flt)).length≤256:=by
  have h1:(qScope es q).length≤256:=Nat.le_trans (List.length_filter_le _ _) hG.len
  unfold qExam
  split
  ·exact Nat.le_trans (List.length_filter_le _ _) h1
  ·exact h1
 have kF:=fun (lv:Value) W (hW:Below w.heap.size w W) (hL:EntsV W W.heap.size lv (qExam es q (ixCand sx (ns.map Idn.lower) ix q.flt)))=>seFound_any sv0 s lv (qExam es q (ixCand sx (ns.map Idn.lower) ix q.flt)) (SchV.mono (SchV.keep hS hW) hW.size) hssm (hE W hW).1 (hE W hW).2 hL hlen (fun e he=>hG.get (hsub e he)) (hq.on hW) hsm
 obtain ⟨Ap,cp,Ak,ck,An,cn,rfl,_,_⟩:=hq.shape
 obtain ⟨sa,sb,rfl,hTy,hCl⟩:=hS
 obtain ⟨A1,c1,rfl,_⟩:=SlV.shape hTy
 obtain ⟨A2,c2,rfl,_⟩:=SlV.shape hCl
 have HR:Hid (qRun s es q (ixCand sx (ns.map Idn.lower) ix q.flt)=if qFirst es q≠0 then ([],qFirst es q)else qRes s (qExam es q (ixCand sx (ns.map Idn.lower) ix q.flt)) q):=rfl
 generalize qRun s es q (ixCand sx (ns.map Idn.lower) ix q.flt)=r at *
 generalize qFirst es q=f0 at *
 by_cases h0:f0=0
 case neg=>
  have HF:Hid (r=([],f0)):=by show _=_;rw[HR.out,if_pos h0]
  have hI0:(f0 !=0)=true:=by simpa using h0
  clear HR kS kF hsub hTy hCl hq
  obtain ⟨base,scope,flt,names,limit⟩:=q
  dsimp only at *
  go_enter Tryz.func35,Tryz.ntmps35
  go_upto_region 1 with fail
  with_reducible refine gen2 (R:=fun W=>Code.wp Tryz.prog _ _ _ W) ?_
  intro W hbW hszW hc1 hc
  have b0:W.cell? ⟨w.heap.size+1,0,none⟩=some (.string (B base)):=hc 0 _ rfl
  have b1:W.cell? ⟨w.heap.size+1,1,none⟩=some (.int .i64 scope):=hc 1 _ rfl
  have b2:W.cell? ⟨w.heap.size+1,2,none⟩=some (.int .i64 flt.kind):=hc 2 _ rfl
  have b3:W.cell? ⟨w.heap.size+1,3,none⟩=some (.string (B flt.name)):=hc 3 _ rfl
  have b4:W.cell? ⟨w.heap.size+1,4,none⟩=some (.string (B flt.value)):=hc 4 _ rfl
  have b5:W.cell? ⟨w.heap.size+1,5,none⟩=some (.slice Ap flt.parts.length cp):=hc 5 _ rfl
  have b6:W.cell? ⟨w.heap.size+1,6,none⟩=some (.slice Ak flt.kids.length ck):=hc 6 _ rfl
  have b7:W.cell? ⟨w.heap.size+1,7,none⟩=some (.slice An names.length cn):=hc 7 _ rfl
  have b8:W.cell? ⟨w.heap.size+1,8,none⟩=some (.int .i64 limit):=hc 8 _ rfl
  clear hc hc1 hszW
  go_upto_region 3 with (go_at_call 103;refine (kM _ hbW).mono ?_;rintro e w1 ⟨rfl,hb1⟩)
  replace b0:=cell_later hb1 b0
  replace b1:=cell_later hb1 b1
  replace b2:=cell_later hb1 b2
  replace b3:=cell_later hb1 b3
  replace b4:=cell_later hb1 b4
  replace b5:=cell_later hb1 b5
  replace b6:=cell_later hb1 b6
  replace b7:=cell_later hb1 b7
  replace b8:=cell_later hb1 b8
  have hbw1:=hbW.trans (hb1.mono hbW.size)
  go_wp2_with (go_at_call 96;refine (kB _ hbw1).mono ?_;rintro e w2 ⟨rfl,hb2⟩)
  go_ret2
  rw[HF.out]
  exact RetQ.no (hbw1.trans (hb2.mono hbw1.size))
 subst h0
 have HF:Hid (r=qRes s (qExam es q (ixCand sx (ns.map Idn.lower) ix q.flt)) q):=HR.out
 replace kS:=kS rfl
 rw[←HF.out]at kF
 generalize qExam es q (ixCand sx (ns.map Idn.lower) ix q.flt)=S at *
 clear HR hsub hTy hCl HF hq hlen
 obtain ⟨base,scope,flt,names,limit⟩:=q
 dsimp only at *
 go_enter Tryz.func35,Tryz.ntmps35
 go_upto_region 1 with fail
 with_reducible refine gen2 (R:=fun W=>Code.wp Tryz.prog _ _ _ W) ?_
 intro W hbW hszW hc1 hc
 have s0:W.cell? ⟨w.heap.size,0,none⟩=some (.slice A1 s.types.length c1):=hc1 0 _ rfl
 have s1:W.cell? ⟨w.heap.size,1,none⟩=some (.slice A2 s.classes.length c2):=hc1 1 _ rfl
 have b0:W.cell? ⟨w.heap.size+1,0,none⟩=some (.string (B base)):=hc 0 _ rfl
 have b1:W.cell? ⟨w.heap.size+1,1,none⟩=some (.int .i64 scope):=hc 1 _ rfl
 have b2:W.cell? ⟨w.heap.size+1,2,none⟩=some (.int .i64 flt.kind):=hc 2 _ rfl
 have b3:W.cell? ⟨w.heap.size+1,3,none⟩=some (.string (B flt.name)):=hc 3 _ rfl
 have b4:W.cell? ⟨w.heap.size+1,4,none⟩=some (.string (B flt.value)):=hc 4 _ rfl
 have b5:W.cell? ⟨w.heap.size+1,5,none⟩=some (.slice Ap flt.parts.length cp):=hc 5 _ rfl
 have b6:W.cell? ⟨w.heap.size+1,6,none⟩=some (.slice Ak flt.kids.length ck):=hc 6 _ rfl
 have b7:W.cell? ⟨w.heap.size+1,7,none⟩=some (.slice An names.length cn):=hc 7 _ rfl
 have b8:W.cell? ⟨w.heap.size+1,8,none⟩=some (.int .i64 limit):=hc 8 _ rfl
 clear hc hc1 hszW
 go_upto_region 3 with (go_at_call 103;refine (kM _ hbW).mono ?_;rintro e w1 ⟨rfl,hb1⟩)
 have hbw1:=hbW.trans (hb1.mono hbW.size)
 replace s0:=cell_later hb1 s0
 replace s1:=cell_later hb1 s1
 replace b0:=cell_later hb1 b0
 replace b1:=cell_later hb1 b1
 replace b2:=cell_later hb1 b2
 replace b3:=cell_later hb1 b3
 replace b4:=cell_later hb1 b4
 replace b5:=cell_later hb1 b5
 replace b6:=cell_later hb1 b6
 replace b7:=cell_later hb1 b7
 replace b8:=cell_later hb1 b8
 go_upto_region 6 with (go_at_call 96;refine (kB _ hbw1).mono ?_;rintro e w2 ⟨rfl,hb2⟩)
 have hbw2:=hbw1.trans (hb2.mono hbw1.size)
 replace s0:=cell_later hb2 s0
 replace s1:=cell_later hb2 s1
 replace b0:=cell_later hb2 b0
 replace b1:=cell_later hb2 b1
 replace b2:=cell_later hb2 b2
 replace b3:=cell_later hb2 b3
 replace b4:=cell_later hb2 b4
 replace b5:=cell_later hb2 b5
 replace b6:=cell_later hb2 b6
 replace b7:=cell_later hb2 b7
 replace b8:=cell_later hb2 b8
 have hSt:∀W':World,Below w2.heap.size w2 W'→(W'.cell? ⟨w.heap.size,0,none⟩=some (.slice A1 s.types.length c1)∧W'.cell? ⟨w.heap.size,1,none⟩=some (.slice A2 s.classes.length c2)∧W'.cell? ⟨w.heap.size+1,0,none⟩=some (.string (B base))∧W'.cell? ⟨w.heap.size+1,1,none⟩=some (.int .i64 scope)∧W'.cell? ⟨w.heap.size+1,2,none⟩=some (.int .i64 flt.kind)∧W'.cell? ⟨w.heap.size+1,3,none⟩=some (.string (B flt.name))∧W'.cell? ⟨w.heap.size+1,4,none⟩=some (.string (B flt.value))∧W'.cell? ⟨w.heap.size+1,5,none⟩=some (.slice Ap flt.parts.length cp)∧W'.cell? ⟨w.heap.size+1,6,none⟩=some (.slice Ak flt.kids.length ck)∧W'.cell? ⟨w.heap.size+1,7,none⟩=some (.slice An names.length cn)∧W'.cell? ⟨w.heap.size+1,8,none⟩=some (.int .i64 limit)∧Below w2.heap.size w2 W'):=fun W' h=>⟨cell_later h s0,cell_later h s1,cell_later h b0,cell_later h b1,cell_later h b2,cell_later h b3,cell_later h b4,cell_later h b5,cell_later h b6,cell_later h b7,cell_later h b8,h⟩
 have kS2:=fun W (hW:Below w2.heap.size w2 W)=>kS W (hbw2.trans (hW.mono hbw2.size))
 have kF2:=fun lv W (hW:Below w2.heap.size w2 W) hL=>(kF lv W (hbw2.trans (hW.mono hbw2.size)) hL).mono (R':=fun e w'=>RetQ w r e w'∧Below w2.heap.size w2 w') fun e w' h=>⟨h.up (hbw2.trans (hW.mono hbw2.size)),by obtain ⟨_,_,_,_,_,h4⟩:=h;exact hW.trans (h4.mono hW.size)⟩
 clear kB kM kS kF hT hI hE hbW hb2 hb1 hbw1
 go_region_held3 (fun W'=>W'.cell? ⟨w.heap.size,0,none⟩=some (.slice A1 s.types.length c1)∧W'.cell? ⟨w.heap.size,1,none⟩=some (.slice A2 s.classes.length c2)∧W'.cell? ⟨w.heap.size+1,0,none⟩=some (.string (B base))∧W'.cell? ⟨w.heap.size+1,1,none⟩=some (.int .i64 scope)∧W'.cell? ⟨w.heap.size+1,2,none⟩=some (.int .i64 flt.kind)∧W'.cell? ⟨w.heap.size+1,3,none⟩=some (.string (B flt.name))∧W'.cell? ⟨w.heap.size+1,4,none⟩=some (.string (B flt.value))∧W'.cell? ⟨w.heap.size+1,5,none⟩=some (.slice Ap flt.parts.length cp)∧W'.cell? ⟨w.heap.size+1,6,none⟩=some (.slice Ak flt.kids.length ck)∧W'.cell? ⟨w.heap.size+1,7,none⟩=some (.slice An names.length cn)∧W'.cell? ⟨w.heap.size+1,8,none⟩=some (.int .i64 limit)∧Below w2.heap.size w2 W')
  (first|(refine hSt _ ?_;repeat (first|with_reducible exact Below.refl _ _|with_reducible apply Below.drew|with_reducible exact hb6|with_reducible refine Below.on ?_ hb5)))
  (first
   |(go_at_call 97;refine (kF2 _ _ (by repeat (first|with_reducible exact Below.refl _ _|with_reducible apply Below.drew|with_reducible refine Below.on ?_ hb5)) (hL5 _ (by repeat (first|with_reducible exact Below.refl _ _|with_reducible apply Below.drew)))).mono ?_;rintro e w6 ⟨⟨v6,qs6,rfl,hrow6,hqs6,hbw6⟩,hb6⟩;obtain ⟨k6,c6,hsh6⟩:=own_shape hrow6.1;subst hsh6)
   |(go_at_call 104;refine (kS2 _ (by repeat (first|with_reducible exact Below.refl _ _|with_reducible apply Below.drew))).mono ?_;rintro e w5 ⟨k5,c5,qs5,rfl,hrow5,hps5,hb5⟩;have hL5:=fun V (hV:Below w5.heap.size w5 V)=>EntsV.mono (EntsV.keep (hrow5.ents hps5) hV) hV.size))
 go_wp2_with fail
 go_ret2
 exact ⟨_,qs6,rfl,hrow6,hqs6,hbw6⟩
theorem seExamd_any (sv0 : Value) (s : Idn.Sch) (hS : SchV w w.heap.size sv0 s) (hE : ∀ W, Below w.heap.size w W → Env W ∧ EnvU W) (hT : TrV w hs lo pt es mb g) (hG : GdT es) (hI : IxV w hs' lo' px sx ns ix ta cb eb vb gx ts G) (hGI : GdI sx ns ix) (hq : QryV w w.heap.size d v q) (hsm : QSm q) :
    Calls Tryz.prog 37 #[sv0,.pointer (some ⟨pt,0,none⟩),.pointer (some ⟨px,0,none⟩),v] w fun e w'=>e=.returned (.int .i64 (if qFirst es q≠0 then 0 else (qExam es q (ixCand sx (ns.map Idn.lower) ix q.flt)).length:Int))∧Below w.heap.size w w':=by
 have kM:=fun W (hW:Below w.heap.size w W)=>seMade_any (hI.keep hW)
 have kB:=fun W (hW:Below w.heap.size w W)=>seFirst_any (hT.keep hW) hG (hq.on hW) hsm
 have kS:=fun h0 W (hW:Below w.heap.size w W)=>seExam_any (hT.keep hW) hG (hI.keep hW) hGI (fun V hV=>hE V (hW.trans (hV.mono hW.size))) (hq.on hW) hsm h0
 obtain ⟨Ap,cp,Ak,ck,An,cn,rfl,_,_⟩:=hq.shape
 obtain ⟨sa,sb,rfl,hTy,hCl⟩:=hS
 obtain ⟨A1,c1,rfl,_⟩:=SlV.shape hTy
 obtain ⟨A2,c2,rfl,_⟩:=SlV.shape hCl
 obtain ⟨r,hr⟩:∃r:Int,r=(if qFirst es q≠0 then (0:Int)else ((qExam es q (ixCand sx (ns.map Idn.lower) ix q.flt)).length:Int)):=⟨_,rfl⟩
 rw[←hr]
 have HR:=Lib.hid hr
 generalize qExam es q (ixCand sx (ns.map Idn.lower) ix q.flt)=S at *
 generalize qFirst es q=f0 at *
 clear hr hTy hCl hq hT hI hE
 obtain ⟨base,scope,flt,names,limit⟩:=q
 dsimp only at *
 go_enter Tryz.func37,Tryz.ntmps37
 go_upto_region 1 with fail
 with_reducible refine gen2 (R:=fun W=>Code.wp Tryz.prog _ _ _ W) ?_
 intro W hbW hszW hc1 hc
 have b0:W.cell? ⟨w.heap.size+1,0,none⟩=some (.string (B base)):=hc 0 _ rfl
 have b1:W.cell? ⟨w.heap.size+1,1,none⟩=some (.int .i64 scope):=hc 1 _ rfl
 have b2:W.cell? ⟨w.heap.size+1,2,none⟩=some (.int .i64 flt.kind):=hc 2 _ rfl
 have b3:W.cell? ⟨w.heap.size+1,3,none⟩=some (.string (B flt.name)):=hc 3 _ rfl
 have b4:W.cell? ⟨w.heap.size+1,4,none⟩=some (.string (B flt.value)):=hc 4 _ rfl
 have b5:W.cell? ⟨w.heap.size+1,5,none⟩=some (.slice Ap flt.parts.length cp):=hc 5 _ rfl
 have b6:W.cell? ⟨w.heap.size+1,6,none⟩=some (.slice Ak flt.kids.length ck):=hc 6 _ rfl
 have b7:W.cell? ⟨w.heap.size+1,7,none⟩=some (.slice An names.length cn):=hc 7 _ rfl
 have b8:W.cell? ⟨w.heap.size+1,8,none⟩=some (.int .i64 limit):=hc 8 _ rfl
 clear hc hc1 hszW
 by_cases h0:f0=0
 ·subst h0
  have HF:Hid (r=S.length):=HR.out
  replace kS:=kS rfl
  clear HR
  go_upto_region 3 with (first
   | (go_at_call 103; refine (kM _ hbW).mono ?_; rintro e w1 ⟨rfl, hb1⟩
      replace b0:=cell_later hb1 b0
      replace b1:=cell_later hb1 b1
      replace b2:=cell_later hb1 b2
      replace b3:=cell_later hb1 b3
      replace b4:=cell_later hb1 b4
      replace b5:=cell_later hb1 b5
      replace b6:=cell_later hb1 b6
      replace b7:=cell_later hb1 b7
      replace b8:=cell_later hb1 b8)
   | (go_at_call 96; refine (kB _ (hbW.trans (hb1.mono hbW.size))).mono ?_; rintro e w2 ⟨rfl, hb2⟩
      replace b0:=cell_later hb2 b0
      replace b1:=cell_later hb2 b1
      replace b2:=cell_later hb2 b2
      replace b3:=cell_later hb2 b3
      replace b4:=cell_later hb2 b4
      replace b5:=cell_later hb2 b5
      replace b6:=cell_later hb2 b6
      replace b7:=cell_later hb2 b7
      replace b8:=cell_later hb2 b8))
  have hbw1:=hbW.trans (hb1.mono hbW.size)
  have hbw2:=hbw1.trans (hb2.mono hbw1.size)
  go_wp2_with (go_at_call 104;refine (kS _ hbw2).mono ?_;rintro e w3 ⟨k3,c3,qs3,rfl,_,_,hb3⟩)
  go_ret
  exact ⟨ret_int HF.out.symm,hbw2.trans (hb3.mono hbw2.size)⟩
 ·have HF:Hid (r=0):=by show _=_;rw[HR.out,if_pos h0]
  have hI0:(f0 !=0)=true:=by simpa using h0
  clear HR kS
  go_wp2_with (first
   | (go_at_call 103; refine (kM _ hbW).mono ?_; rintro e w1 ⟨rfl, hb1⟩
      replace b0:=cell_later hb1 b0
      replace b1:=cell_later hb1 b1
      replace b2:=cell_later hb1 b2
      replace b3:=cell_later hb1 b3
      replace b4:=cell_later hb1 b4
      replace b5:=cell_later hb1 b5
      replace b6:=cell_later hb1 b6
      replace b7:=cell_later hb1 b7
      replace b8:=cell_later hb1 b8)
   |(go_at_call 96;refine (kB _ (hbW.trans (hb1.mono hbW.size))).mono ?_;rintro e w2 ⟨rfl,hb2⟩))
  have hbw1:=hbW.trans (hb1.mono hbW.size)
  go_ret
  exact ⟨ret_int HF.out.symm,hbw1.trans (hb2.mono hbw1.size)⟩
end
end Go.Proofs.YtbkkchhimhlhcaaGreatDoor
/- law12: live. -/
namespace Go.Proofs.YtbkkchhimhlhcaaGreatDoor
open Go.RowKit Go.Sort
open Idn (L B Bs drop_L take_L size_L)
theorem live12_any (w:World) (hE:Env w) (hU:EnvU w):Calls Tryz.prog 22 #[] w fun e w'=>e=.returned (.bool true)∧Below w.heap.size w w':=by
 have hEv:∀W,Below w.heap.size w W→Env W∧EnvU W:=fun W hW=>⟨hE.keep hW,hU.keep hW⟩
 go_enter Tryz.func22,Tryz.ntmps22
 go_upto_region 2 with (go_at_call 79;refine (example12_any _).mono ?_;rintro e w1 ⟨v1,rfl,hD1,hb1⟩;obtain ⟨A1,c1,A2,c2,A3,c3,A4,c4,A5,c5,hsh,_,_,_,_⟩:=hD1.shape;subst hsh)
 with_reducible refine gen1 (R:=fun W=>Code.wp Tryz.prog _ _ _ W) ?_
 intro W hbW hszW hc _
 have b0:W.cell? ⟨w1.heap.size,0,none⟩=some (.slice A1 E12.dat.sch.types.length c1):=hc 0 _ rfl
 have b1:W.cell? ⟨w1.heap.size,1,none⟩=some (.slice A2 E12.dat.sch.classes.length c2):=hc 1 _ rfl
 have b2:W.cell? ⟨w1.heap.size,2,none⟩=some (.slice A3 E12.dat.roots.length c3):=hc 2 _ rfl
 have b3:W.cell? ⟨w1.heap.size,3,none⟩=some (.slice A4 E12.dat.ents.length c4):=hc 3 _ rfl
 have b4:W.cell? ⟨w1.heap.size,4,none⟩=some (.slice A5 E12.dat.idx.length c5):=hc 4 _ rfl
 clear hc hszW
 have hDW:=hD1.on hbW
 have hbw:=hb1.trans (hbW.mono hb1.size)
 have hP:=program12_any W hDW E12.dsm E12.ssm fun V hV=>hEv V (hbw.trans (hV.mono hbw.size))
 go_upto_region 3 with fail
 refine hP.mono ?_
 rintro e w2 ⟨hb2,⟨_,_,lo,pt,mb,g,px,rfl,hT,hG,hok⟩|⟨hbad,_⟩⟩
 case inr=>
  exact absurd ⟨show (trNew [E12.staffN]).1=0 by rw[E12.ev_tn],E12.ev_nw⟩ hbad
 have hes:addsE E12.dat.ents (trNew E12.dat.roots).2=E12.es:=by
  show addsE [(E12.annN,E12.annL),(E12.bobN,E12.bobL)] (trNew [E12.staffN]).2=_
  rw[E12.ev_tn,E12.ev_es]
 rw[hes]at hT hG hok
 rw[hes,E12.ev_ok]
 obtain ⟨hs,lo',ta,cb,eb,vb,gx,ts,G,hI,hGI⟩:=hok E12.ev_ok
 have hbw2:=hbw.trans (hb2.mono hbw.size)
 have hD2:=hDW.on hb2
 replace b0:=cell_later hb2 b0
 replace b1:=cell_later hb2 b1
 clear hP hok hes hD1 hDW b2 b3 b4 hb1 hbW hb2 hbw
 go_upto_region 7 with fail
 with_reducible refine gen2 (R:=fun W=>Code.wp Tryz.prog _ _ _ W) ?_
 intro X hbX hszX hc1 hc2
 have p0:X.cell? ⟨w2.heap.size,0,none⟩=some (.int .i64 1):=hc1 0 _ rfl
 have p1:X.cell? ⟨w2.heap.size,1,none⟩=some (.string ⟨#[]⟩):=hc1 1 _ rfl
 have p2:X.cell? ⟨w2.heap.size,2,none⟩=some (.string ⟨#[]⟩):=hc1 2 _ rfl
 have p3:X.cell? ⟨w2.heap.size,3,none⟩=some (.slice none 0 0):=hc1 3 _ rfl
 have p4:X.cell? ⟨w2.heap.size,4,none⟩=some (.slice none 0 0):=hc1 4 _ rfl
 have r0:X.cell? ⟨w2.heap.size+1,0,none⟩=some (.int .i64 4):=hc2 0 _ rfl
 have r1:X.cell? ⟨w2.heap.size+1,1,none⟩=some (.string ⟨#[99,110]⟩):=hc2 1 _ rfl
 have r2:X.cell? ⟨w2.heap.size+1,2,none⟩=some (.string ⟨#[65,110,110]⟩):=hc2 2 _ rfl
 have r3:X.cell? ⟨w2.heap.size+1,3,none⟩=some (.slice none 0 0):=hc2 3 _ rfl
 have r4:X.cell? ⟨w2.heap.size+1,4,none⟩=some (.slice none 0 0):=hc2 4 _ rfl
 clear hc1 hc2 hszX
 replace b0:=cell_later hbX b0
 replace b1:=cell_later hbX b1
 have hbwX:=hbw2.trans (hbX.mono hbw2.size)
 have hEX:∀V,Below X.heap.size X V→Env V∧EnvU V:=fun V hV=>hEv V (hbwX.trans (hV.mono hbwX.size))
 replace hT:=hT.keep hbX
 replace hI:=hI.keep hbX
 obtain ⟨_,_,_,_,_,hsh,hS2,_,_,_⟩:=hD2.on hbX
 obtain ⟨rfl,rfl⟩:Value.slice A1 E12.dat.sch.types.length c1=_∧Value.slice A2 E12.dat.sch.classes.length c2=_:=by injection hsh with h;simp at h;exact ⟨h.1,h.2.1⟩
 clear hsh hD2 hbX hbw2
 have kQ:=fun (V:World) (sc lim:Int)=>query12_any (w:=V) (d:=1) (v:=.agg #[.int .i64 1,.string ⟨#[]⟩,.string ⟨#[]⟩,.slice none 0 0,.slice none 0 0]) (f:=E12.fAll) ⟨_,_,rfl,SlV.nil _ _ _ _,SlV.nil _ _ _ _⟩ sc lim
 have kR:=fun (V:World) (sc lim:Int)=>query12_any (w:=V) (d:=1) (v:=.agg #[.int .i64 4,.string ⟨#[99,110]⟩,.string ⟨#[65,110,110]⟩,.slice none 0 0,.slice none 0 0]) (f:=E12.fAnn) ⟨_,_,rfl,SlV.nil _ _ _ _,SlV.nil _ _ _ _⟩ sc lim
 have hcd:ixCand E12.dat.sch (E12.dat.idx.map Idn.lower) E12.es E12.fAnn=([E12.annN],true):=by
  show ixCand E12.sch ([E8.cnN].map Idn.lower) E12.es E12.fAnn=_
  rw[E12.ev_idx,E12.ev_cd]
 have kS1:=fun Y (hY:Below X.heap.size X Y) V (hV:Below Y.heap.size Y V) vq (hq:QryV V V.heap.size 1 vq (E12.qry E12.fAll 3 5))=>(seScan_any _ E12.sch (SchV.mono (SchV.keep hS2 (Below.on hY hV)) (Below.on hY hV).size) E12.ssm (hEX V (Below.on hY hV)).1 (hEX V (Below.on hY hV)).2 (hT.keep (Below.on hY hV)) hG hq (E12.sm _ E12.fsAll 3 5)).mono (R':=fun e w'=>(∃g c,e=.returned (.tuple #[.slice (some ⟨g,0,none⟩) 3 c,.int .i64 0])∧w'.cell? ⟨g,0,none⟩=some (.string ⟨#[111,117,61,115,116,97,102,102]⟩))∧Below Y.heap.size Y w') fun e w' h=>by
  rw[E12.ev_s1]at h
  obtain ⟨g,c,a,ca,h1,h2,_,h4⟩:=RetQ.head h
  exact ⟨⟨g,c,h1,h2⟩,Below.on hV h4⟩
 have kS3:=fun Y (hY:Below X.heap.size X Y) V (hV:Below Y.heap.size Y V) vq (hq:QryV V V.heap.size 1 vq (E12.qry E12.fAll 2 1))=>(seScan_any _ E12.sch (SchV.mono (SchV.keep hS2 (Below.on hY hV)) (Below.on hY hV).size) E12.ssm (hEX V (Below.on hY hV)).1 (hEX V (Below.on hY hV)).2 (hT.keep (Below.on hY hV)) hG hq (E12.sm _ E12.fsAll 2 1)).mono (R':=fun e w'=>(∃k n c,e=.returned (.tuple #[.slice k n c,.int .i64 3]))∧Below Y.heap.size Y w') fun e w' h=>by
  rw[E12.ev_s3]at h
  obtain ⟨v,qs,h1,h2,_,h4⟩:=h
  obtain ⟨k,c,h5⟩:=own_shape h2.1
  exact ⟨⟨k,_,c,by rw[h1,h5]⟩,Below.on hV h4⟩
 have kR2:=fun Y (hY:Below X.heap.size X Y) V (hV:Below Y.heap.size Y V) vq (hq:QryV V V.heap.size 1 vq (E12.qry E12.fAnn 2 1))=>(seRun_any _ E12.sch (SchV.mono (SchV.keep hS2 (Below.on hY hV)) (Below.on hY hV).size) E12.ssm (fun U hU=>hEX U (Below.on (Below.on hY hV) hU)) (hT.keep (Below.on hY hV)) hG (hI.keep (Below.on hY hV)) hGI hq (E12.sm _ E12.fsAnn 2 1)).mono (R':=fun e w'=>(∃g c a ca,e=.returned (.tuple #[.slice (some ⟨g,0,none⟩) 1 c,.int .i64 0])∧w'.cell? ⟨g,0,none⟩=some (.string ⟨#[99,110,61,97,110,110,44,111,117,61,115,116,97,102,102]⟩)∧w'.cell? ⟨g,1,none⟩=some (.slice a 1 ca))∧Below Y.heap.size Y w') fun e w' h=>by
  rw[show (E12.qry E12.fAnn 2 1).flt=E12.fAnn from rfl,hcd,E12.ev_r2]at h
  obtain ⟨g,c,a,ca,h1,h2,h3,h4⟩:=RetQ.head h
  exact ⟨⟨g,c,a,ca,h1,h2,h3⟩,Below.on hV h4⟩
 have kX4:=fun Y (hY:Below X.heap.size X Y) V (hV:Below Y.heap.size Y V) vq (hq:QryV V V.heap.size 1 vq (E12.qry E12.fAnn 3 1))=>(seExamd_any _ E12.sch (SchV.mono (SchV.keep hS2 (Below.on hY hV)) (Below.on hY hV).size) (fun U hU=>hEX U (Below.on (Below.on hY hV) hU)) (hT.keep (Below.on hY hV)) hG (hI.keep (Below.on hY hV)) hGI hq (E12.sm _ E12.fsAnn 3 1)).mono (R':=fun e w'=>e=.returned (.int .i64 1)∧Below Y.heap.size Y w') fun e w' h=>by
  rw[show (E12.qry E12.fAnn 3 1).flt=E12.fAnn from rfl,hcd,E12.ev_x4]at h
  exact ⟨h.1,Below.on hV h.2⟩
 have hbX:Below X.heap.size X X:=Below.refl _ _
 have hsC:QSm (E12.qry E12.fAll 2 0):=E12.sm _ E12.fsAll 2 0
 clear hT hI hGI hG hS2 hcd hEX
 have hSt7:∀V:World,Below X.heap.size X V→(V.cell? ⟨w1.heap.size,0,none⟩=some (.slice A1 E12.dat.sch.types.length c1)∧V.cell? ⟨w1.heap.size,1,none⟩=some (.slice A2 E12.dat.sch.classes.length c2)∧V.cell? ⟨w2.heap.size,0,none⟩=some (.int .i64 1)∧V.cell? ⟨w2.heap.size,1,none⟩=some (.string ⟨#[]⟩)∧V.cell? ⟨w2.heap.size,2,none⟩=some (.string ⟨#[]⟩)∧V.cell? ⟨w2.heap.size,3,none⟩=some (.slice none 0 0)∧V.cell? ⟨w2.heap.size,4,none⟩=some (.slice none 0 0)∧Below X.heap.size X V):=fun V hV=>⟨cell_later hV b0,cell_later hV b1,cell_later hV p0,cell_later hV p1,cell_later hV p2,cell_later hV p3,cell_later hV p4,hV⟩
 have kf7:=kS1 X hbX
 go_region_held3 (fun W'=>W'.cell? ⟨w1.heap.size,0,none⟩=some (.slice A1 E12.dat.sch.types.length c1)∧W'.cell? ⟨w1.heap.size,1,none⟩=some (.slice A2 E12.dat.sch.classes.length c2)∧W'.cell? ⟨w2.heap.size,0,none⟩=some (.int .i64 1)∧W'.cell? ⟨w2.heap.size,1,none⟩=some (.string ⟨#[]⟩)∧W'.cell? ⟨w2.heap.size,2,none⟩=some (.string ⟨#[]⟩)∧W'.cell? ⟨w2.heap.size,3,none⟩=some (.slice none 0 0)∧W'.cell? ⟨w2.heap.size,4,none⟩=some (.slice none 0 0)∧Below X.heap.size X W')
  (first|(refine hSt7 _ ?_;repeat (first|with_reducible exact Below.refl _ _|with_reducible apply Below.drew|with_reducible exact hf7|with_reducible refine Below.on ?_ hq7b)))
  (first
   |(go_at_call 31;refine (kf7 _ (by repeat (first|with_reducible exact Below.refl _ _|with_reducible apply Below.drew|with_reducible refine Below.on ?_ hq7b)) _ (hq7.on (by repeat (first|with_reducible exact Below.refl _ _|with_reducible apply Below.drew)))).mono ?_;rintro e Y1 ⟨⟨g1,n1,rfl,s1⟩,hf7⟩)
   |(go_at_call 80;refine (kQ _ 3 5).mono ?_;rintro e u7 ⟨_,_,_,_,_,_,rfl,hq7,hq7b⟩))
 have hbY1:Below X.heap.size X Y1:=hbX.trans (hf7.mono hbX.size)
 replace b0:=cell_later hf7 b0
 replace b1:=cell_later hf7 b1
 replace p0:=cell_later hf7 p0
 replace p1:=cell_later hf7 p1
 replace p2:=cell_later hf7 p2
 replace p3:=cell_later hf7 p3
 replace p4:=cell_later hf7 p4
 replace r0:=cell_later hf7 r0
 replace r1:=cell_later hf7 r1
 replace r2:=cell_later hf7 r2
 replace r3:=cell_later hf7 r3
 replace r4:=cell_later hf7 r4
 clear hq7 hq7b kf7 hSt7 kS1
 go_upto_region 8 with fail
 have hSt8:∀V:World,Below Y1.heap.size Y1 V→(V.cell? ⟨w1.heap.size,0,none⟩=some (.slice A1 E12.dat.sch.types.length c1)∧V.cell? ⟨w1.heap.size,1,none⟩=some (.slice A2 E12.dat.sch.classes.length c2)∧V.cell? ⟨w2.heap.size+1,0,none⟩=some (.int .i64 4)∧V.cell? ⟨w2.heap.size+1,1,none⟩=some (.string ⟨#[99,110]⟩)∧V.cell? ⟨w2.heap.size+1,2,none⟩=some (.string ⟨#[65,110,110]⟩)∧V.cell? ⟨w2.heap.size+1,3,none⟩=some (.slice none 0 0)∧V.cell? ⟨w2.heap.size+1,4,none⟩=some (.slice none 0 0)∧Below Y1.heap.size Y1 V):=fun V hV=>⟨cell_later hV b0,cell_later hV b1,cell_later hV r0,cell_later hV r1,cell_later hV r2,cell_later hV r3,cell_later hV r4,hV⟩
 have kf8:=kR2 Y1 hbY1
 go_region_held3 (fun W'=>W'.cell? ⟨w1.heap.size,0,none⟩=some (.slice A1 E12.dat.sch.types.length c1)∧W'.cell? ⟨w1.heap.size,1,none⟩=some (.slice A2 E12.dat.sch.classes.length c2)∧W'.cell? ⟨w2.heap.size+1,0,none⟩=some (.int .i64 4)∧W'.cell? ⟨w2.heap.size+1,1,none⟩=some (.string ⟨#[99,110]⟩)∧W'.cell? ⟨w2.heap.size+1,2,none⟩=some (.string ⟨#[65,110,110]⟩)∧W'.cell? ⟨w2.heap.size+1,3,none⟩=some (.slice none 0 0)∧W'.cell? ⟨w2.heap.size+1,4,none⟩=some (.slice none 0 0)∧Below Y1.heap.size Y1 W')
  (first|(refine hSt8 _ ?_;repeat (first|with_reducible exact Below.refl _ _|with_reducible apply Below.drew|with_reducible exact hf8|with_reducible refine Below.on ?_ hq8b)))
  (first
   |(go_at_call 35;refine (kf8 _ (by repeat (first|with_reducible exact Below.refl _ _|with_reducible apply Below.drew|with_reducible refine Below.on ?_ hq8b)) _ (hq8.on (by repeat (first|with_reducible exact Below.refl _ _|with_reducible apply Below.drew)))).mono ?_;rintro e Y2 ⟨⟨g2,n2,a2,ca2,rfl,s2,s2b⟩,hf8⟩)
   |(go_at_call 80;refine (kR _ 2 1).mono ?_;rintro e u8 ⟨_,_,_,_,_,_,rfl,hq8,hq8b⟩))
 have hbY2:Below X.heap.size X Y2:=hbY1.trans (hf8.mono hbY1.size)
 replace b0:=cell_later hf8 b0
 replace b1:=cell_later hf8 b1
 replace p0:=cell_later hf8 p0
 replace p1:=cell_later hf8 p1
 replace p2:=cell_later hf8 p2
 replace p3:=cell_later hf8 p3
 replace p4:=cell_later hf8 p4
 replace r0:=cell_later hf8 r0
 replace r1:=cell_later hf8 r1
 replace r2:=cell_later hf8 r2
 replace r3:=cell_later hf8 r3
 replace r4:=cell_later hf8 r4
 replace s1:=cell_later hf8 s1
 clear hq8 hq8b kf8 hSt8 kR2
 go_upto_region 9 with fail
 have hSt9:∀V:World,Below Y2.heap.size Y2 V→(V.cell? ⟨w1.heap.size,0,none⟩=some (.slice A1 E12.dat.sch.types.length c1)∧V.cell? ⟨w1.heap.size,1,none⟩=some (.slice A2 E12.dat.sch.classes.length c2)∧V.cell? ⟨w2.heap.size,0,none⟩=some (.int .i64 1)∧V.cell? ⟨w2.heap.size,1,none⟩=some (.string ⟨#[]⟩)∧V.cell? ⟨w2.heap.size,2,none⟩=some (.string ⟨#[]⟩)∧V.cell? ⟨w2.heap.size,3,none⟩=some (.slice none 0 0)∧V.cell? ⟨w2.heap.size,4,none⟩=some (.slice none 0 0)∧Below Y2.heap.size Y2 V):=fun V hV=>⟨cell_later hV b0,cell_later hV b1,cell_later hV p0,cell_later hV p1,cell_later hV p2,cell_later hV p3,cell_later hV p4,hV⟩
 have kf9:=kS3 Y2 hbY2
 go_region_held3 (fun W'=>W'.cell? ⟨w1.heap.size,0,none⟩=some (.slice A1 E12.dat.sch.types.length c1)∧W'.cell? ⟨w1.heap.size,1,none⟩=some (.slice A2 E12.dat.sch.classes.length c2)∧W'.cell? ⟨w2.heap.size,0,none⟩=some (.int .i64 1)∧W'.cell? ⟨w2.heap.size,1,none⟩=some (.string ⟨#[]⟩)∧W'.cell? ⟨w2.heap.size,2,none⟩=some (.string ⟨#[]⟩)∧W'.cell? ⟨w2.heap.size,3,none⟩=some (.slice none 0 0)∧W'.cell? ⟨w2.heap.size,4,none⟩=some (.slice none 0 0)∧Below Y2.heap.size Y2 W')
  (first|(refine hSt9 _ ?_;repeat (first|with_reducible exact Below.refl _ _|with_reducible apply Below.drew|with_reducible exact hf9|with_reducible refine Below.on ?_ hq9b)))
  (first
   |(go_at_call 31;refine (kf9 _ (by repeat (first|with_reducible exact Below.refl _ _|with_reducible apply Below.drew|with_reducible refine Below.on ?_ hq9b)) _ (hq9.on (by repeat (first|with_reducible exact Below.refl _ _|with_reducible apply Below.drew)))).mono ?_;rintro e Y3 ⟨⟨k3,m3,n3,rfl⟩,hf9⟩)
   |(go_at_call 80;refine (kQ _ 2 1).mono ?_;rintro e u9 ⟨_,_,_,_,_,_,rfl,hq9,hq9b⟩))
 have hbY3:Below X.heap.size X Y3:=hbY2.trans (hf9.mono hbY2.size)
 replace b0:=cell_later hf9 b0
 replace b1:=cell_later hf9 b1
 replace p0:=cell_later hf9 p0
 replace p1:=cell_later hf9 p1
 replace p2:=cell_later hf9 p2
 replace p3:=cell_later hf9 p3
 replace p4:=cell_later hf9 p4
 replace r0:=cell_later hf9 r0
 replace r1:=cell_later hf9 r1
 replace r2:=cell_later hf9 r2
 replace r3:=cell_later hf9 r3
 replace r4:=cell_later hf9 r4
 replace s1:=cell_later hf9 s1
 replace s2:=cell_later hf9 s2
 replace s2b:=cell_later hf9 s2b
 clear hq9 hq9b kf9 hSt9 kS3
 go_upto_region 10 with fail
 have hSt10:∀V:World,Below Y3.heap.size Y3 V→(V.cell? ⟨w1.heap.size,0,none⟩=some (.slice A1 E12.dat.sch.types.length c1)∧V.cell? ⟨w1.heap.size,1,none⟩=some (.slice A2 E12.dat.sch.classes.length c2)∧V.cell? ⟨w2.heap.size+1,0,none⟩=some (.int .i64 4)∧V.cell? ⟨w2.heap.size+1,1,none⟩=some (.string ⟨#[99,110]⟩)∧V.cell? ⟨w2.heap.size+1,2,none⟩=some (.string ⟨#[65,110,110]⟩)∧V.cell? ⟨w2.heap.size+1,3,none⟩=some (.slice none 0 0)∧V.cell? ⟨w2.heap.size+1,4,none⟩=some (.slice none 0 0)∧Below Y3.heap.size Y3 V):=fun V hV=>⟨cell_later hV b0,cell_later hV b1,cell_later hV r0,cell_later hV r1,cell_later hV r2,cell_later hV r3,cell_later hV r4,hV⟩
 have kf10:=kX4 Y3 hbY3
 go_region_held3 (fun W'=>W'.cell? ⟨w1.heap.size,0,none⟩=some (.slice A1 E12.dat.sch.types.length c1)∧W'.cell? ⟨w1.heap.size,1,none⟩=some (.slice A2 E12.dat.sch.classes.length c2)∧W'.cell? ⟨w2.heap.size+1,0,none⟩=some (.int .i64 4)∧W'.cell? ⟨w2.heap.size+1,1,none⟩=some (.string ⟨#[99,110]⟩)∧W'.cell? ⟨w2.heap.size+1,2,none⟩=some (.string ⟨#[65,110,110]⟩)∧W'.cell? ⟨w2.heap.size+1,3,none⟩=some (.slice none 0 0)∧W'.cell? ⟨w2.heap.size+1,4,none⟩=some (.slice none 0 0)∧Below Y3.heap.size Y3 W')
  (first|(refine hSt10 _ ?_;repeat (first|with_reducible exact Below.refl _ _|with_reducible apply Below.drew|with_reducible exact hf10|with_reducible refine Below.on ?_ hq10b)))
  (first
   |(go_at_call 37;refine (kf10 _ (by repeat (first|with_reducible exact Below.refl _ _|with_reducible apply Below.drew|with_reducible refine Below.on ?_ hq10b)) _ (hq10.on (by repeat (first|with_reducible exact Below.refl _ _|with_reducible apply Below.drew)))).mono ?_;rintro e Y4 ⟨rfl,hf10⟩)
   |(go_at_call 80;refine (kR _ 3 1).mono ?_;rintro e u10 ⟨_,_,_,_,_,_,rfl,hq10,hq10b⟩))
 have hbY4:Below X.heap.size X Y4:=hbY3.trans (hf10.mono hbY3.size)
 replace p0:=cell_later hf10 p0
 replace p1:=cell_later hf10 p1
 replace p2:=cell_later hf10 p2
 replace p3:=cell_later hf10 p3
 replace p4:=cell_later hf10 p4
 replace s1:=cell_later hf10 s1
 replace s2:=cell_later hf10 s2
 replace s2b:=cell_later hf10 s2b
 clear hq10 hq10b kf10 hSt10 kX4 b0 b1 r0 r1 r2 r3 r4 kR
 go_upto_region 11 with fail
 have hfb:=hbwX.trans (hbY4.mono hbwX.size)
 go_wp2_with fail
 refine (kQ Y4 2 0).mono ?_
 rintro e z1 ⟨_,_,_,_,_,_,rfl,hz1,hc1⟩
 have kC:=seCheck_any hz1 hsC
 rw[show qChk ⟨E12.staffN,2,E12.fAll,[E12.CN],0⟩=27 from E12.ev_c5]at kC
 have hd1:=Below.on hfb hc1
 replace p0:=cell_later hc1 p0
 replace p1:=cell_later hc1 p1
 replace p2:=cell_later hc1 p2
 replace p3:=cell_later hc1 p3
 replace p4:=cell_later hc1 p4
 go_wp2_with fail
 refine kC.mono ?_
 rintro e z2 ⟨rfl,hc2⟩
 have hd2:=Below.on hd1 hc2
 replace p0:=cell_later hc2 p0
 replace p1:=cell_later hc2 p1
 replace p2:=cell_later hc2 p2
 replace p3:=cell_later hc2 p3
 replace p4:=cell_later hc2 p4
 clear kC hz1
 go_wp2_with fail
 refine (kQ z2 2 1).mono ?_
 rintro e z3 ⟨_,_,_,_,_,_,rfl,hz3,hc3⟩
 have kI:=seIn_any hz3 (by show E12.staffN.length≤_;decide) E12.annN (by decide)
 rw[show qIn ⟨E12.staffN,2,E12.fAll,[E12.CN],1⟩ E12.annN=true from E12.ev_i6]at kI
 have hd3:=Below.on hd2 hc3
 replace p0:=cell_later hc3 p0
 replace p1:=cell_later hc3 p1
 replace p2:=cell_later hc3 p2
 replace p3:=cell_later hc3 p3
 replace p4:=cell_later hc3 p4
 go_wp2_with fail
 refine kI.mono ?_
 rintro e z4 ⟨rfl,hc4⟩
 have hd4:=Below.on hd3 hc4
 replace p0:=cell_later hc4 p0
 replace p1:=cell_later hc4 p1
 replace p2:=cell_later hc4 p2
 replace p3:=cell_later hc4 p3
 replace p4:=cell_later hc4 p4
 clear kI hz3
 go_wp2_with fail
 refine (kQ z4 2 1).mono ?_
 rintro e z5 ⟨_,_,_,_,_,_,rfl,hz5,hc5⟩
 have kJ:=seIn_any hz5 (by show E12.staffN.length≤_;decide) E12.staffN (by decide)
 rw[show qIn ⟨E12.staffN,2,E12.fAll,[E12.CN],1⟩ E12.staffN=false from E12.ev_i7]at kJ
 have hd5:=Below.on hd4 hc5
 go_wp2_with fail
 refine kJ.mono ?_
 rintro e z6 ⟨rfl,hc6⟩
 go_wp2_with fail
 go_ret
 exact ⟨rfl,Below.on hd5 hc6⟩
end Go.Proofs.YtbkkchhimhlhcaaGreatDoor
/- law12: SearchOrders. -/
namespace Go.Proofs.YtbkkchhimhlhcaaGreatDoor
open Go.RowKit Go.Sort
open Idn (L B Bs drop_L take_L size_L)
theorem scan_len {s:Idn.Sch} {es:List IxE} {q:Qry}:(qScan s es q).1.length≤es.length:=by
 unfold qScan
 split
 ·exact Nat.zero_le _
 ·unfold qRes
  split
  ·exact Nat.zero_le _
  ·show (List.map _ _).length≤_
   rw[List.length_map]
   unfold qScope
   exact Nat.le_trans (List.length_filter_le _ _) (List.length_filter_le _ _)
end Go.Proofs.YtbkkchhimhlhcaaGreatDoor
/- identityref12: SameAttrs, Same. -/
namespace Go.Proofs.YtbkkchhimhlhcaaGreatDoor
open Go.RowKit Go.Sort
open Idn (L B Bs drop_L take_L size_L)
theorem att_ext12 {a b:Idn.Att} (h1:a.name=b.name) (h2:a.vals=b.vals):a=b:=by cases a;cases b;simp_all
theorem r12_SameAttrs_any (v u : Value) (a b : List Idn.Att) (r : Bool) (hr : r = true ↔ a = b) (w : World) (hv : AttsV w w.heap.size v a) (hu : AttsV w w.heap.size u b) (ha : a.length ≤ 1000000000) (hb : b.length ≤ 1000000000) (hav : ∀ m ∈ a, m.vals.length ≤ 1000000000) (hbv : ∀ m ∈ b, m.vals.length ≤ 1000000000) :
  Calls Tryz.prog 102 #[v,u] w fun e w'=>e=.returned (.bool r)∧Below w.heap.size w w':=by
 obtain ⟨A,c,rfl,_⟩:=SlV.shape hv
 obtain ⟨A2,c2,rfl,_⟩:=SlV.shape hu
 go_enter Tryz.func102,Tryz.ntmps102
 by_cases h0:a.length=b.length
 ·have h0I:((a.length:Int) !=(b.length:Int))=false:=by rw[h0];simp
  have H0:=Lib.hid h0
  have HRR:=Lib.hid hr
  clear h0 hr
  go_wp2_with fail
  go_loopw [5] (fun i wr=>∃(k:Nat),k≤a.length∧i=.int .i64 k∧Below w.heap.size w wr∧Hid (a.take k=b.take k)) (fun i _=>a.length-(intOf i).toNat)
  case atStart=>exact ⟨0,Nat.zero_le _,rfl,Below.refl _ _,rfl⟩
  case round=>
   obtain ⟨k,hk,rfl,hbw,hinv⟩:=hrel
   obtain ⟨wo,hwo⟩:∃wo:World,wo=wr:=⟨_,rfl⟩
   subst hwo
   by_cases hlt:k<a.length
   ·have hlt':k<b.length:=by have:=H0.out;omega
    obtain ⟨b1,o1,v1,hA,hb1,d0,d1,ds⟩:=AttsV.cell (AttsV.keep hv hbw) hlt
    obtain ⟨b2,o2,v2,hA2,hb2,e0,e1,es⟩:=AttsV.cell (AttsV.keep hu hbw) hlt'
    subst hA hA2
    obtain ⟨Av,cv,rfl,_⟩:=ds.shape
    obtain ⟨Aw,cw,rfl,_⟩:=es.shape
    have hltI:(k:Int)<(a.length:Int):=by omega
    have hltJ:(k:Int)<(b.length:Int):=by omega
    have ht:=B_beq a[k].name b[k].name
    have k0:=cell_regrown d0
    have k1:=cell_regrown d1
    have l0:=cell_regrown e0
    have l1:=cell_regrown e1
    have hne:=get_ne hlt hlt'
    have hte:=take_ext hinv.out hlt hlt'
    have hva:=hav _ (List.getElem_mem hlt)
    have hvb:=hbv _ (List.getElem_mem hlt')
    clear hinv
    generalize a[k]=x at *
    generalize b[k]=y at *
    by_cases hn:x.name=y.name
    case neg=>
     rw[decide_eq_false hn]at ht
     have HF:=Lib.hid (no_true HRR.out (hne fun e=>hn (by rw[e])))
     clear hn hne hte ds es
     go_wp2
     refine wp_region_quiet_below (by kernel_rfl) (by kernel_rfl) ?_
     repeat (first|go_big_quiet_step ((fail))|quiet_step ((fail)))
     refine wpQuiet_nil ?_
     intro _ hw'
     obtain ⟨⟨dq,osq⟩,hw''⟩:=hw'
     subst hw''
     have hb4:=below_regrown wo dq osq
     generalize grow (redrawn wo dq) osq=W4 at hb4⊢
     go_wp2_with fail
     go_ret
     exact ⟨ret_bool HF.out.symm,hbw.trans (hb4.mono hbw.size)⟩
    rw[decide_eq_true hn]at ht
    by_cases hvl:x.vals.length=y.vals.length
    case neg=>
     have hvI:((x.vals.length:Int) !=(y.vals.length:Int))=true:=by rw[bne_iff_ne];omega
     have HF:=Lib.hid (no_true HRR.out (hne fun e=>hvl (by rw[e])))
     clear hn hne hte ds es hvl
     go_wp2
     refine wp_region_quiet_below (by kernel_rfl) (by kernel_rfl) ?_
     repeat (first|go_big_quiet_step ((fail))|quiet_step ((fail)))
     refine wpQuiet_nil ?_
     intro _ hw'
     obtain ⟨⟨dq,osq⟩,hw''⟩:=hw'
     subst hw''
     have hb4:=below_regrown wo dq osq
     generalize grow (redrawn wo dq) osq=W4 at hb4⊢
     go_wp2_with fail
     go_ret
     exact ⟨ret_bool HF.out.symm,hbw.trans (hb4.mono hbw.size)⟩
    have hvI:((x.vals.length:Int) !=(y.vals.length:Int))=false:=by rw[hvl];simp
    have HVL:=Lib.hid hvl
    have HN:=Lib.hid hn
    have HNE:=Lib.hid hne
    have HTE:=Lib.hid hte
    clear hn hne hte hvl
    go_wp2
    refine wp_region_quiet_below (by kernel_rfl) (by kernel_rfl) ?_
    repeat (first|go_big_quiet_step ((fail))|quiet_step ((fail)))
    refine wpQuiet_nil ?_
    intro _ hw'
    obtain ⟨⟨dq,osq⟩,hw''⟩:=hw'
    subst hw''
    have hb4:=below_regrown wo dq osq
    generalize grow (redrawn wo dq) osq=W4 at hb4⊢
    clear k0 k1 l0 l1
    replace d0:=cell_later hb4 d0
    replace d1:=cell_later hb4 d1
    replace e0:=cell_later hb4 e0
    replace e1:=cell_later hb4 e1
    have hbw4:=hbw.trans (hb4.mono hbw.size)
    go_wp2_with fail
    go_loopw [6] (fun i wi=>∃(m:Nat),m≤x.vals.length∧i=.int .i64 m∧Below W4.heap.size W4 wi∧Hid (x.vals.take m=y.vals.take m)) (fun i _=>x.vals.length-(intOf i).toNat)
    case atStart=>exact ⟨0,Nat.zero_le _,rfl,Below.refl _ _,rfl⟩
    case round=>
     rename World=>wq
     obtain ⟨m,hm,rfl,hbi,hin2⟩:=hrel
     obtain ⟨wi,hwi⟩:∃wi:World,wi=wq:=⟨_,rfl⟩
     subst hwi
     replace d1:=cell_later hbi d1
     replace e1:=cell_later hbi e1
     have hbwi:=hbw4.trans (hbi.mono hbw4.size)
     by_cases hmt:m<x.vals.length
     ·have hmt':m<y.vals.length:=by have:=HVL.out;omega
      obtain ⟨b3,o3,hA3,_,f0⟩:=StrsV.cell (SlV.keep ds ((Below.on hb4 hbi).mono hbw.size)) hmt
      obtain ⟨b4,o4,hA4,_,f1⟩:=StrsV.cell (SlV.keep es ((Below.on hb4 hbi).mono hbw.size)) hmt'
      subst hA3 hA4
      have hmI:(m:Int)<(x.vals.length:Int):=by omega
      have hmJ:(m:Int)<(y.vals.length:Int):=by omega
      have htv:=B_beq x.vals[m] y.vals[m]
      have k1:=cell_regrown d1
      have l1:=cell_regrown e1
      have k2:=cell_regrown f0
      have l2:=cell_regrown f1
      by_cases he:x.vals[m]=y.vals[m]
      ·have HF:=Lib.hid (take_ext hin2.out hmt hmt' he)
       rw[decide_eq_true he]at htv
       clear hin2 he
       go_wp2
       refine wp_region_quiet_below (by kernel_rfl) (by kernel_rfl) ?_
       repeat (first|go_big_quiet_step ((fail))|quiet_step ((fail)))
       refine wpQuiet_nil ?_
       intro _ hw'
       obtain ⟨⟨dq,osq⟩,hw''⟩:=hw'
       subst hw''
       have hb6:=below_regrown wi dq osq
       generalize grow (redrawn wi dq) osq=W6 at hb6⊢
       go_wp2_with fail
       go_roundw
       case rel=>exact ⟨m+1,by omega,by go_num,hbi.trans (hb6.mono hbi.size),HF⟩
       case measure=>simp[intOf];omega
      ·have HF:=Lib.hid (no_true HRR.out (HNE.out fun e=>get_ne hmt hmt' he (by rw[e])))
       rw[decide_eq_false he]at htv
       clear hin2 he
       go_wp2
       refine wp_region_quiet_below (by kernel_rfl) (by kernel_rfl) ?_
       repeat (first|go_big_quiet_step ((fail))|quiet_step ((fail)))
       refine wpQuiet_nil ?_
       intro _ hw'
       obtain ⟨⟨dq,osq⟩,hw''⟩:=hw'
       subst hw''
       have hb6:=below_regrown wi dq osq
       generalize grow (redrawn wi dq) osq=W6 at hb6⊢
       go_wp2_with fail
       go_ret
       exact ⟨ret_bool HF.out.symm,hbwi.trans (hb6.mono hbwi.size)⟩
     ·have hmI:¬(m:Int)<(x.vals.length:Int):=by omega
      have hve:x.vals=y.vals:=by
       have h1:=hin2.out
       have h2:=HVL.out
       rwa[List.take_of_length_le (by omega),List.take_of_length_le (by omega)]at h1
      have HF:=Lib.hid (HTE.out (att_ext12 HN.out hve))
      clear hin2 hve
      go_wp2_with fail
      go_roundw
      case rel=>exact ⟨k+1,by omega,by go_num,hbwi,HF⟩
      case measure=>simp[intOf];omega
   ·have hltI:¬(k:Int)<(a.length:Int):=by omega
    have hltJ:¬(k:Int)<(b.length:Int):=by have:=H0.out;omega
    have HF:Hid (r=true):=HRR.out.2 (by
     have h1:=hinv.out
     have h2:=H0.out
     rwa[List.take_of_length_le (by omega),List.take_of_length_le (by omega)]at h1)
    clear hinv
    go_wp2
    go_ret
    exact ⟨ret_bool HF.out.symm,hbw⟩
 ·have h0I:((a.length:Int) !=(b.length:Int))=true:=by rw[bne_iff_ne];omega
  have HF:=Lib.hid (no_true hr fun h=>h0 (by rw[h]))
  go_wp2_with fail
  go_ret
  exact ⟨ret_bool HF.out.symm,Below.refl _ _⟩
theorem r12_Same_any (v u : Value) (a b : List EntP) (r : Bool) (hr : r = true ↔ a = b) (w : World) (hv : EntsV w w.heap.size v a) (hu : EntsV w w.heap.size u b) (ha : a.length ≤ 1000000000) (hb : b.length ≤ 1000000000) (hav : ∀ m ∈ a, m.2.length ≤ 1000000000 ∧ ∀ x ∈ m.2, x.vals.length ≤ 1000000000) (hbv : ∀ m ∈ b, m.2.length ≤ 1000000000 ∧ ∀ x ∈ m.2, x.vals.length ≤ 1000000000) :
  Calls Tryz.prog 33 #[v,u] w fun e w'=>e=.returned (.bool r)∧Below w.heap.size w w':=by
 obtain ⟨A,c,rfl,_⟩:=SlV.shape hv
 obtain ⟨A2,c2,rfl,_⟩:=SlV.shape hu
 go_enter Tryz.func33,Tryz.ntmps33
 by_cases h0:a.length=b.length
 ·have h0I:((a.length:Int) !=(b.length:Int))=false:=by rw[h0];simp
  have H0:=Lib.hid h0
  have HRR:=Lib.hid hr
  clear h0 hr
  go_wp2_with fail
  go_loopw [5] (fun i wr=>∃(k:Nat),k≤a.length∧i=.int .i64 k∧Below w.heap.size w wr∧Hid (a.take k=b.take k)) (fun i _=>a.length-(intOf i).toNat)
  case atStart=>exact ⟨0,Nat.zero_le _,rfl,Below.refl _ _,rfl⟩
  case round=>
   obtain ⟨k,hk,rfl,hbw,hinv⟩:=hrel
   obtain ⟨wo,hwo⟩:∃wo:World,wo=wr:=⟨_,rfl⟩
   subst hwo
   by_cases hlt:k<a.length
   ·have hlt':k<b.length:=by have:=H0.out;omega
    obtain ⟨b1,o1,v1,hA,hb1,d0,d1,ds⟩:=EntsV.cell (EntsV.keep hv hbw) hlt
    obtain ⟨b2,o2,v2,hA2,hb2,e0,e1,es⟩:=EntsV.cell (EntsV.keep hu hbw) hlt'
    subst hA hA2
    obtain ⟨Av,cv,rfl,_⟩:=ds.shape
    obtain ⟨Aw,cw,rfl,_⟩:=es.shape
    have hltI:(k:Int)<(a.length:Int):=by omega
    have hltJ:(k:Int)<(b.length:Int):=by omega
    have ht:=B_beq a[k].1 b[k].1
    obtain ⟨hva,hva2⟩:=hav _ (List.getElem_mem hlt)
    obtain ⟨hvb,hvb2⟩:=hbv _ (List.getElem_mem hlt')
    have q0:=fun (rr:Bool) (hrr:rr=true↔a[k].2=b[k].2) (W:World) (hW:Below wo.heap.size wo W)=>r12_SameAttrs_any _ _ a[k].2 b[k].2 rr hrr W (AttsV.mono (AttsV.keep ds (hW.mono hbw.size)) (hbw.trans (hW.mono hbw.size)).size) (AttsV.mono (AttsV.keep es (hW.mono hbw.size)) (hbw.trans (hW.mono hbw.size)).size) hva hvb hva2 hvb2
    have k0:=cell_regrown d0
    have k1:=cell_regrown d1
    have l0:=cell_regrown e0
    have l1:=cell_regrown e1
    have hne:=get_ne hlt hlt'
    have hte:=take_ext hinv.out hlt hlt'
    clear hinv ds es d0 d1 e0 e1 hva hva2 hvb hvb2
    generalize a[k]=x at *
    generalize b[k]=y at *
    by_cases hn:x.1=y.1
    case neg=>
     rw[decide_eq_false hn]at ht
     have HF:=Lib.hid (no_true HRR.out (hne fun e=>hn (by rw[e])))
     clear hn q0 hne hte
     go_wp2
     refine wp_region_quiet_below (by kernel_rfl) (by kernel_rfl) ?_
     repeat (first|go_big_quiet_step ((fail))|quiet_step ((fail)))
     refine wpQuiet_nil ?_
     intro _ hw'
     obtain ⟨⟨dq,osq⟩,hw''⟩:=hw'
     subst hw''
     have hb4:=below_regrown wo dq osq
     generalize grow (redrawn wo dq) osq=W4 at hb4⊢
     go_wp2_with fail
     go_ret
     exact ⟨ret_bool HF.out.symm,hbw.trans (hb4.mono hbw.size)⟩
    rw[decide_eq_true hn]at ht
    by_cases hs:x.2=y.2
    case neg=>
     have q1:=cq (W:=wo) (q0 false ⟨fun h=>(by cases h),fun h=>absurd h hs⟩)
     have HF:=Lib.hid (no_true HRR.out (hne fun e=>hs (by rw[e])))
     clear hn q0 hne hte hs
     go_wp2
     refine wp_region_quiet_below (by kernel_rfl) (by kernel_rfl) ?_
     repeat (first|go_big_quiet_step ((go_at_call 102;exact q1 _ _))|quiet_step ((go_at_call 102;exact q1 _ _)))
     refine wpQuiet_nil ?_
     intro _ hw'
     obtain ⟨⟨dq,osq⟩,hw''⟩:=hw'
     subst hw''
     have hb4:=below_regrown wo dq osq
     generalize grow (redrawn wo dq) osq=W4 at hb4⊢
     clear q1
     go_wp2_with fail
     go_ret
     exact ⟨ret_bool HF.out.symm,hbw.trans (hb4.mono hbw.size)⟩
    have q1:=cq (W:=wo) (q0 true ⟨fun _=>hs,fun _=>rfl⟩)
    have HF:=Lib.hid (hte (Prod.ext hn hs))
    clear hn q0 hne hte hs
    go_wp2
    refine wp_region_quiet_below (by kernel_rfl) (by kernel_rfl) ?_
    repeat (first|go_big_quiet_step ((go_at_call 102;exact q1 _ _))|quiet_step ((go_at_call 102;exact q1 _ _)))
    refine wpQuiet_nil ?_
    intro _ hw'
    obtain ⟨⟨dq,osq⟩,hw''⟩:=hw'
    subst hw''
    have hb4:=below_regrown wo dq osq
    generalize grow (redrawn wo dq) osq=W4 at hb4⊢
    clear q1
    go_wp2_with fail
    go_roundw
    case rel=>exact ⟨k+1,by omega,by go_num,hbw.trans (hb4.mono hbw.size),HF⟩
    case measure=>simp[intOf];omega
   ·have hltI:¬(k:Int)<(a.length:Int):=by omega
    have hltJ:¬(k:Int)<(b.length:Int):=by have:=H0.out;omega
    have HF:Hid (r=true):=HRR.out.2 (by
     have h1:=hinv.out
     have h2:=H0.out
     rwa[List.take_of_length_le (by omega),List.take_of_length_le (by omega)]at h1)
    clear hinv
    go_wp2
    go_ret
    exact ⟨ret_bool HF.out.symm,hbw⟩
 ·have h0I:((a.length:Int) !=(b.length:Int))=true:=by rw[bne_iff_ne];omega
  have HF:=Lib.hid (no_true hr fun h=>h0 (by rw[h]))
  go_wp2_with fail
  go_ret
  exact ⟨ret_bool HF.out.symm,Below.refl _ _⟩
end Go.Proofs.YtbkkchhimhlhcaaGreatDoor
/- law12: SearchAgrees. -/
namespace Go.Proofs.YtbkkchhimhlhcaaGreatDoor
open Go.RowKit Go.Sort
open Idn (L B Bs drop_L take_L size_L)
theorem scan_sm {s:Idn.Sch} {es:List IxE} {q:Qry} (hG:GdT es):∀m∈(qScan s es q).1,m.2.length≤1000000000∧∀x∈m.2,x.vals.length≤1000000000:=by
 have key:∀e∈es,∀ns,(pickA e.2 ns).length≤1000000000∧∀x∈pickA e.2 ns,x.vals.length≤1000000000:=fun e he ns=>by
  have hs:=hG.srt he
  have hm:=hG.sm he
  unfold pickA
  rw[hs]
  refine ⟨by have:=List.length_filter_le (fun a:Idn.Att=>ns.isEmpty||(ns.map Idn.lower).contains a.name) e.2;have:=hm.1;omega,fun x hx=>?_⟩
  have:=(hm.2 x (List.mem_filter.1 hx).1).2.1
  omega
 unfold qScan
 split
 ·intro m hm;cases hm
 ·unfold qRes
  split
  ·intro m hm;cases hm
  ·intro m hm
   obtain ⟨e,he,rfl⟩:=List.mem_map.1 hm
   exact key e (List.mem_filter.1 (List.mem_filter.1 he).1).1 q.names
theorem exam_len {es:List IxE} {q:Qry} {c:List Bs×Bool}:(qExam es q c).length≤(qScope es q).length:=by
 unfold qExam
 split
 ·exact List.length_filter_le _ _
 ·exact Nat.le_refl _
theorem scan_lim {s:Idn.Sch} {es:List IxE} {q:Qry} (h:(qScan s es q).2=0):(qScan s es q).1.length≤(qScope es q).length∧((qScan s es q).1.length:Int)≤q.limit:=by
 unfold qScan at h⊢
 by_cases h0:qFirst es q≠0
 ·rw[if_pos h0]at h;exact absurd h h0
 ·rw[if_neg h0]at h⊢
  unfold qRes at h⊢
  split
  ·rename_i h1
   rw[if_pos h1]at h;cases h
  ·rename_i h1
   show (List.map _ _).length≤_∧((List.map _ _).length:Int)≤_
   rw[List.length_map]
   exact ⟨List.length_filter_le _ _,by omega⟩
theorem searchAgrees_any (v : Value) (d : Dat) (dq : Nat) (qv : Value) (q : Qry) (w : World) (hD : DatV w w.heap.size v d) (hg : GD d 1048576) (hq : QryV w w.heap.size dq qv q) (hgq : GQ q 1048576) (hE : Env w) (hU : EnvU w) :
    Calls Tryz.prog 7 #[v,qv] w fun e w'=>e=.returned (.bool true)∧Below w.heap.size w w':=by
 have hEv:∀W,Below w.heap.size w W→Env W∧EnvU W:=fun W hW=>⟨hE.keep hW,hU.keep hW⟩
 have kL:=fun W (hW:Below w.heap.size w W)=>live12_any W (hE.keep hW) (hU.keep hW)
 have kG:=fun W (hW:Below w.heap.size w W)=>large12_any (hD.on hW) hg.len
 have kQ:=fun W (hW:Below w.heap.size w W)=>long12_any (hq.on hW) hgq.len.1 hgq.len.2
 have hssm:=hg.ssm
 have kP:=fun (hs:DSm d) W (hW:Below w.heap.size w W)=>program12_any W (hD.on hW) hs hssm fun V hV=>hEv V (hW.trans (hV.mono hW.size))
 have kQv:=fun W (hW:Below w.heap.size w W)=>hq.on hW
 obtain ⟨A1,c1,A2,c2,A3,c3,A4,c4,A5,c5,rfl,hS,_,_,_⟩:=hD.shape
 have kSv:=fun W (hW:Below w.heap.size w W)=>SchV.mono (SchV.keep hS hW) hW.size
 obtain ⟨Ap,cp,Ak,ck,An,cn,rfl,_,_⟩:=hq.shape
 clear hD hq hg hgq hS hE hU
 obtain ⟨base,scope,flt,names,limit⟩:=q
 obtain ⟨s,roots,ents,idx⟩:=d
 dsimp only at *
 go_enter Tryz.func7,Tryz.ntmps7
 go_upto_region 1 with fail
 with_reducible refine gen2 (R:=fun W=>Code.wp Tryz.prog _ _ _ W) ?_
 intro W hbW hszW hc1 hc2
 have a0:W.cell? ⟨w.heap.size,0,none⟩=some (.slice A1 s.types.length c1):=hc1 0 _ rfl
 have a1:W.cell? ⟨w.heap.size,1,none⟩=some (.slice A2 s.classes.length c2):=hc1 1 _ rfl
 have a2:W.cell? ⟨w.heap.size,2,none⟩=some (.slice A3 roots.length c3):=hc1 2 _ rfl
 have a3:W.cell? ⟨w.heap.size,3,none⟩=some (.slice A4 ents.length c4):=hc1 3 _ rfl
 have a4:W.cell? ⟨w.heap.size,4,none⟩=some (.slice A5 idx.length c5):=hc1 4 _ rfl
 have b0:W.cell? ⟨w.heap.size+1,0,none⟩=some (.string (B base)):=hc2 0 _ rfl
 have b1:W.cell? ⟨w.heap.size+1,1,none⟩=some (.int .i64 scope):=hc2 1 _ rfl
 have b2:W.cell? ⟨w.heap.size+1,2,none⟩=some (.int .i64 flt.kind):=hc2 2 _ rfl
 have b3:W.cell? ⟨w.heap.size+1,3,none⟩=some (.string (B flt.name)):=hc2 3 _ rfl
 have b4:W.cell? ⟨w.heap.size+1,4,none⟩=some (.string (B flt.value)):=hc2 4 _ rfl
 have b5:W.cell? ⟨w.heap.size+1,5,none⟩=some (.slice Ap flt.parts.length cp):=hc2 5 _ rfl
 have b6:W.cell? ⟨w.heap.size+1,6,none⟩=some (.slice Ak flt.kids.length ck):=hc2 6 _ rfl
 have b7:W.cell? ⟨w.heap.size+1,7,none⟩=some (.slice An names.length cn):=hc2 7 _ rfl
 have b8:W.cell? ⟨w.heap.size+1,8,none⟩=some (.int .i64 limit):=hc2 8 _ rfl
 clear hc1 hc2 hszW
 go_upto_region 3 with (go_at_call 22;refine (kL W hbW).mono ?_;rintro e w1 ⟨rfl,hb1⟩)
 have hbw1:=hbW.trans (hb1.mono hbW.size)
 replace a0:=cell_later hb1 a0
 replace a1:=cell_later hb1 a1
 replace a2:=cell_later hb1 a2
 replace a3:=cell_later hb1 a3
 replace a4:=cell_later hb1 a4
 replace b0:=cell_later hb1 b0
 replace b1:=cell_later hb1 b1
 replace b2:=cell_later hb1 b2
 replace b3:=cell_later hb1 b3
 replace b4:=cell_later hb1 b4
 replace b5:=cell_later hb1 b5
 replace b6:=cell_later hb1 b6
 replace b7:=cell_later hb1 b7
 replace b8:=cell_later hb1 b8
 clear kL hb1 hbW
 go_wp2_with fail
 refine (kG w1 hbw1).mono ?_
 rintro e w2 ⟨r2,rfl,hr2,hb2⟩
 have hbw2:=hbw1.trans (hb2.mono hbw1.size)
 replace a0:=cell_later hb2 a0
 replace a1:=cell_later hb2 a1
 replace a2:=cell_later hb2 a2
 replace a3:=cell_later hb2 a3
 replace a4:=cell_later hb2 a4
 replace b0:=cell_later hb2 b0
 replace b1:=cell_later hb2 b1
 replace b2:=cell_later hb2 b2
 replace b3:=cell_later hb2 b3
 replace b4:=cell_later hb2 b4
 replace b5:=cell_later hb2 b5
 replace b6:=cell_later hb2 b6
 replace b7:=cell_later hb2 b7
 replace b8:=cell_later hb2 b8
 have HR2:=Lib.hid hr2
 clear kG hb2 hr2 hbw1
 cases r2
 case true=>
  clear kQ kP kQv kSv HR2
  go_wp2_with fail
  go_ret
  exact ⟨rfl,hbw2⟩
 have hds:=HR2.out rfl
 replace kP:=kP hds
 go_wp2_with fail
 refine (kQ w2 hbw2).mono ?_
 rintro e w3 ⟨r3,rfl,hr3,hb3⟩
 have hbw3:=hbw2.trans (hb3.mono hbw2.size)
 replace a0:=cell_later hb3 a0
 replace a1:=cell_later hb3 a1
 replace a2:=cell_later hb3 a2
 replace a3:=cell_later hb3 a3
 replace a4:=cell_later hb3 a4
 replace b0:=cell_later hb3 b0
 replace b1:=cell_later hb3 b1
 replace b2:=cell_later hb3 b2
 replace b3:=cell_later hb3 b3
 replace b4:=cell_later hb3 b4
 replace b5:=cell_later hb3 b5
 replace b6:=cell_later hb3 b6
 replace b7:=cell_later hb3 b7
 replace b8:=cell_later hb3 b8
 have HR3:=Lib.hid hr3
 clear kQ hb3 hr3 hbw2 HR2
 cases r3
 case true=>
  clear kP kQv kSv HR3
  go_wp2_with fail
  go_ret
  exact ⟨rfl,hbw3⟩
 have hqs:=(HR3.out rfl).sm
 clear HR3
 generalize hes:addsE ents (trNew roots).2=es at *
 have hpr:=kP w3 hbw3
 unfold RetPr at hpr
 dsimp only at hpr
 rw[hes]at hpr
 clear kP hes
 generalize hpo:putsOk es []=po at *
 have HPO:=Lib.hid hpo
 clear hpo
 go_upto_region 6 with fail
 refine hpr.mono ?_
 rintro e w4 ⟨hb4,⟨_,_,lo,pt,mb,g,px,rfl,hT,hG,hok⟩|⟨_,rfl⟩⟩
 case inr=>
  have hbw4:=hbw3.trans (hb4.mono hbw3.size)
  clear kQv kSv hpr
  go_wp2_with fail
  go_ret
  exact ⟨rfl,hbw4⟩
 have hbw4:=hbw3.trans (hb4.mono hbw3.size)
 replace a0:=cell_later hb4 a0
 replace a1:=cell_later hb4 a1
 replace a2:=cell_later hb4 a2
 replace a3:=cell_later hb4 a3
 replace a4:=cell_later hb4 a4
 replace b0:=cell_later hb4 b0
 replace b1:=cell_later hb4 b1
 replace b2:=cell_later hb4 b2
 replace b3:=cell_later hb4 b3
 replace b4:=cell_later hb4 b4
 replace b5:=cell_later hb4 b5
 replace b6:=cell_later hb4 b6
 replace b7:=cell_later hb4 b7
 replace b8:=cell_later hb4 b8
 clear hpr hb4
 cases po
 case false=>
  clear kQv kSv hT hG hok
  go_wp2_with fail
  go_ret
  exact ⟨rfl,hbw4⟩
 obtain ⟨hs,lo',ta,cb,eb,vb,gx,ts,Gx,hI,hGI⟩:=hok rfl
 clear hok
 go_upto_region 8 with fail
 try dsimp only at hI hGI
 have kS:=fun V (hV:Below w4.heap.size w4 V)=>seScan_any _ s (kSv V (hbw4.trans (hV.mono hbw4.size))) hssm (hEv V (hbw4.trans (hV.mono hbw4.size))).1 (hEv V (hbw4.trans (hV.mono hbw4.size))).2 (hT.keep hV) hG (kQv V (hbw4.trans (hV.mono hbw4.size))) hqs
 have kR:=fun V (hV:Below w4.heap.size w4 V)=>seRun_any _ s (kSv V (hbw4.trans (hV.mono hbw4.size))) hssm (fun U hU=>hEv U (hbw4.trans ((Below.on hV hU).mono hbw4.size))) (hT.keep hV) hG (hI.keep hV) hGI (kQv V (hbw4.trans (hV.mono hbw4.size))) hqs
 have kX:=fun V (hV:Below w4.heap.size w4 V)=>seExamd_any _ s (kSv V (hbw4.trans (hV.mono hbw4.size))) (fun U hU=>hEv U (hbw4.trans ((Below.on hV hU).mono hbw4.size))) (hT.keep hV) hG (hI.keep hV) hGI (kQv V (hbw4.trans (hV.mono hbw4.size))) hqs
 rw[run_scan]at kR
 have hsl:=scan_len (s:=s) (es:=es) (q:=(⟨base,scope,flt,names,limit⟩:Qry))
 have hsm:=scan_sm (s:=s) (q:=(⟨base,scope,flt,names,limit⟩:Qry)) hG
 have hlm:=scan_lim (s:=s) (es:=es) (q:=(⟨base,scope,flt,names,limit⟩:Qry))
 have hgl:=hG.len
 have kIn:=fun (n:Bs) (hn:n.length≤1000000) V (hV:Below w4.heap.size w4 V)=>seIn_any (kQv V (hbw4.trans (hV.mono hbw4.size))) hqs.base n hn
 have hnm:=hG.nam
 have kT:=fun V (hV:Below w4.heap.size w4 V)=>trSub_any (hT.keep hV) hG [] (by decide)
 rw[sub_all hG.ok]at kT
 have kT':∀V,Below w4.heap.size w4 V→Calls Tryz.prog 40 #[.pointer (some ⟨pt,0,none⟩),.string ⟨#[]⟩] V fun e w'=>∃v qs,e=.returned v∧EntRow w' V.heap.size v qs∧qs.map (·.1)=es∧Below V.heap.size V w':=kT
 obtain ⟨xl,hxl⟩:∃xl:Int,xl=(if qFirst es (⟨base,scope,flt,names,limit⟩:Qry)≠0 then 0 else (qExam es (⟨base,scope,flt,names,limit⟩:Qry) (ixCand s (idx.map Idn.lower) es (⟨base,scope,flt,names,limit⟩:Qry).flt)).length:Int):=⟨_,rfl⟩
 have hxn:xl≤((qScope es (⟨base,scope,flt,names,limit⟩:Qry)).length:Int):=by
  rw[hxl]
  split
  ·omega
  ·have:=exam_len (es:=es) (q:=(⟨base,scope,flt,names,limit⟩:Qry)) (c:=ixCand s (idx.map Idn.lower) es (⟨base,scope,flt,names,limit⟩:Qry).flt)
   omega
 rw[←hxl]at kX
 have hsc:∀M:Bs→Bool,M=(fun n=>qIn (⟨base,scope,flt,names,limit⟩:Qry) n)→(es.filter fun e=>M e.1)=qScope es (⟨base,scope,flt,names,limit⟩:Qry):=fun M hM=>by rw[hM];rfl
 clear kT hxl hT hG hI hGI hssm kSv
 generalize qScan s es (⟨base,scope,flt,names,limit⟩:Qry)=rs at *
 obtain ⟨R,re⟩:=rs
 dsimp only at hsl hsm hlm
 generalize hqS:qScope es (⟨base,scope,flt,names,limit⟩:Qry)=Q at *
 clear hqS
 go_upto_region 9 with (go_at_call 31;refine (kS w4 (Below.refl _ _)).mono ?_;rintro e w5 ⟨v5,qs5,rfl,hrow5,hres5,hb5⟩;obtain ⟨A5',c5',hsh⟩:=own_shape hrow5.1;subst hsh)
 replace a0:=cell_later hb5 a0
 replace a1:=cell_later hb5 a1
 replace a2:=cell_later hb5 a2
 replace a3:=cell_later hb5 a3
 replace a4:=cell_later hb5 a4
 replace b0:=cell_later hb5 b0
 replace b1:=cell_later hb5 b1
 replace b2:=cell_later hb5 b2
 replace b3:=cell_later hb5 b3
 replace b4:=cell_later hb5 b4
 replace b5:=cell_later hb5 b5
 replace b6:=cell_later hb5 b6
 replace b7:=cell_later hb5 b7
 replace b8:=cell_later hb5 b8
 go_upto_region 10 with (go_at_call 35;refine (kR w5 hb5).mono ?_;rintro e w6 ⟨v6,qs6,rfl,hrow6,hres6,hb6⟩;obtain ⟨A6,c6,hsh⟩:=own_shape hrow6.1;subst hsh)
 replace a0:=cell_later hb6 a0
 replace a1:=cell_later hb6 a1
 replace a2:=cell_later hb6 a2
 replace a3:=cell_later hb6 a3
 replace a4:=cell_later hb6 a4
 replace b0:=cell_later hb6 b0
 replace b1:=cell_later hb6 b1
 replace b2:=cell_later hb6 b2
 replace b3:=cell_later hb6 b3
 replace b4:=cell_later hb6 b4
 replace b5:=cell_later hb6 b5
 replace b6:=cell_later hb6 b6
 replace b7:=cell_later hb6 b7
 replace b8:=cell_later hb6 b8
 have hb46:=Below.on hb5 hb6
 go_upto_region 12 with (go_at_call 40;refine (kT' w6 hb46).mono ?_;rintro e w7 ⟨v7,ps,rfl,hrow7,hps,hb7⟩;obtain ⟨A7,c7,hsh⟩:=own_shape hrow7.1;subst hsh)
 replace a0:=cell_later hb7 a0
 replace a1:=cell_later hb7 a1
 replace a2:=cell_later hb7 a2
 replace a3:=cell_later hb7 a3
 replace a4:=cell_later hb7 a4
 replace b0:=cell_later hb7 b0
 replace b1:=cell_later hb7 b1
 replace b2:=cell_later hb7 b2
 replace b3:=cell_later hb7 b3
 replace b4:=cell_later hb7 b4
 replace b5:=cell_later hb7 b5
 replace b6:=cell_later hb7 b6
 replace b7:=cell_later hb7 b7
 replace b8:=cell_later hb7 b8
 have hb47:=Below.on hb46 hb7
 have hb67:Below w5.heap.size w5 w7:=Below.on hb6 hb7
 try dsimp only at hres5 hres6
 have hE5:=EntsV.mono (EntsV.keep (hrow5.ents hres5) hb67) hb67.size
 have hE6:=EntsV.mono (EntsV.keep (hrow6.ents hres6) hb7) hb7.size
 have hl5:qs5.length=R.length:=by rw[←hres5,List.length_map]
 have hl6:qs6.length=R.length:=by rw[←hres6,List.length_map]
 rw[hl5]at hE5
 rw[hl6]at hE6
 simp only[hl5,hl6]
 have hpl:ps.length=es.length:=by rw[←hps,List.length_map]
 have HPS:=Lib.hid hps
 have HPL:=Lib.hid hpl
 have hpl9:ps.length≤256:=by omega
 have hRl:R.length≤256:=by omega
 have HLM:=Lib.hid hlm
 obtain ⟨M,hM⟩:∃M:Bs→Bool,M=fun n=>qIn (⟨base,scope,flt,names,limit⟩:Qry) n:=⟨_,rfl⟩
 have hMn:=fun n=>(congrFun hM n).symm
 have HSC:=Lib.hid (hsc M hM)
 simp only[hMn]at kIn
 clear hsc hM hMn kS kR kT' hrow5 hrow6 hres5 hres6 hl5 hl6 hps hpl hlm hsl hgl hb6 hb7 hb67 hb46
 go_wp2_with fail
 go_loopw [12,52] (fun nv i wr=>∃(k n:Nat),k≤ps.length∧i=.int .i64 k∧nv=.int .i64 n∧n≤k∧Hid (n=((es.take k).filter fun e=>M e.1).length)∧Below w7.heap.size w7 wr) (fun _ i _=>ps.length-(intOf i).toNat)
 case atStart=>exact ⟨0,0,Nat.zero_le _,rfl,rfl,Nat.le_refl _,rfl,Below.refl _ _⟩
 case round=>
  obtain ⟨k,n,hk,rfl,rfl,hnk,hinv,hb⟩:=hrel
  obtain ⟨wo,hwo⟩:∃wo:World,wo=wr:=⟨_,rfl⟩
  subst hwo
  replace a0:=cell_later hb a0
  replace a1:=cell_later hb a1
  replace a2:=cell_later hb a2
  replace a3:=cell_later hb a3
  replace a4:=cell_later hb a4
  replace b0:=cell_later hb b0
  replace b1:=cell_later hb b1
  replace b2:=cell_later hb b2
  replace b3:=cell_later hb b3
  replace b4:=cell_later hb b4
  replace b5:=cell_later hb b5
  replace b6:=cell_later hb b6
  replace b7:=cell_later hb b7
  replace b8:=cell_later hb b8
  have hb4o:=Below.on hb47 hb
  have hbwo:=hbw4.trans (hb4o.mono hbw4.size)
  by_cases hlt:k<ps.length
  ·have hltI:(k:Int)<(ps.length:Int):=by omega
   obtain ⟨g9,hA,hcells⟩:=own_open (hrow7.keep hb).1 (by omega)
   subst hA
   obtain ⟨e1,_⟩:=rowEn_at ps k _ (List.getElem?_eq_getElem hlt)
   have x0:wo.cell? ⟨g9,k*2,none⟩=some (.string (B ps[k].1.1)):=hcells _ _ e1
   have hltS:k<es.length:=by rw[←HPL.out];exact hlt
   have hSk:es[k]=ps[k].1:=by
    have h1:(ps.map (·.1))[k]?=es[k]?:=by rw[HPS.out]
    rw[List.getElem?_map,List.getElem?_eq_getElem hlt,List.getElem?_eq_getElem hltS]at h1
    exact (Option.some.inj h1).symm
   have hxn:=hnm _ (List.getElem_mem hltS)
   have hstep:=filter_take8 (fun e:IxE=>M e.1) es k hltS
   rw[hSk]at hxn hstep
   have kI1:=fun V (hV:Below wo.heap.size wo V)=>kIn ps[k].1.1 hxn V (Below.on hb4o hV)
   have j0:=cell_regrown x0
   have l0:=cell_regrown b0
   have l1:=cell_regrown b1
   have l2:=cell_regrown b2
   have l3:=cell_regrown b3
   have l4:=cell_regrown b4
   have l5:=cell_regrown b5
   have l6:=cell_regrown b6
   have l7:=cell_regrown b7
   have l8:=cell_regrown b8
   clear hcells e1 hSk hxn kIn hltS
   generalize ps[k]=px' at *
   cases hw:M px'.1.1
   ·rw[hw]at kI1 hstep
    have HX:Hid (n=((es.take (k+1)).filter fun e=>M e.1).length):=by show _=_;rw[hstep,if_neg (by decide),List.append_nil];exact hinv.out
    have q1:=cq (W:=wo) fun V hV=>kI1 V hV
    clear hstep hinv kI1 hw
    go_wp2
    refine wp_region_quiet_below (by kernel_rfl) (by kernel_rfl) ?_
    repeat (first|go_big_quiet_step ((go_at_call 25;exact q1 _ _))|quiet_step ((go_at_call 25;exact q1 _ _)))
    refine wpQuiet_nil ?_
    intro _ hw'
    obtain ⟨⟨dq,osq⟩,hw''⟩:=hw'
    subst hw''
    have hb8:=below_regrown wo dq osq
    generalize grow (redrawn wo dq) osq=W8 at hb8⊢
    clear q1 l0 l1 l2 l3 l4 l5 l6 l7 l8 j0
    have hb78:=hb.trans (hb8.mono hb.size)
    go_wp2_with fail
    go_roundw
    case rel=>exact ⟨k+1,n,by omega,by go_num,rfl,by omega,HX,hb78⟩
    case measure=>simp[intOf];omega
   ·rw[hw]at kI1 hstep
    have HX:Hid (n+1=((es.take (k+1)).filter fun e=>M e.1).length):=by show _=_;rw[hstep,if_pos rfl,List.length_append,←hinv.out];rfl
    have q1:=cq (W:=wo) fun V hV=>kI1 V hV
    clear hstep hinv kI1 hw
    go_wp2
    refine wp_region_quiet_below (by kernel_rfl) (by kernel_rfl) ?_
    repeat (first|go_big_quiet_step ((go_at_call 25;exact q1 _ _))|quiet_step ((go_at_call 25;exact q1 _ _)))
    refine wpQuiet_nil ?_
    intro _ hw'
    obtain ⟨⟨dq,osq⟩,hw''⟩:=hw'
    subst hw''
    have hb8:=below_regrown wo dq osq
    generalize grow (redrawn wo dq) osq=W8 at hb8⊢
    clear q1 l0 l1 l2 l3 l4 l5 l6 l7 l8 j0
    have hb78:=hb.trans (hb8.mono hb.size)
    go_wp2_with fail
    go_roundw
    case rel=>exact ⟨k+1,n+1,by omega,by go_num,by go_num,by omega,HX,hb78⟩
    case measure=>simp[intOf];omega
  ·have hltI:¬(k:Int)<(ps.length:Int):=by omega
   have hnQ:n=Q.length:=by
    have h1:=hinv.out
    rw[List.take_of_length_le (by rw[←HPL.out];omega),HSC.out]at h1
    exact h1
   have kSm:=r12_Same_any _ _ R R true ⟨fun _=>rfl,fun _=>rfl⟩ wo (EntsV.mono (EntsV.keep hE5 hb) hb.size) (EntsV.mono (EntsV.keep hE6 hb) hb.size) (by omega) (by omega) hsm hsm
   have hxq:xl≤(n:Int):=by rw[hnQ];exact hxn
   have hre:(re==re)=true:=beq_self_eq_true re
   clear hinv hxn hrow7 kIn hnm hE5 hE6 hsm
   by_cases hr0:re=0
   ·have hlm:=HLM.out hr0
    have h1:(R.length:Int)≤(n:Int):=by rw[hnQ];omega
    have h2:(R.length:Int)≤limit:=by
     have:=hlm.2
     try dsimp only at this
     exact this
    have hrI:(re !=0)=false:=by rw[hr0];rfl
    clear hlm hnQ
    subst hr0
    go_wp2_with (first
     | (go_at_call 33; refine kSm.mono ?_; rintro e w8 ⟨rfl, hb8⟩
        replace a0:=cell_later hb8 a0
        replace a1:=cell_later hb8 a1
        replace a2:=cell_later hb8 a2
        replace a3:=cell_later hb8 a3
        replace a4:=cell_later hb8 a4
        replace b0:=cell_later hb8 b0
        replace b1:=cell_later hb8 b1
        replace b2:=cell_later hb8 b2
        replace b3:=cell_later hb8 b3
        replace b4:=cell_later hb8 b4
        replace b5:=cell_later hb8 b5
        replace b6:=cell_later hb8 b6
        replace b7:=cell_later hb8 b7
        replace b8:=cell_later hb8 b8
        have hb4x:=Below.on hb4o hb8)
     | (go_at_call 37; refine (kX w8 hb4x).mono ?_; rintro e w9 ⟨rfl, hb9⟩
        replace b8:=cell_later hb9 b8))
    go_ret
    exact ⟨rfl,hbw4.trans ((Below.on hb4x hb9).mono hbw4.size)⟩
   ·have hrI:(re !=0)=true:=by simpa using hr0
    clear hnQ
    go_wp2_with (first
     | (go_at_call 33; refine kSm.mono ?_; rintro e w8 ⟨rfl, hb8⟩
        replace a0:=cell_later hb8 a0
        replace a1:=cell_later hb8 a1
        replace a2:=cell_later hb8 a2
        replace a3:=cell_later hb8 a3
        replace a4:=cell_later hb8 a4
        replace b0:=cell_later hb8 b0
        replace b1:=cell_later hb8 b1
        replace b2:=cell_later hb8 b2
        replace b3:=cell_later hb8 b3
        replace b4:=cell_later hb8 b4
        replace b5:=cell_later hb8 b5
        replace b6:=cell_later hb8 b6
        replace b7:=cell_later hb8 b7
        replace b8:=cell_later hb8 b8
        have hb4x:=Below.on hb4o hb8)
     |(go_at_call 37;refine (kX w8 hb4x).mono ?_;rintro e w9 ⟨rfl,hb9⟩))
    go_ret
    exact ⟨rfl,hbw4.trans ((Below.on hb4x hb9).mono hbw4.size)⟩
end Go.Proofs.YtbkkchhimhlhcaaGreatDoor
/- SearchAgrees: the contract as the row asks it, the statement, the card. -/
namespace Go.Proofs.YtbkkchhimhlhcaaGreatDoor
open Go.RowKit Go.Sort Go.Shelf Go.ChangeShapes Go.WideShapes Go.ChangeAt Go.ChangeMaps
theorem laid_eqSG:Rows.searchAgreesUptoRow.laid=laidL:=by
 unfold laidL
 rw[←pow_eq,←acc_eq,←first_eq,←case_eq]
 rfl
theorem cSG_contract (F : Stop.Interp) (H : Type) (enc : TypeId × Value → H) (W : World) (base : Nat) (args : Array Value) (ds gs : List (DataW H)) (before : List MemPlace)
  (hval:∀(j:Nat) t v,Tryz.f7.params[j]?=some t→args[j]?=some v→Value.okWide Tryz.prog W .any base t v)
  (hW:DataW.Whole enc Tryz.prog Tryz.f7.params.toList Rows.searchAgreesSpec.vars false W args.toList ds gs before) (hL:laidMet Tryz.prog laidL W) (hsh:W.ShapedOpen Tryz.prog) (hk:Rows.uptoSmall H (ds++gs)=true) :
  Calls Tryz.prog 7 args W fun e W'=>∃v,e=.returned v∧((Rows.OpenSpec.upto Rows.searchAgreesSpec).at F).post enc Tryz.prog Tryz.f7 false true false false W args v W':=by
 have hW':=hW
 obtain ⟨p,q,hA0,hV0,rfl,_,_⟩:=hW
 have hA:DataW.TrodAll enc Tryz.prog W 0 (fun _=>true) true Tryz.f7.params.toList args.toList ds p:=hA0
 rw[Tryz.params7]at hA hval
 obtain ⟨v0,v1,d0,d1,p0,p1,rfl,rfl,rfl,h0,h1⟩:=trodAll_two hA
 obtain ⟨rfl,rfl⟩:=trodVars_none hV0
 have hB:=bk_bound hk
 have hb0:=hB d0 (by simp)
 have hb1:=hB d1 (by simp)
 obtain ⟨D0,hD0,hg0⟩:=data_openB (hval 0 60 v0 rfl rfl) h0
 obtain ⟨n1,q1,hQ1,hg1⟩:=query_openB (hval 1 55 v1 rfl rfl) h1
 clear hA0 hV0 hval
 simp only[List.append_nil]at hW'
 have hlt:∀x∈p0++p1,x.block<W.heap.size:=fun x hx=>by simpa using hW'.lt x (by simpa using hx)
 obtain ⟨hE,hU⟩:=env_of hL hsh
 refine (searchAgrees_any v0 D0 n1 v1 q1 W hD0 (hg0.mono hb0) hQ1 (hg1.mono hb1) hE hU).mono ?_
 rintro e W' ⟨rfl,bel⟩
 have e1:((Rows.OpenSpec.upto Rows.searchAgreesSpec).at F).fn H ([d0,d1]++[])={ results:=[.lit (.bool true)],args:=[d0,d1] }:=rfl
 refine ⟨_,rfl,_,_,_,[],(p0++p1),[],hW',?_,?_,?_,bel.frame _,fun h=>by cases h⟩
 ·rw[e1];exact trodAll_mk1 (shut_bool Tryz.underlying4 _)
 ·rw[e1];exact trodAll_mk2 (Below.trod laidOut (by kernel_rfl) (of_decide_eq_true (by kernel_rfl)) h0 bel (fun x hx=>hlt x (List.mem_append_left _ hx))) (Below.trod laidOut (by kernel_rfl) (of_decide_eq_true (by kernel_rfl)) h1 bel (fun x hx=>hlt x (List.mem_append_right _ hx)))
 ·rw[e1];rfl
theorem noHandleSG {W:World} (h:laidMetH Tryz.prog Rows.searchAgreesUptoRow.laid W):laidMet Tryz.prog laidL W:=by
 have e:(Rows.searchAgreesUptoRow.laid.filter fun x=>x.2.handleName?.isSome)=[]:=by kernel_rfl
 unfold laidMetH at h
 rw[e]at h
 rw[←laid_eqSG]
 exact h
theorem laid_metSG (os:Os) (args:Array Value):laidMet Tryz.prog Rows.searchAgreesUptoRow.laid ((laidWorld os).forCall (fun _ _=>0) ⟨#[],args,[]⟩).memory:=by
 rw[laid_eqSG]
 exact laid_metW os args
theorem witness_rowSG (os : Os) {H : Type} (enc : TypeId × Value → H) :
  (Rows.OpenSpec.upto Rows.searchAgreesSpec).preRow enc Tryz.prog Tryz.f7 Rows.searchAgreesUptoRow.domain false Rows.searchAgreesUptoRow.laid ((laidWorld os).forCall (fun _ _=>0) ⟨#[],#[.agg #[.slice none 0 0,.slice none 0 0,.slice none 0 0,.slice none 0 0,.slice none 0 0],.agg #[.string ⟨#[]⟩,.int .i64 0,.int .i64 0,.string ⟨#[]⟩,.string ⟨#[]⟩,.slice none 0 0,.slice none 0 0,.slice none 0 0,.int .i64 0]],[]⟩).memory #[.agg #[.slice none 0 0,.slice none 0 0,.slice none 0 0,.slice none 0 0,.slice none 0 0],.agg #[.string ⟨#[]⟩,.int .i64 0,.int .i64 0,.string ⟨#[]⟩,.string ⟨#[]⟩,.slice none 0 0,.slice none 0 0,.slice none 0 0,.int .i64 0]]:=by
 have hw : (DataW.whole enc Tryz.prog ((laidWorld os).forCall (fun _ _ => 0) ⟨#[], #[.agg #[.slice none 0 0, .slice none 0 0, .slice none 0 0, .slice none 0 0, .slice none 0 0], .agg #[.string ⟨#[]⟩, .int .i64 0, .int .i64 0, .string ⟨#[]⟩, .string ⟨#[]⟩, .slice none 0 0, .slice none 0 0, .slice none 0 0, .int .i64 0]], []⟩).memory Tryz.f7.params.toList (Rows.OpenSpec.upto Rows.searchAgreesSpec).vars false #[Value.agg #[.slice none 0 0, .slice none 0 0, .slice none 0 0, .slice none 0 0, .slice none 0 0], .agg #[.string ⟨#[]⟩, .int .i64 0, .int .i64 0, .string ⟨#[]⟩, .string ⟨#[]⟩, .slice none 0 0, .slice none 0 0, .slice none 0 0, .int .i64 0]].toList 8).map (fun x => (x.1, x.2.1)) =
   some ([.agg [.agg [.nil,.nil],.nil,.nil,.nil],.agg [.lit (.string []),.lit (.int .i64 0),.agg [.lit (.int .i64 0),.lit (.string []),.lit (.string []),.nil,.nil],.nil,.lit (.int .i64 0)]],[]):=by kernel_rfl
 obtain ⟨⟨x1,x2,x3⟩,hx,hx1⟩:=Option.map_eq_some_iff.1 hw
 simp only[Prod.mk.injEq]at hx1
 obtain ⟨rfl,rfl⟩:=hx1
 exact OpenSpec.preRow_of_cond 8 hx (by kernel_rfl) (fun k hk=>by cases hk;kernel_rfl) (by kernel_rfl) (laid_metSG os _)
theorem liftedSG (os : Os) (started : os.Started) (H : Type) (enc : TypeId × Value → H) (F : Stop.Interp) :
  ReturnsInHanded {} Tryz.checked os 7 .any ((Rows.OpenSpec.upto Rows.searchAgreesSpec).preRow enc Tryz.prog Tryz.f7 Rows.searchAgreesUptoRow.domain false Rows.searchAgreesUptoRow.laid) (((Rows.OpenSpec.upto Rows.searchAgreesSpec).at F).post enc Tryz.prog Tryz.f7 false true false false):=by
 refine returnsInHanded_of_row (C:=Tryz.checked) (s:=(Rows.OpenSpec.upto Rows.searchAgreesSpec)) own started (by kernel_rfl) Tryz.func7
  (witness_row_atRef (enc:=enc) (C:=Tryz.checked) false (laidWorld os) #[.agg #[.slice none 0 0,.slice none 0 0,.slice none 0 0,.slice none 0 0,.slice none 0 0],.agg #[.string ⟨#[]⟩,.int .i64 0,.int .i64 0,.string ⟨#[]⟩,.string ⟨#[]⟩,.slice none 0 0,.slice none 0 0,.slice none 0 0,.int .i64 0]] rfl (by kernel_rfl) (by kernel_rfl) (by kernel_rfl) (witness_rowSG os enc)) ?_
 intro W base args ds gs before hval hW _ hcond _ hL hsh _
 exact cSG_contract F H enc W base args ds gs before hval hW (noHandleSG hL) hsh (hcond _ rfl)
end Go.Proofs.YtbkkchhimhlhcaaGreatDoor
/- SearchAgrees: the statement. -/
namespace Go.Proofs.YtbkkchhimhlhcaaGreatDoor
open Go.RowKit Go.Sort Go.Shelf Go.ChangeShapes Go.WideShapes Go.ChangeAt Go.ChangeMaps
theorem closedSG:joinedFacts Tryz.pinned.checked.prog 7 Tryz.f7 (Rows.OpenSpec.upto Rows.searchAgreesSpec).bare Rows.searchAgreesUptoRow=true:=by
 unfold joinedFacts
 simp only[Bool.and_eq_true]
 repeat' with_reducible apply And.intro
 all_goals (as_aux_lemma=>kernel_rfl)
theorem saidSG:Rows.SearchAgreesUptoSaid:=
 OpenClaim.holds_of_cond 7 Tryz.f7 rfl rfl rfl rfl rfl rfl rfl ⟨rfl,rfl,rfl,rfl,rfl⟩ rfl rfl rfl rfl rfl (by kernel_rfl) Tryz.func7 closedSG
  (of_decide_eq_true (by kernel_rfl)) (by unfold Func.isWrapper;first|(rw[if_pos (by decide +kernel)];kernel_rfl)|(rw[if_neg (by decide +kernel)];exact ⟨rfl,rfl⟩))
  (fun os started H enc _ F=>by rw[OpenClaim.pre_eq_preRow];exact liftedSG os started H enc F)
end Go.Proofs.YtbkkchhimhlhcaaGreatDoor
/- SearchAgrees: the card. -/
namespace Go.Proofs.YtbkkchhimhlhcaaGreatDoor
open Go.RowKit Go.Sort Go.Shelf Go.ChangeShapes Go.WideShapes Go.ChangeAt Go.ChangeMaps
theorem plainSG (f : FuncId) (fn : Func) (hf : Tryz.pinned.checked.prog.funcNamed "identity/identitylaw12.SearchAgrees" = some f) (hfn : Tryz.pinned.checked.prog.funcs[f]? = some fn) :
  true=Tryz.pinned.checked.prog.looks []∧∀(j:Nat) t,fn.params[j]?=some t→Tryz.pinned.checked.prog.wantsStandIn t=false:=by
 obtain rfl : f = 7 := Option.some.inj ((show Tryz.prog.funcNamed "identity/identitylaw12.SearchAgrees" = some 7 by kernel_rfl).symm.trans hf) |>.symm
 obtain rfl:fn=Tryz.f7:=(Option.some.inj (Tryz.func7.symm.trans hfn)).symm
 refine ⟨by kernel_rfl,fun j t ht=>?_⟩
 rw[Tryz.params7]at ht
 have hm:=Array.mem_of_getElem? ht
 simp at hm
 rcases hm with rfl|rfl
 ·exact (show Tryz.prog.wantsStandIn 60=false by kernel_rfl)
 ·exact (show Tryz.prog.wantsStandIn 55=false by kernel_rfl)
theorem searchAgrees_card:Rows.SearchAgreesUptoCardSaid:=
 Claim7.holds_tied_plain_at .later [] _ _ _ _ saidSG (fun _ h=>by cases h) (by kernel_rfl) (fun _ h=>by cases h) searchAgreesUpto_row_tie rfl ⟨rfl,rfl⟩ (by kernel_rfl) rfl plainSG (goesBy_no _ (by kernel_rfl))
#print axioms searchAgrees_card
end Go.Proofs.YtbkkchhimhlhcaaGreatDoor
