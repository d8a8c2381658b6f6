/- Part 46 of the proof that identitylaw12.SearchChecks returns true for every data that it may be called with: proof: the package variables hold what the program lays; nothing else is asked. -/
import Derived.Test.YtbkkchhimhlhcaaGreatDoorSrk36
import Derived.Laws.EntriesVeiled
set_option linter.unusedVariables false
set_option linter.unusedSimpArgs false
set_option maxRecDepth 100000
set_option maxHeartbeats 16000000
/- filter: satisfies, match, Match. -/
namespace Go.Proofs.YtbkkchhimhlhcaaGreatDoor
open Go.RowKit Go.Sort
open Idn (L B Bs drop_L take_L size_L)
theorem mov_cases' (f:Flt) (h:nodeErr f=0) (h3:f.kind=3):∃g,f.kids=[g]:=by
 cases f with
 |mk k n v ps ks=>
  have hk:k=3:=h3
  subst hk
  exact one_kid (form_not (ownErr_form (nodeErr_zero.1 h).1)).2.2.2
theorem satisfies_any (u : Value) (s : Idn.Sch) (tn : Bs) (ty : Int) (ts : Bool) (v : Value) (f : Flt) (d : Nat) (x : Bs) (w : World) (hu : SchV w w.heap.size u s) (hs : SSm s) (hE : Env w) (hU : EnvU w) (hv : FltV w w.heap.size d v f) (ho : fOk f) (hp2 : f.kind = 8 → 2 ≤ f.parts.length) (hx : x.length ≤ 100000000) :
  Calls Tryz.prog 274 #[u,.agg #[.string (B tn),.int .i64 ty,.bool ts],v,.string (B x)] w fun e w'=>e=.returned (.bool (satF s ty f.kind f.name f.value f.parts x))∧Below w.heap.size w w':=by
 obtain ⟨o1,o2,o3,o4⟩:=fOk_own ho
 have kN:=fun W (hW:Below w.heap.size w W)=>schNormal_any u s (B f.name) (B x) W (SchV.mono (SchV.keep hu hW) hW.size) hs (hE.keep hW) (hU.keep hW) (by rw[Idn.size_B];omega) (by rw[Idn.size_B];omega)
 have kC:=fun W (hW:Below w.heap.size w W)=>schCompare_any u s (B f.name) (B x) (B f.value) W (SchV.mono (SchV.keep hu hW) hW.size) hs (hE.keep hW) (hU.keep hW) (by rw[Idn.size_B];omega) (by rw[Idn.size_B];omega) (by rw[Idn.size_B];omega)
 simp only[Idn.L_B]at kN kC
 obtain ⟨Ap,cp,Ak,ck,rfl,hp,hk⟩:=hv.shape
 have kM:=fun (h2:2≤f.parts.length) W (hW:Below w.heap.size w W)=>foldMatch_any x _ f.parts W (hE.keep hW) (SlV.mono (SlV.keep hp hW) hW.size) h2 (by omega) (by omega) (fun y hy=>by have:=o4 y hy;omega)
 have kX:=fun (h2:2≤f.parts.length) W (hW:Below w.heap.size w W)=>exact_any x _ f.parts W (hE.keep hW) (SlV.mono (SlV.keep hp hW) hW.size) h2 (by omega) (by omega)
 obtain ⟨sa,sb,rfl,hT,hC⟩:=hu
 obtain ⟨A1,c1,rfl,_⟩:=SlV.shape hT
 obtain ⟨A2,c2,rfl,_⟩:=SlV.shape hC
 have HR:Hid (satF s ty f.kind f.name f.value f.parts x=if f.kind=7 then true
  else if f.kind=8 then decide ((sNorm s f.name x).2=0)&&((decide (ty=1)&&foldF x f.parts)||(decide (ty=2)&&exactF x f.parts))
  else decide ((sComp s f.name x f.value).2=0)&&((decide (f.kind=4)&&decide ((sComp s f.name x f.value).1=0))||((decide (f.kind=5)&&decide (0≤(sComp s f.name x f.value).1))||(decide (f.kind=6)&&decide ((sComp s f.name x f.value).1≤0))))):=rfl
 generalize satF s ty f.kind f.name f.value f.parts x=R at *
 generalize sNorm s f.name x=nr at *
 generalize sComp s f.name x f.value=cr at *
 generalize foldF x f.parts=r1 at *
 generalize exactF x f.parts=r2 at *
 obtain ⟨nv,ne⟩:=nr
 obtain ⟨cv,ce⟩:=cr
 dsimp only at kN kC HR
 generalize f.kind=kd at *
 generalize f.name=fn at *
 generalize f.value=fv at *
 clear hT hC hp hk hv hE hU hs ho o1 o2 o3 o4 hx
 by_cases h7:kd=7
 ·subst h7
  have HF:Hid (R=true):=HR.out
  clear HR kN kC kM kX hp2
  go_enter Tryz.func274,Tryz.ntmps274
  go_upto_region 1 with fail
  with_reducible refine gen3 (R:=fun W=>Code.wp Tryz.prog _ _ _ W) ?_
  intro W hbW hszW hc1 hc2 hc3 _
  have s0:W.cell? ⟨w.heap.size,0,none⟩=some (.slice A1 s.types.length c1):=hc1 0 _ rfl
  have s1:W.cell? ⟨w.heap.size,1,none⟩=some (.slice A2 s.classes.length c2):=hc1 1 _ rfl
  have t1:W.cell? ⟨w.heap.size+1,1,none⟩=some (.int .i64 ty):=hc2 1 _ rfl
  have b0:W.cell? ⟨w.heap.size+1+1,0,none⟩=some (.int .i64 7):=hc3 0 _ rfl
  have b1:W.cell? ⟨w.heap.size+1+1,1,none⟩=some (.string (B fn)):=hc3 1 _ rfl
  have b2:W.cell? ⟨w.heap.size+1+1,2,none⟩=some (.string (B fv)):=hc3 2 _ rfl
  have b3:W.cell? ⟨w.heap.size+1+1,3,none⟩=some (.slice Ap f.parts.length cp):=hc3 3 _ rfl
  clear hc1 hc2 hc3 hszW
  go_wp2_with fail
  go_ret
  exact ⟨ret_bool HF.out.symm,hbW⟩
 by_cases h8:kd=8
 ·subst h8
  replace hp2:=hp2 rfl
  replace kM:=kM hp2
  replace kX:=kX hp2
  have HR2:Hid (R=(decide (ne=0)&&((decide (ty=1)&&r1)||(decide (ty=2)&&r2)))):=HR.out
  clear HR kC h7 hp2
  go_enter Tryz.func274,Tryz.ntmps274
  go_upto_region 1 with fail
  with_reducible refine gen3 (R:=fun W=>Code.wp Tryz.prog _ _ _ W) ?_
  intro W hbW hszW hc1 hc2 hc3 _
  have s0:W.cell? ⟨w.heap.size,0,none⟩=some (.slice A1 s.types.length c1):=hc1 0 _ rfl
  have s1:W.cell? ⟨w.heap.size,1,none⟩=some (.slice A2 s.classes.length c2):=hc1 1 _ rfl
  have t1:W.cell? ⟨w.heap.size+1,1,none⟩=some (.int .i64 ty):=hc2 1 _ rfl
  have b0:W.cell? ⟨w.heap.size+1+1,0,none⟩=some (.int .i64 8):=hc3 0 _ rfl
  have b1:W.cell? ⟨w.heap.size+1+1,1,none⟩=some (.string (B fn)):=hc3 1 _ rfl
  have b2:W.cell? ⟨w.heap.size+1+1,2,none⟩=some (.string (B fv)):=hc3 2 _ rfl
  have b3:W.cell? ⟨w.heap.size+1+1,3,none⟩=some (.slice Ap f.parts.length cp):=hc3 3 _ rfl
  clear hc1 hc2 hc3 hszW
  go_wp2_with fail
  refine (kN W hbW).mono ?_
  rintro e w1 ⟨rfl,hb1⟩
  replace t1:=cell_later hb1 t1
  replace b3:=cell_later hb1 b3
  have hb:=hbW.trans (hb1.mono hbW.size)
  clear kN s0 s1 b0 b1 b2 hbW hb1
  by_cases hne:ne=0
  case neg=>
   have hI:(ne !=0)=true:=by simpa using hne
   have HF:Hid (R=false):=by show _=_;rw[HR2.out,decide_eq_false hne];rfl
   clear HR2 hne kM kX
   go_wp2_with fail
   go_ret
   exact ⟨ret_bool HF.out.symm,hb⟩
  subst hne
  have HR3:Hid (R=((decide (ty=1)&&r1)||(decide (ty=2)&&r2))):=HR2.out
  clear HR2
  by_cases hy1:ty=1
  ·subst hy1
   have HF:Hid (R=r1):=by show _=_;rw[HR3.out];simp
   clear HR3 kX
   go_wp2_with fail
   refine (kM w1 hb).mono ?_
   rintro e w2 ⟨rfl,hb2⟩
   replace t1:=cell_later hb2 t1
   have hb9:=hb.trans (hb2.mono hb.size)
   clear kM hb2 b3
   cases r1
   all_goals
    go_wp2_with fail
    go_ret
    exact ⟨ret_bool HF.out.symm,hb9⟩
  by_cases hy2:ty=2
  ·subst hy2
   have HF:Hid (R=r2):=by show _=_;rw[HR3.out];simp
   clear HR3 kM
   go_wp2_with fail
   refine (kX w1 hb).mono ?_
   rintro e w2 ⟨rfl,hb2⟩
   have hb9:=hb.trans (hb2.mono hb.size)
   clear kX hb2 b3
   cases r2
   all_goals
    go_wp2_with fail
    go_ret
    exact ⟨ret_bool HF.out.symm,hb9⟩
  have e1:(ty==1)=false:=beq_eq_false_iff_ne.2 hy1
  have e2:(ty==2)=false:=beq_eq_false_iff_ne.2 hy2
  have HF:Hid (R=false):=by show _=_;rw[HR3.out,decide_eq_false hy1,decide_eq_false hy2];rfl
  clear HR3 kM kX hy1 hy2
  go_wp2_with fail
  go_ret
  exact ⟨ret_bool HF.out.symm,hb⟩
 have e7:(kd==7)=false:=beq_eq_false_iff_ne.2 h7
 have e8:(kd==8)=false:=beq_eq_false_iff_ne.2 h8
 have HR2:Hid (R=(decide (ce=0)&&((decide (kd=4)&&decide (cv=0))||((decide (kd=5)&&decide (0≤cv))||(decide (kd=6)&&decide (cv≤0)))))):=by
  show _=_;rw[HR.out,if_neg h7,if_neg h8]
 clear HR kN kM kX hp2 h7 h8
 go_enter Tryz.func274,Tryz.ntmps274
 go_upto_region 1 with fail
 with_reducible refine gen3 (R:=fun W=>Code.wp Tryz.prog _ _ _ W) ?_
 intro W hbW hszW hc1 hc2 hc3 _
 have s0:W.cell? ⟨w.heap.size,0,none⟩=some (.slice A1 s.types.length c1):=hc1 0 _ rfl
 have s1:W.cell? ⟨w.heap.size,1,none⟩=some (.slice A2 s.classes.length c2):=hc1 1 _ rfl
 have t1:W.cell? ⟨w.heap.size+1,1,none⟩=some (.int .i64 ty):=hc2 1 _ rfl
 have b0:W.cell? ⟨w.heap.size+1+1,0,none⟩=some (.int .i64 kd):=hc3 0 _ rfl
 have b1:W.cell? ⟨w.heap.size+1+1,1,none⟩=some (.string (B fn)):=hc3 1 _ rfl
 have b2:W.cell? ⟨w.heap.size+1+1,2,none⟩=some (.string (B fv)):=hc3 2 _ rfl
 have b3:W.cell? ⟨w.heap.size+1+1,3,none⟩=some (.slice Ap f.parts.length cp):=hc3 3 _ rfl
 clear hc1 hc2 hc3 hszW
 go_wp2_with fail
 refine (kC W hbW).mono ?_
 rintro e w1 ⟨rfl,hb1⟩
 replace b0:=cell_later hb1 b0
 have hb:=hbW.trans (hb1.mono hbW.size)
 clear kC s0 s1 t1 b1 b2 b3 hbW hb1
 by_cases hce:ce=0
 case neg=>
  have hI:(ce !=0)=true:=by simpa using hce
  have HF:Hid (R=false):=by show _=_;rw[HR2.out,decide_eq_false hce];rfl
  clear HR2 hce
  go_wp2_with fail
  go_ret
  exact ⟨ret_bool HF.out.symm,hb⟩
 subst hce
 have HR3:Hid (R=((decide (kd=4)&&decide (cv=0))||((decide (kd=5)&&decide (0≤cv))||(decide (kd=6)&&decide (cv≤0))))):=HR2.out
 clear HR2
 by_cases h4:kd=4
 ·subst h4
  by_cases hc0:cv=0
  ·have hI:(cv==0)=true:=beq_iff_eq.2 hc0
   have HF:Hid (R=true):=by show _=_;rw[HR3.out,decide_eq_true hc0];rfl
   clear HR3 hc0 e7 e8
   go_wp2_with fail
   go_ret
   exact ⟨ret_bool HF.out.symm,hb⟩
  ·have hI:(cv==0)=false:=beq_eq_false_iff_ne.2 hc0
   have HF:Hid (R=false):=by show _=_;rw[HR3.out,decide_eq_false hc0];rfl
   clear HR3 hc0 e7 e8
   go_wp2_with fail
   go_ret
   exact ⟨ret_bool HF.out.symm,hb⟩
 have e4:(kd==4)=false:=beq_eq_false_iff_ne.2 h4
 by_cases h5:kd=5
 ·subst h5
  by_cases hc0:0≤cv
  ·have HF:Hid (R=true):=by show _=_;rw[HR3.out,decide_eq_true hc0];rfl
   clear HR3 e7 e8 h4 e4
   go_wp2_with fail
   go_ret
   exact ⟨ret_bool HF.out.symm,hb⟩
  ·have HF:Hid (R=false):=by show _=_;rw[HR3.out,decide_eq_false hc0];rfl
   clear HR3 e7 e8 h4 e4
   have HC:=Lib.hid (decide_eq_false hc0)
   go_wp2_with fail
   go_ret
   exact ⟨ret_bool (by rw[HF.out];first|rfl|exact HC.out),hb⟩
 have e5:(kd==5)=false:=beq_eq_false_iff_ne.2 h5
 by_cases h6:kd=6
 ·subst h6
  by_cases hc0:cv≤0
  ·have HF:Hid (R=true):=by show _=_;rw[HR3.out,decide_eq_true hc0];rfl
   clear HR3 e7 e8 h4 e4 h5 e5
   go_wp2_with fail
   go_ret
   exact ⟨ret_bool HF.out.symm,hb⟩
  ·have HF:Hid (R=false):=by show _=_;rw[HR3.out,decide_eq_false hc0];rfl
   clear HR3 e7 e8 h4 e4 h5 e5
   have HC:=Lib.hid (decide_eq_false hc0)
   go_wp2_with fail
   go_ret
   exact ⟨ret_bool (by rw[HF.out];first|rfl|exact HC.out),hb⟩
 have e6:(kd==6)=false:=beq_eq_false_iff_ne.2 h6
 have HF:Hid (R=false):=by show _=_;rw[HR3.out,decide_eq_false h4,decide_eq_false h5,decide_eq_false h6];rfl
 clear HR3 h4 h5 h6
 go_wp2_with fail
 go_ret
 exact ⟨ret_bool HF.out.symm,hb⟩
theorem fn_m1:FnB 271:=by intro a w;kernel_rfl
theorem fn_m2:FnB 272:=by intro a w;kernel_rfl
theorem fn_m3:FnB 273:=by intro a w;kernel_rfl
theorem match1_any (p3 p5 d : Nat) (a b c e : Value) (v : Value) (f : Flt) (r : Bool) (w : World) (hv : FltV w w.heap.size d v f) (h3 : w.cell? ⟨p3, 0, none⟩ = some a) (h3' : w.cell? ⟨p3, 1, none⟩ = some b) (h5 : w.cell? ⟨p5, 0, none⟩ = some c) (h5' : w.cell? ⟨p5, 1, none⟩ = some e)
  (ih:∀(W:World),Below w.heap.size w W→Calls Tryz.prog 224 #[.agg #[a,b],v,.agg #[c,e]] W fun e w'=>e=.returned (.bool r)∧Below W.heap.size W w') :
  Calls Tryz.prog 271 #[v,.pointer (some ⟨p3,0,none⟩),.pointer (some ⟨p5,0,none⟩)] w fun e w'=>e=.returned (.bool r)∧Below w.heap.size w w':=by
 obtain ⟨Ap,cp,Ak,ck,rfl,hp,hk⟩:=hv.shape
 go_enter Tryz.func271,Tryz.ntmps271
 go_upto_region 1 with fail
 with_reducible refine gen1 (R:=fun W=>Code.wp Tryz.prog _ _ _ W) ?_
 intro W hbW hszW hc1 _
 have k0:W.cell? ⟨w.heap.size,0,none⟩=some (.int .i64 f.kind):=hc1 0 _ rfl
 have k1:W.cell? ⟨w.heap.size,1,none⟩=some (.string (B f.name)):=hc1 1 _ rfl
 have k2:W.cell? ⟨w.heap.size,2,none⟩=some (.string (B f.value)):=hc1 2 _ rfl
 have k3:W.cell? ⟨w.heap.size,3,none⟩=some (.slice Ap f.parts.length cp):=hc1 3 _ rfl
 have k4:W.cell? ⟨w.heap.size,4,none⟩=some (.slice Ak f.kids.length ck):=hc1 4 _ rfl
 replace h3:=cell_later hbW h3
 replace h3':=cell_later hbW h3'
 replace h5:=cell_later hbW h5
 replace h5':=cell_later hbW h5'
 have hcall:=ih W hbW
 clear hc1 hszW hp hk hv ih
 go_wp2_with fail
 refine hcall.mono ?_
 rintro e w2 ⟨rfl,hb2⟩
 go_wp2_with fail
 go_ret
 exact ⟨rfl,hbW.trans (hb2.mono hbW.size)⟩
theorem match2_any (p7 p3 p5 d : Nat) (v : Value) (f : Flt) (r : Bool) (w : World) (hv : FltV w w.heap.size d v f) (h7 : w.cell? ⟨p7, 0, none⟩ = some (.func (.func 271) #[] #[.pointer (some ⟨p3, 0, none⟩), .pointer (some ⟨p5, 0, none⟩)]))
  (ih:∀(W:World),Below w.heap.size w W→Calls Tryz.prog 271 #[v,.pointer (some ⟨p3,0,none⟩),.pointer (some ⟨p5,0,none⟩)] W fun e w'=>e=.returned (.bool r)∧Below W.heap.size W w') :
  Calls Tryz.prog 272 #[v,.pointer (some ⟨p7,0,none⟩)] w fun e w'=>e=.returned (.bool (!r))∧Below w.heap.size w w':=by
 obtain ⟨Ap,cp,Ak,ck,rfl,hp,hk⟩:=hv.shape
 go_enter Tryz.func272,Tryz.ntmps272
 go_upto_region 1 with fail
 with_reducible refine gen1 (R:=fun W=>Code.wp Tryz.prog _ _ _ W) ?_
 intro W hbW hszW hc1 _
 have k0:W.cell? ⟨w.heap.size,0,none⟩=some (.int .i64 f.kind):=hc1 0 _ rfl
 have k1:W.cell? ⟨w.heap.size,1,none⟩=some (.string (B f.name)):=hc1 1 _ rfl
 have k2:W.cell? ⟨w.heap.size,2,none⟩=some (.string (B f.value)):=hc1 2 _ rfl
 have k3:W.cell? ⟨w.heap.size,3,none⟩=some (.slice Ap f.parts.length cp):=hc1 3 _ rfl
 have k4:W.cell? ⟨w.heap.size,4,none⟩=some (.slice Ak f.kids.length ck):=hc1 4 _ rfl
 replace h7:=cell_later hbW h7
 have hcall:=ih W hbW
 clear hc1 hszW hp hk hv ih
 cases r
 all_goals
  go_wp2_with fail
  refine hcall.mono ?_
  rintro e w2 ⟨rfl,hb2⟩
  go_wp2_with fail
  go_ret
  exact ⟨rfl,hbW.trans (hb2.mono hbW.size)⟩
theorem match3_any (p3 p8 p4 : Nat) (a b t0 t1 t2 q0 q1 q2 q3 q4 : Value) (x : Bs) (r : Bool) (w : World) (h30 : w.cell? ⟨p3, 0, none⟩ = some a) (h31 : w.cell? ⟨p3, 1, none⟩ = some b) (h80 : w.cell? ⟨p8, 0, none⟩ = some t0) (h81 : w.cell? ⟨p8, 1, none⟩ = some t1) (h82 : w.cell? ⟨p8, 2, none⟩ = some t2)
  (h40:w.cell? ⟨p4,0,none⟩=some q0) (h41:w.cell? ⟨p4,1,none⟩=some q1) (h42:w.cell? ⟨p4,2,none⟩=some q2) (h43:w.cell? ⟨p4,3,none⟩=some q3) (h44:w.cell? ⟨p4,4,none⟩=some q4)
  (hc:Calls Tryz.prog 274 #[.agg #[a,b],.agg #[t0,t1,t2],.agg #[q0,q1,q2,q3,q4],.string (B x)] w fun e w'=>e=.returned (.bool r)∧Below w.heap.size w w') :
  Calls Tryz.prog 273 #[.string (B x),.pointer (some ⟨p3,0,none⟩),.pointer (some ⟨p8,0,none⟩),.pointer (some ⟨p4,0,none⟩)] w fun e w'=>e=.returned (.bool r)∧Below w.heap.size w w':=by
 go_enter Tryz.func273,Tryz.ntmps273
 go_wp2_with fail
 refine hc.mono ?_
 rintro e w2 ⟨rfl,hb2⟩
 go_wp2_with fail
 go_ret
 exact ⟨rfl,hb2⟩
theorem fMat_unf (s:Idn.Sch) (A:List Idn.Att) (f:Flt):fMat s A f=if f.kind=1 then fAll s A f.kids else if f.kind=2 then fAny s A f.kids else if f.kind=3 then !fAll s A f.kids else cmpF s A f.kind f.name f.value f.parts:=by cases f;rfl
theorem any_not {α:Type} (p:α→Bool) (l:List α):(l.any fun x=>!p x)=!l.all p:=by
 induction l with
 |nil=>rfl
 |cons a l ih=>rw[List.any_cons,List.all_cons,ih];cases p a<;>rfl
def AGet (A:List Idn.Att):Prop:=Idn.ASm7 A∧∀n,(rGet A n).length≤1000000000∧∀x∈rGet A n,x.length≤100000000
theorem node_parts {f:Flt} (h:nodeErr f=0):f.kind=8→2≤f.parts.length:=by
 cases f with
 |mk k n v ps ks=>
  intro hk
  have hk':k=8:=hk
  subst hk'
  have hf:=ownErr_form (nodeErr_zero.1 h).1
  unfold formF at hf
  rw[if_neg (by omega),if_neg (by omega),if_neg (by omega),if_neg (by omega),if_pos rfl]at hf
  simp only[Bool.and_eq_true]at hf
  have h2:=hf.2.2
  unfold partsF at h2
  simp only[Bool.and_eq_true,decide_eq_true_eq]at h2
  exact h2.1
theorem match_any : ∀ (d : Nat) (u : Value) (s : Idn.Sch) (v : Value) (f : Flt) (nm : ByteArray) (av : Value) (A : List Idn.Att) (w : World), SchV w w.heap.size u s → SSm s → Env w → EnvU w → AttsV w w.heap.size av A → AGet A → FltV w w.heap.size d v f → FSm 1000 f → nodeErr f = 0 →
  Calls Tryz.prog 224 #[u,v,.agg #[.string nm,av]] w fun e w'=>e=.returned (.bool (fMat s A f))∧Below w.heap.size w w':=by
 intro d
 induction d using Nat.strongRecOn with
 |_ d ih=>
 intro u s v f nm av A w hu hs hE hU ha hA hv hsm hne
 have hks:=hsm.kids
 have hkl:=hks.len
 have hu0:=hu
 have hv0:=hv
 obtain ⟨Ap,cp,Ak,ck,rfl,hp,hk⟩:=hv.shape
 obtain ⟨sa,sb,rfl,hT,hC⟩:=hu
 obtain ⟨A1,c1,rfl,_⟩:=SlV.shape hT
 obtain ⟨A2,c2,rfl,_⟩:=SlV.shape hC
 obtain ⟨A3,c3,rfl,_⟩:=SlV.shape ha
 have hne':∀g∈f.kids,nodeErr g=0:=by
  cases f;exact (nodeErr_zero.1 hne).2
 have kK:=fun (g:Flt) (hg:g∈f.kids) (hd:0<d) (vg:Value) (W:World) (hW:Below w.heap.size w W) (hvg:FltV W W.heap.size (d-1) vg g)=>
  ih (d-1) (by omega) _ s vg g nm _ A W (SchV.mono (SchV.keep hu0 hW) hW.size) hs (hE.keep hW) (hU.keep hW) (AttsV.mono (AttsV.keep ha hW) hW.size) hA hvg (hks.mem hg) (hne' g hg)
 have HR:=Lib.hid (fMat_unf s A f)
 have kSat:=fun (tn:Bs) (ty:Int) (ts:Bool) (x:Bs) (hx:x.length≤100000000) W (hW:Below w.heap.size w W)=>satisfies_any _ s tn ty ts _ f d x W (SchV.mono (SchV.keep hu0 hW) hW.size) hs (hE.keep hW) (hU.keep hW) (hv0.on hW) hsm.2 (node_parts hne) hx
 have kT:=fun W (hW:Below w.heap.size w W)=>type_any _ s (B f.name) W (SchV.mono (SchV.keep hu0 hW) hW.size) hs (by rw[Idn.size_B];have:=(fOk_own hsm.2).1;omega)
 have kG:=fun W (hW:Below w.heap.size w W)=>getG_any _ A (B f.name) W (AttsV.mono (AttsV.keep ha hW) hW.size) hA.1 (by rw[Idn.size_B];have:=(fOk_own hsm.2).1;omega)
 have kgl:=hA.2 f.name
 have hk3:f.kind=3→∃g,f.kids=[g]:=fun h3=>by
  rcases mov_cases' f hne h3 with ⟨g,hg⟩
  exact ⟨g,hg⟩
 simp only[Idn.L_B]at kT kG
 generalize fMat s A f=R at *
 clear hT hC hu0 hv0 hv hsm hE hU hs hne hne' hA ih
 go_enter Tryz.func224,Tryz.ntmps224
 go_upto_region 1 with fail
 with_reducible refine gen3 (R:=fun W=>Code.wp Tryz.prog _ _ _ W) ?_
 intro W hbW hszW hc1 hc2 hc3 _
 have s0:W.cell? ⟨w.heap.size,0,none⟩=some (.slice A1 s.types.length c1):=hc1 0 _ rfl
 have s1:W.cell? ⟨w.heap.size,1,none⟩=some (.slice A2 s.classes.length c2):=hc1 1 _ rfl
 have b0:W.cell? ⟨w.heap.size+1,0,none⟩=some (.int .i64 f.kind):=hc2 0 _ rfl
 have b1:W.cell? ⟨w.heap.size+1,1,none⟩=some (.string (B f.name)):=hc2 1 _ rfl
 have b2:W.cell? ⟨w.heap.size+1,2,none⟩=some (.string (B f.value)):=hc2 2 _ rfl
 have b3:W.cell? ⟨w.heap.size+1,3,none⟩=some (.slice Ap f.parts.length cp):=hc2 3 _ rfl
 have b4:W.cell? ⟨w.heap.size+1,4,none⟩=some (.slice Ak f.kids.length ck):=hc2 4 _ rfl
 have e0:W.cell? ⟨w.heap.size+1+1,0,none⟩=some (.string nm):=hc3 0 _ rfl
 have e1:W.cell? ⟨w.heap.size+1+1,1,none⟩=some (.slice A3 A.length c3):=hc3 1 _ rfl
 clear hc1 hc2 hc3 hszW
 go_upto_region 2 with fail
 with_reducible refine gen1 (R:=fun W=>Code.wp Tryz.prog _ _ _ W) ?_
 intro W2 hbW2 hszW2 hc7 _
 have p7:W2.cell? ⟨W.heap.size,0,none⟩=some (.func (.func 271) #[] #[.pointer (some ⟨w.heap.size,0,none⟩),.pointer (some ⟨w.heap.size+1+1,0,none⟩)]):=hc7 0 _ rfl
 replace s0:=cell_later hbW2 s0
 replace s1:=cell_later hbW2 s1
 replace b0:=cell_later hbW2 b0
 replace b1:=cell_later hbW2 b1
 replace b2:=cell_later hbW2 b2
 replace b3:=cell_later hbW2 b3
 replace b4:=cell_later hbW2 b4
 replace e0:=cell_later hbW2 e0
 replace e1:=cell_later hbW2 e1
 have hb:=hbW.trans (hbW2.mono hbW.size)
 clear hc7 hszW2 hbW2 hbW
 have k1:=fun (V:World) (vg:Value) (g:Flt) (hg:g∈f.kids) (hV:Below W2.heap.size W2 V) (hd:0<d) (hvg:FltV V V.heap.size (d-1) vg g)=>match1_any w.heap.size (w.heap.size+1+1) (d-1) _ _ _ _ vg g (fMat s A g) V hvg (cell_later hV s0) (cell_later hV s1) (cell_later hV e0) (cell_later hV e1) (fun Z hZ=>kK g hg hd vg Z ((hb.trans (hV.mono hb.size)).trans (hZ.mono (hb.trans (hV.mono hb.size)).size)) (hvg.on hZ))
 have hk2:=FltsV.on hk hb
 clear hk
 by_cases h1:f.kind=1
 ·have HF:Hid (R=!!f.kids.all (fMat s A)):=by show _=_;rw[HR.out,if_pos h1,fAll_eq];simp
  have hH:=hasK_any 272 #[.pointer (some ⟨W.heap.size,0,none⟩)] fn_m2 (fun g=>!fMat s A g) _ f.kids d W2 hk2 (by omega) fun V vg g hg hV hd hvg=>
   match2_any W.heap.size w.heap.size (w.heap.size+1+1) (d-1) vg g (fMat s A g) V hvg (cell_later hV p7) fun Z hZ=>k1 Z vg g hg (hV.trans (hZ.mono hV.size)) hd (hvg.on hZ)
  rw[any_not]at hH
  rw[h1]at b0
  generalize f.kids.all (fMat s A)=ra at *
  clear HR h1 k1 kK kSat kT kG kgl hk3 hk2 hp ha
  cases ra
  all_goals
   go_wp2_with fail
   refine hH.mono ?_
   rintro e w3 ⟨rfl,hb3⟩
   go_wp2_with fail
   go_ret
   exact ⟨ret_bool HF.out.symm,hb.trans (hb3.mono hb.size)⟩
 by_cases h2:f.kind=2
 ·have HF:Hid (R=f.kids.any (fMat s A)):=by show _=_;rw[HR.out,if_neg h1,if_pos h2,fAny_eq]
  have hH:=hasK_any 271 #[.pointer (some ⟨w.heap.size,0,none⟩),.pointer (some ⟨w.heap.size+1+1,0,none⟩)] fn_m1 (fMat s A) _ f.kids d W2 hk2 (by omega) fun V vg g hg hV hd hvg=>k1 V vg g hg hV hd hvg
  rw[h2]at b0
  generalize f.kids.any (fMat s A)=ra at *
  clear HR h1 h2 k1 kK kSat kT kG kgl hk3 hk2 hp ha
  go_wp2_with fail
  refine hH.mono ?_
  rintro e w3 ⟨rfl,hb3⟩
  go_wp2_with fail
  go_ret
  exact ⟨ret_bool HF.out.symm,hb.trans (hb3.mono hb.size)⟩
 by_cases h3:f.kind=3
 ·obtain ⟨g,hkg⟩:=hk3 h3
  have HF:Hid (R=!fMat s A g):=by show _=_;rw[HR.out,if_neg h1,if_neg h2,if_pos h3,hkg,fAll_eq];simp
  obtain ⟨gb,off,Ap',cp',Ak',ck',hAk,hgl,g0,g1,g2,g3,g4,hd,hkid⟩:=FltsV.kid2 hk2 (k:=0) (by rw[hkg];exact Nat.one_pos)
  have hg:f.kids[0]'(by rw[hkg];exact Nat.one_pos)=g:=by simp[hkg]
  rw[hg]at g0 g1 g2 g3 g4 hkid
  simp only[Nat.zero_mul,Nat.add_zero]at g0 g1 g2 g3 g4
  subst hAk
  have hmg:g∈f.kids:=by rw[hkg];exact List.mem_cons_self
  have hl1:f.kids.length=1:=by rw[hkg];rfl
  rw[hl1]at b4 hk2⊢
  rw[h3]at b0
  have hcall:=fun V (hV:Below W2.heap.size W2 V)=>k1 V _ g hmg hV hd (hkid.on hV)
  have q1:=cq (W:=W2) fun V hV=>hcall V hV
  generalize fMat s A g=rg at *
  have i7:=cell_regrown p7
  have i4:=cell_regrown b4
  have i0:=cell_regrown g0
  have i1:=cell_regrown g1
  have i2:=cell_regrown g2
  have i3:=cell_regrown g3
  have i5:=cell_regrown g4
  clear HR h1 h2 h3 k1 kK kSat kT kG kgl hk3 hk2 hp ha hkid hkg hg hl1 hmg hcall hkl hks
  cases rg
  all_goals
   go_wp2_with fail
   refine wp_region_quiet_below (by kernel_rfl) (by kernel_rfl) ?_
   repeat (first|go_big_quiet_step ((go_at_call 271;exact q1 _ _))|quiet_step ((go_at_call 271;exact q1 _ _)))
   refine wpQuiet_nil ?_
   intro _ hw'
   obtain ⟨⟨dq,osq⟩,hw''⟩:=hw'
   subst hw''
   have hb4:=below_regrown W2 dq osq
   generalize grow (redrawn W2 dq) osq=W4 at hb4⊢
   go_wp2_with fail
   go_ret
   exact ⟨ret_bool HF.out.symm,hb.trans (hb4.mono hb.size)⟩
 have f1:(f.kind==1)=false:=beq_eq_false_iff_ne.2 h1
 have f2:(f.kind==2)=false:=beq_eq_false_iff_ne.2 h2
 have f3:(f.kind==3)=false:=beq_eq_false_iff_ne.2 h3
 have HR2:Hid (R=((tyLook (sound s) f.name).2&&(rGet A f.name).any fun x=>satF s (tyLook (sound s) f.name).1.syn f.kind f.name f.value f.parts x)):=by
  show _=_;rw[HR.out,if_neg h1,if_neg h2,if_neg h3];rfl
 clear HR h1 h2 h3 k1 kK hk3 hk2 p7
 generalize tyLook (sound s) f.name=tl at *
 obtain ⟨⟨tn,ty,ts⟩,ok⟩:=tl
 dsimp only at HR2
 unfold tyV sv at kT
 dsimp only at kT
 go_wp2_with fail
 refine (kT W2 hb).mono ?_
 rintro e w3 ⟨rfl,hb3⟩
 clear kT
 go_upto_region 10 with fail
 with_reducible refine gen1 (R:=fun W=>Code.wp Tryz.prog _ _ _ W) ?_
 intro W4 hbW4 hszW4 hc8 _
 have t0:W4.cell? ⟨w3.heap.size,0,none⟩=some (.string (B tn)):=hc8 0 _ rfl
 have t1:W4.cell? ⟨w3.heap.size,1,none⟩=some (.int .i64 ty):=hc8 1 _ rfl
 have t2:W4.cell? ⟨w3.heap.size,2,none⟩=some (.bool ts):=hc8 2 _ rfl
 have hb34:=hb3.trans (hbW4.mono hb3.size)
 have hbw:=hb.trans (hb34.mono hb.size)
 replace s0:=cell_later hb34 s0
 replace s1:=cell_later hb34 s1
 replace b0:=cell_later hb34 b0
 replace b1:=cell_later hb34 b1
 replace b2:=cell_later hb34 b2
 replace b3:=cell_later hb34 b3
 replace b4:=cell_later hb34 b4
 replace e0:=cell_later hb34 e0
 replace e1:=cell_later hb34 e1
 clear hc8 hszW4 hbW4 hb3 hb34
 cases ok
 ·have HF:Hid (R=false):=HR2.out
  clear HR2 kSat kG kgl hp ha
  go_wp2_with fail
  go_ret
  exact ⟨ret_bool HF.out.symm,hbw⟩
 have HR3:Hid (R=(rGet A f.name).any fun x=>satF s ty f.kind f.name f.value f.parts x):=HR2.out
 clear HR2
 go_wp2_with fail
 refine (kG W4 hbw).mono ?_
 rintro e w5 ⟨A5,c5,rfl,hown5,hb5⟩
 have hS5:StrsV w5 w5.heap.size (.slice A5 (rGet A f.name).length (rGet A f.name).length) (rGet A f.name):=CutS.read (base:=W4.heap.size) ⟨A5,c5,_,rfl,Nat.le_refl _,hown5⟩
 have hbw5:=hbw.trans (hb5.mono hbw.size)
 have hH:=hasF_any 273 #[.pointer (some ⟨w.heap.size,0,none⟩),.pointer (some ⟨w3.heap.size,0,none⟩),.pointer (some ⟨w.heap.size+1,0,none⟩)] fn_m3 (fun x=>satF s ty f.kind f.name f.value f.parts x) _ (rGet A f.name) w5 hS5 (by have:=kgl.1;omega) fun V x hx hV=>
  have hbV:=hb5.trans (hV.mono hb5.size)
  match3_any w.heap.size w3.heap.size (w.heap.size+1) _ _ _ _ _ _ _ _ _ _ x _ V (cell_later hbV s0) (cell_later hbV s1) (cell_later hbV t0) (cell_later hbV t1) (cell_later hbV t2) (cell_later hbV b0) (cell_later hbV b1) (cell_later hbV b2) (cell_later hbV b3) (cell_later hbV b4) (kSat tn ty ts x (kgl.2 x hx) V (hbw5.trans (hV.mono hbw5.size)))
 rw[←HR3.out]at hH
 clear HR3 kG kSat hown5 hS5 kgl hp ha
 go_wp2_with fail
 refine hH.mono ?_
 rintro e w6 ⟨rfl,hb6⟩
 go_wp2_with fail
 go_ret
 exact ⟨rfl,hbw5.trans (hb6.mono hbw5.size)⟩
theorem fMatch_any (d : Nat) (u : Value) (s : Idn.Sch) (v : Value) (f : Flt) (nm : ByteArray) (av : Value) (A : List Idn.Att) (w : World) (hu : SchV w w.heap.size u s) (hs : SSm s) (hE : Env w) (hU : EnvU w) (ha : AttsV w w.heap.size av A) (hA : AGet A) (hv : FltV w w.heap.size d v f) (hsm : FSm 1000 f) :
  Calls Tryz.prog 174 #[u,v,.agg #[.string nm,av]] w fun e w'=>e=.returned (.bool (fMatch s A f))∧Below w.heap.size w w':=by
 have kC:=fun W (hW:Below w.heap.size w W)=>fCheck_any d _ f W (hv.on hW) hsm
 have kM:=fun (hz:fCheck f=0) W (hW:Below w.heap.size w W)=>match_any d u s v f nm av A W (SchV.mono (SchV.keep hu hW) hW.size) hs (hE.keep hW) (hU.keep hW) (AttsV.mono (AttsV.keep ha hW) hW.size) hA (hv.on hW) hsm (fCheck_zero.1 hz).2.2
 obtain ⟨Ap,cp,Ak,ck,rfl,hp,hk⟩:=hv.shape
 obtain ⟨sa,sb,rfl,hT,hC⟩:=hu
 obtain ⟨A1,c1,rfl,_⟩:=SlV.shape hT
 obtain ⟨A2,c2,rfl,_⟩:=SlV.shape hC
 obtain ⟨A3,c3,rfl,_⟩:=SlV.shape ha
 have HR:Hid (fMatch s A f=(decide (fCheck f=0)&&fMat s A f)):=rfl
 generalize fMatch s A f=R at *
 generalize fMat s A f=m at *
 generalize fCheck f=ec at *
 clear hT hC hp hk hv ha hA hE hU hs hsm
 go_enter Tryz.func174,Tryz.ntmps174
 go_upto_region 1 with fail
 with_reducible refine gen3 (R:=fun W=>Code.wp Tryz.prog _ _ _ W) ?_
 intro W hbW hszW hc1 hc2 hc3 _
 have s0:W.cell? ⟨w.heap.size,0,none⟩=some (.slice A1 s.types.length c1):=hc1 0 _ rfl
 have s1:W.cell? ⟨w.heap.size,1,none⟩=some (.slice A2 s.classes.length c2):=hc1 1 _ rfl
 have b0:W.cell? ⟨w.heap.size+1,0,none⟩=some (.int .i64 f.kind):=hc2 0 _ rfl
 have b1:W.cell? ⟨w.heap.size+1,1,none⟩=some (.string (B f.name)):=hc2 1 _ rfl
 have b2:W.cell? ⟨w.heap.size+1,2,none⟩=some (.string (B f.value)):=hc2 2 _ rfl
 have b3:W.cell? ⟨w.heap.size+1,3,none⟩=some (.slice Ap f.parts.length cp):=hc2 3 _ rfl
 have b4:W.cell? ⟨w.heap.size+1,4,none⟩=some (.slice Ak f.kids.length ck):=hc2 4 _ rfl
 have e0:W.cell? ⟨w.heap.size+1+1,0,none⟩=some (.string nm):=hc3 0 _ rfl
 have e1:W.cell? ⟨w.heap.size+1+1,1,none⟩=some (.slice A3 A.length c3):=hc3 1 _ rfl
 clear hc1 hc2 hc3 hszW
 go_wp2_with fail
 refine (kC W hbW).mono ?_
 rintro e w1 ⟨rfl,hb1⟩
 have hb:=hbW.trans (hb1.mono hbW.size)
 replace s0:=cell_later hb1 s0
 replace s1:=cell_later hb1 s1
 replace b0:=cell_later hb1 b0
 replace b1:=cell_later hb1 b1
 replace b2:=cell_later hb1 b2
 replace b3:=cell_later hb1 b3
 replace b4:=cell_later hb1 b4
 replace e0:=cell_later hb1 e0
 replace e1:=cell_later hb1 e1
 clear kC hb1 hbW
 by_cases hec:ec=0
 ·have hI:(ec==0)=true:=beq_iff_eq.2 hec
  have HF:Hid (R=m):=by show _=_;rw[HR.out,decide_eq_true hec];rfl
  have hM:=kM hec w1 hb
  clear HR kM hec
  go_wp2_with fail
  refine hM.mono ?_
  rintro e w2 ⟨rfl,hb2⟩
  go_wp2_with fail
  go_ret
  exact ⟨ret_bool HF.out.symm,hb.trans (hb2.mono hb.size)⟩
 ·have hI:(ec==0)=false:=beq_eq_false_iff_ne.2 hec
  have HF:Hid (R=false):=by show _=_;rw[HR.out,decide_eq_false hec];rfl
  clear HR kM hec
  go_wp2_with fail
  go_ret
  exact ⟨ret_bool HF.out.symm,hb⟩
end Go.Proofs.YtbkkchhimhlhcaaGreatDoor
