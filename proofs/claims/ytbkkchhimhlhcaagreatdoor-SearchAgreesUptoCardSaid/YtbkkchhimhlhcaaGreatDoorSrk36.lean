/- Part 36 of the proof that identitylaw12.SearchChecks returns true for every data that it may be called with: proof: the package variables hold what the program lays; nothing else is asked. -/
import Derived.Test.YtbkkchhimhlhcaaGreatDoorSrk33
set_option linter.unusedVariables false
set_option linter.unusedSimpArgs false
set_option maxRecDepth 100000
set_option maxHeartbeats 16000000
/- filter: comparison, check, Check. -/
namespace Go.Proofs.YtbkkchhimhlhcaaGreatDoor
open Go.RowKit Go.Sort
open Idn (L B Bs drop_L take_L size_L)
theorem fcomp_any (k:Int) (w:World):Calls Tryz.prog 207 #[.int .i64 k] w fun e w'=>e=.returned (.bool (isCmp k))∧w=w':=by
 have HP:Hid (isCmp k=(decide (4≤k)&&decide (k≤8))):=rfl
 by_cases h4:4≤k
 ·by_cases h8:k≤8
  ·have HF:Hid (isCmp k=true):=by show _=_;rw[HP.out,decide_eq_true h4,decide_eq_true h8];rfl
   go_enter Tryz.func207,Tryz.ntmps207
   go_wp2_with fail
   go_ret
   exact ⟨ret_bool HF.out.symm,rfl⟩
  ·have HF:Hid (isCmp k=false):=by show _=_;rw[HP.out,decide_eq_true h4,decide_eq_false h8];rfl
   go_enter Tryz.func207,Tryz.ntmps207
   go_wp2_with fail
   go_ret
   exact ⟨ret_bool HF.out.symm,rfl⟩
 ·have HF:Hid (isCmp k=false):=by show _=_;rw[HP.out,decide_eq_false h4];rfl
  go_enter Tryz.func207,Tryz.ntmps207
  go_wp2_with fail
  go_ret
  exact ⟨ret_bool HF.out.symm,rfl⟩
theorem nodeErr_unf (f:Flt):nodeErr f=if ownErr f.kind f.name f.value f.parts f.kids.length !=0 then ownErr f.kind f.name f.value f.parts f.kids.length else nodeErrs f.kids:=by cases f;rfl
theorem nodeErrs_step {l:List Flt} {k:Nat} (h:k<l.length):nodeErrs (l.drop k)=if nodeErr l[k] !=0 then nodeErr l[k]else nodeErrs (l.drop (k+1)):=by
 rw[List.drop_eq_getElem_cons h,nodeErrs]
theorem fcheck_any : ∀ (d : Nat) (v : Value) (f : Flt) (w : World), FltV w w.heap.size d v f → FSm 1000 f →
  Calls Tryz.prog 153 #[v] w fun e w'=>e=.returned (.int .i64 (nodeErr f))∧Below w.heap.size w w':=by
 intro d
 induction d using Nat.strongRecOn with
 |_ d ih=>
 intro v f w hv hs
 obtain ⟨Ap,cp,Ak,ck,rfl,hp,hk⟩:=hv.shape
 have hks:=hs.kids
 have hkl:=hks.len
 obtain ⟨o1,o2,o3,o4⟩:=fOk_own hs.2
 have kF:=fun W (hW:Below w.heap.size w W)=>formed_any _ f d W (hv.on hW) (by omega)
 have kC:=fun W=>fcomp_any f.kind W
 have kN:=fun W=>name_any (B f.name) W (by rw[Idn.size_B];omega)
 have kL:=fun W=>clean_any (B f.value) W (by rw[Idn.size_B];omega)
 have kP:=fun W (hW:Below w.heap.size w W)=>hasF_any 209 #[] fn_fcheck1 (fun s=>!prtF s) _ f.parts W (SlV.mono (SlV.keep hp hW) hW.size) (by omega) fun W' x hx _=>fcheck1_any x W' (by have:=o4 x hx;omega)
 simp only[Idn.L_B]at kN kL
 have HE:Hid (nodeErr f=if ownErr f.kind f.name f.value f.parts f.kids.length !=0 then ownErr f.kind f.name f.value f.parts f.kids.length else nodeErrs f.kids):=nodeErr_unf f
 have HO:Hid (ownErr f.kind f.name f.value f.parts f.kids.length=if !formF f.kind f.name f.value f.parts f.kids.length then 4 else if isCmp f.kind then (if !Idn.name f.name then 5 else if (decide (f.kind≤6)&&!Idn.clean f.value)||f.parts.any fun s=>!prtF s then 8 else 0)else 0):=rfl
 have HC:Hid (isCmp f.kind=true↔4≤f.kind∧f.kind≤8):=by show _↔_;simp[isCmp]
 generalize ownErr f.kind f.name f.value f.parts f.kids.length=oe at *
 generalize formF f.kind f.name f.value f.parts f.kids.length=r1 at *
 generalize isCmp f.kind=r5 at *
 generalize Idn.name f.name=r2 at *
 generalize Idn.clean f.value=r3 at *
 generalize (f.parts.any fun s=>!prtF s)=r4 at *
 generalize nodeErr f=ne at *
 generalize f.kind=kd at *
 clear hp hv o1 o2 o3 o4
 cases r1
 ·have HF:Hid (ne=4):=by show _=_;rw[HE.out,HO.out];rfl
  clear HE HO HC kC kN kL kP ih hk
  go_enter Tryz.func153,Tryz.ntmps153
  go_upto_region 1 with fail
  with_reducible refine gen1 (R:=fun W=>Code.wp Tryz.prog _ _ _ W) ?_
  intro W hbW hszW hc _
  have b0:W.cell? ⟨w.heap.size,0,none⟩=some (.int .i64 kd):=hc 0 _ rfl
  have b1:W.cell? ⟨w.heap.size,1,none⟩=some (.string (B f.name)):=hc 1 _ rfl
  have b2:W.cell? ⟨w.heap.size,2,none⟩=some (.string (B f.value)):=hc 2 _ rfl
  have b3:W.cell? ⟨w.heap.size,3,none⟩=some (.slice Ap f.parts.length cp):=hc 3 _ rfl
  have b4:W.cell? ⟨w.heap.size,4,none⟩=some (.slice Ak f.kids.length ck):=hc 4 _ rfl
  clear hc hszW
  go_wp2_with fail
  refine (kF W hbW).mono ?_
  rintro e w1 ⟨rfl,hb1⟩
  replace b0:=cell_later hb1 b0
  replace b1:=cell_later hb1 b1
  replace b2:=cell_later hb1 b2
  replace b3:=cell_later hb1 b3
  replace b4:=cell_later hb1 b4
  have hbX:=hbW.trans (hb1.mono hbW.size)
  clear hb1 hbW kF
  go_wp2_with fail
  go_ret
  exact ⟨ret_int HF.out.symm,hbX⟩
 cases r5
 ·have HF:Hid (ne=nodeErrs (f.kids.drop 0)):=by show _=_;rw[HE.out,HO.out];rfl
  clear HE HO HC kN kL kP
  go_enter Tryz.func153,Tryz.ntmps153
  go_upto_region 1 with fail
  with_reducible refine gen1 (R:=fun W=>Code.wp Tryz.prog _ _ _ W) ?_
  intro W hbW hszW hc _
  have b0:W.cell? ⟨w.heap.size,0,none⟩=some (.int .i64 kd):=hc 0 _ rfl
  have b1:W.cell? ⟨w.heap.size,1,none⟩=some (.string (B f.name)):=hc 1 _ rfl
  have b2:W.cell? ⟨w.heap.size,2,none⟩=some (.string (B f.value)):=hc 2 _ rfl
  have b3:W.cell? ⟨w.heap.size,3,none⟩=some (.slice Ap f.parts.length cp):=hc 3 _ rfl
  have b4:W.cell? ⟨w.heap.size,4,none⟩=some (.slice Ak f.kids.length ck):=hc 4 _ rfl
  clear hc hszW
  go_wp2_with fail
  refine (kF W hbW).mono ?_
  rintro e w1 ⟨rfl,hb1⟩
  replace b0:=cell_later hb1 b0
  replace b1:=cell_later hb1 b1
  replace b2:=cell_later hb1 b2
  replace b3:=cell_later hb1 b3
  replace b4:=cell_later hb1 b4
  have hbX:=hbW.trans (hb1.mono hbW.size)
  clear hb1 hbW kF
  go_wp2_with fail
  refine (kC w1).mono ?_
  rintro e wd ⟨rfl,rfl⟩
  clear kC
  go_wp2_with fail
  go_loopw [45] (fun i wr=>∃k:Nat,k≤f.kids.length∧i=.int .i64 k∧Below w.heap.size w wr∧Hid (ne=nodeErrs (f.kids.drop k))) (fun i _=>f.kids.length-(intOf i).toNat)
  case atStart=>exact ⟨0,Nat.zero_le _,rfl,hbX,HF⟩
  case round=>
   obtain ⟨k,hk9,rfl,hb,hinv⟩:=hrel
   by_cases hlt:k<f.kids.length
   ·obtain ⟨g,off,Ap',cp',Ak',ck',hA,hg,c0,c1,c2,c3,c4,hd,hkid⟩:=FltsV.kid2 (FltsV.keep hk hb) hlt
    subst hA
    have hltI:(k:Int)<(f.kids.length:Int):=by omega
    have hmem:=List.getElem_mem hlt
    have HT:=Lib.hid (nodeErrs_step hlt)
    clear hbX b4
    go_upto_region 12 with fail
    with_reducible refine gen1 (R:=fun W=>Code.wp Tryz.prog _ _ _ W) ?_
    intro W5 hbW5 hsz5 hc5 _
    have k0:W5.cell? ⟨wr.heap.size,0,none⟩=some (.int .i64 f.kids[k].kind):=hc5 0 _ rfl
    have k1:W5.cell? ⟨wr.heap.size,1,none⟩=some (.string (B f.kids[k].name)):=hc5 1 _ rfl
    have k2:W5.cell? ⟨wr.heap.size,2,none⟩=some (.string (B f.kids[k].value)):=hc5 2 _ rfl
    have k3:W5.cell? ⟨wr.heap.size,3,none⟩=some (.slice Ap' f.kids[k].parts.length cp'):=hc5 3 _ rfl
    have k4:W5.cell? ⟨wr.heap.size,4,none⟩=some (.slice Ak' f.kids[k].kids.length ck'):=hc5 4 _ rfl
    have hcall:=ih (d-1) (by omega) _ f.kids[k] W5 (FltV.on (FltV.mono hkid hb.size) hbW5) (hks.mem hmem)
    have hb5:=hb.trans (hbW5.mono hb.size)
    clear hc5 hsz5 hkid c0 c1 c2 c3 c4 hbW5 ih hk
    generalize nodeErr f.kids[k]=q at *
    by_cases hq:q=0
    ·have hI:(q !=0)=false:=by simpa using hq
     have HV:Hid (ne=nodeErrs (f.kids.drop (k+1))):=by show _=_;rw[hinv.out,HT.out,hI];rfl
     clear hinv HT hq
     go_wp2_with fail
     refine hcall.mono ?_
     rintro e w6 ⟨rfl,hb6⟩
     clear hcall k0 k1 k2 k3 k4
     go_wp2_with fail
     go_roundw
     case rel=>exact ⟨k+1,by omega,by go_num,hb5.trans (hb6.mono hb5.size),HV⟩
     case measure=>simp[intOf];omega
    ·have hI:(q !=0)=true:=by simpa using hq
     have HV:Hid (ne=q):=by show _=_;rw[hinv.out,HT.out,hI];rfl
     clear hinv HT hq
     go_wp2_with fail
     refine hcall.mono ?_
     rintro e w6 ⟨rfl,hb6⟩
     clear hcall k0 k1 k2 k3 k4
     go_wp2_with fail
     go_ret
     exact ⟨ret_int HV.out.symm,hb5.trans (hb6.mono hb5.size)⟩
   ·have hltI:¬(k:Int)<(f.kids.length:Int):=by omega
    have HV:Hid (ne=0):=by show _=_;rw[hinv.out,List.drop_eq_nil_of_le (by omega)];rfl
    clear hinv hbX b4
    go_wp2_with fail
    go_ret
    exact ⟨ret_int HV.out.symm,hb⟩
 cases r2
 ·have HF:Hid (ne=5):=by show _=_;rw[HE.out,HO.out];rfl
  clear HE HO HC kL kP ih hk
  go_enter Tryz.func153,Tryz.ntmps153
  go_upto_region 1 with fail
  with_reducible refine gen1 (R:=fun W=>Code.wp Tryz.prog _ _ _ W) ?_
  intro W hbW hszW hc _
  have b0:W.cell? ⟨w.heap.size,0,none⟩=some (.int .i64 kd):=hc 0 _ rfl
  have b1:W.cell? ⟨w.heap.size,1,none⟩=some (.string (B f.name)):=hc 1 _ rfl
  have b2:W.cell? ⟨w.heap.size,2,none⟩=some (.string (B f.value)):=hc 2 _ rfl
  have b3:W.cell? ⟨w.heap.size,3,none⟩=some (.slice Ap f.parts.length cp):=hc 3 _ rfl
  have b4:W.cell? ⟨w.heap.size,4,none⟩=some (.slice Ak f.kids.length ck):=hc 4 _ rfl
  clear hc hszW
  go_wp2_with fail
  refine (kF W hbW).mono ?_
  rintro e w1 ⟨rfl,hb1⟩
  replace b0:=cell_later hb1 b0
  replace b1:=cell_later hb1 b1
  replace b2:=cell_later hb1 b2
  replace b3:=cell_later hb1 b3
  replace b4:=cell_later hb1 b4
  have hbX:=hbW.trans (hb1.mono hbW.size)
  clear hb1 hbW kF
  go_wp2_with fail
  refine (kC w1).mono ?_
  rintro e wd ⟨rfl,rfl⟩
  clear kC
  go_wp2_with fail
  refine (kN w1).mono ?_
  rintro e wd ⟨rfl,rfl⟩
  clear kN
  go_wp2_with fail
  go_ret
  exact ⟨ret_int HF.out.symm,hbX⟩
 rcases (show ((kd==4)=true∧kd≤6)∨((kd==4)=false∧(kd==5)=true∧kd≤6)∨((kd==4)=false∧(kd==5)=false∧(kd==6)=true∧kd≤6)∨((kd==4)=false∧(kd==5)=false∧(kd==6)=false∧¬kd≤6) by
  have:=HC.out.1 rfl
  simp only[beq_eq_false_iff_ne,beq_iff_eq];omega)with ⟨e4,e7⟩|⟨e4,e5,e7⟩|⟨e4,e5,e6,e7⟩|⟨e4,e5,e6,e7⟩
 iterate 3
  ·have HD:=Lib.hid (decide_eq_true e7)
   clear e7 HC
   cases r3
   ·have HF:Hid (ne=8):=by show _=_;rw[HE.out,HO.out,HD.out];rfl
    clear HE HO HD kP ih hk
    go_enter Tryz.func153,Tryz.ntmps153
    go_upto_region 1 with fail
    with_reducible refine gen1 (R:=fun W=>Code.wp Tryz.prog _ _ _ W) ?_
    intro W hbW hszW hc _
    have b0:W.cell? ⟨w.heap.size,0,none⟩=some (.int .i64 kd):=hc 0 _ rfl
    have b1:W.cell? ⟨w.heap.size,1,none⟩=some (.string (B f.name)):=hc 1 _ rfl
    have b2:W.cell? ⟨w.heap.size,2,none⟩=some (.string (B f.value)):=hc 2 _ rfl
    have b3:W.cell? ⟨w.heap.size,3,none⟩=some (.slice Ap f.parts.length cp):=hc 3 _ rfl
    have b4:W.cell? ⟨w.heap.size,4,none⟩=some (.slice Ak f.kids.length ck):=hc 4 _ rfl
    clear hc hszW
    go_wp2_with fail
    refine (kF W hbW).mono ?_
    rintro e w1 ⟨rfl,hb1⟩
    replace b0:=cell_later hb1 b0
    replace b1:=cell_later hb1 b1
    replace b2:=cell_later hb1 b2
    replace b3:=cell_later hb1 b3
    replace b4:=cell_later hb1 b4
    have hbX:=hbW.trans (hb1.mono hbW.size)
    clear hb1 hbW kF
    go_wp2_with fail
    refine (kC w1).mono ?_
    rintro e wd ⟨rfl,rfl⟩
    clear kC
    go_wp2_with fail
    refine (kN w1).mono ?_
    rintro e wd ⟨rfl,rfl⟩
    clear kN
    go_wp2_with fail
    refine (kL w1).mono ?_
    rintro e w2 ⟨rfl,hb2⟩
    replace b3:=cell_later hb2 b3
    replace b4:=cell_later hb2 b4
    replace hbX:=hbX.trans (hb2.mono hbX.size)
    clear kL hb2 b0 b1 b2
    go_wp2_with fail
    go_ret
    exact ⟨ret_int HF.out.symm,hbX⟩
   cases r4
   ·have HF:Hid (ne=nodeErrs (f.kids.drop 0)):=by show _=_;rw[HE.out,HO.out,HD.out];rfl
    clear HE HO HD
    go_enter Tryz.func153,Tryz.ntmps153
    go_upto_region 1 with fail
    with_reducible refine gen1 (R:=fun W=>Code.wp Tryz.prog _ _ _ W) ?_
    intro W hbW hszW hc _
    have b0:W.cell? ⟨w.heap.size,0,none⟩=some (.int .i64 kd):=hc 0 _ rfl
    have b1:W.cell? ⟨w.heap.size,1,none⟩=some (.string (B f.name)):=hc 1 _ rfl
    have b2:W.cell? ⟨w.heap.size,2,none⟩=some (.string (B f.value)):=hc 2 _ rfl
    have b3:W.cell? ⟨w.heap.size,3,none⟩=some (.slice Ap f.parts.length cp):=hc 3 _ rfl
    have b4:W.cell? ⟨w.heap.size,4,none⟩=some (.slice Ak f.kids.length ck):=hc 4 _ rfl
    clear hc hszW
    go_wp2_with fail
    refine (kF W hbW).mono ?_
    rintro e w1 ⟨rfl,hb1⟩
    replace b0:=cell_later hb1 b0
    replace b1:=cell_later hb1 b1
    replace b2:=cell_later hb1 b2
    replace b3:=cell_later hb1 b3
    replace b4:=cell_later hb1 b4
    have hbX:=hbW.trans (hb1.mono hbW.size)
    clear hb1 hbW kF
    go_wp2_with fail
    refine (kC w1).mono ?_
    rintro e wd ⟨rfl,rfl⟩
    clear kC
    go_wp2_with fail
    refine (kN w1).mono ?_
    rintro e wd ⟨rfl,rfl⟩
    clear kN
    go_wp2_with fail
    refine (kL w1).mono ?_
    rintro e w2 ⟨rfl,hb2⟩
    replace b3:=cell_later hb2 b3
    replace b4:=cell_later hb2 b4
    replace hbX:=hbX.trans (hb2.mono hbX.size)
    clear kL hb2 b0 b1 b2
    go_wp2_with fail
    refine (kP _ hbX).mono ?_
    rintro e w3 ⟨rfl,hb3⟩
    replace b4:=cell_later hb3 b4
    replace hbX:=hbX.trans (hb3.mono hbX.size)
    clear kP hb3 b3
    go_wp2_with fail
    go_loopw [45] (fun i wr=>∃k:Nat,k≤f.kids.length∧i=.int .i64 k∧Below w.heap.size w wr∧Hid (ne=nodeErrs (f.kids.drop k))) (fun i _=>f.kids.length-(intOf i).toNat)
    case atStart=>exact ⟨0,Nat.zero_le _,rfl,hbX,HF⟩
    case round=>
     obtain ⟨k,hk9,rfl,hb,hinv⟩:=hrel
     by_cases hlt:k<f.kids.length
     ·obtain ⟨g,off,Ap',cp',Ak',ck',hA,hg,c0,c1,c2,c3,c4,hd,hkid⟩:=FltsV.kid2 (FltsV.keep hk hb) hlt
      subst hA
      have hltI:(k:Int)<(f.kids.length:Int):=by omega
      have hmem:=List.getElem_mem hlt
      have HT:=Lib.hid (nodeErrs_step hlt)
      clear hbX b4
      go_upto_region 12 with fail
      with_reducible refine gen1 (R:=fun W=>Code.wp Tryz.prog _ _ _ W) ?_
      intro W5 hbW5 hsz5 hc5 _
      have k0:W5.cell? ⟨wr.heap.size,0,none⟩=some (.int .i64 f.kids[k].kind):=hc5 0 _ rfl
      have k1:W5.cell? ⟨wr.heap.size,1,none⟩=some (.string (B f.kids[k].name)):=hc5 1 _ rfl
      have k2:W5.cell? ⟨wr.heap.size,2,none⟩=some (.string (B f.kids[k].value)):=hc5 2 _ rfl
      have k3:W5.cell? ⟨wr.heap.size,3,none⟩=some (.slice Ap' f.kids[k].parts.length cp'):=hc5 3 _ rfl
      have k4:W5.cell? ⟨wr.heap.size,4,none⟩=some (.slice Ak' f.kids[k].kids.length ck'):=hc5 4 _ rfl
      have hcall:=ih (d-1) (by omega) _ f.kids[k] W5 (FltV.on (FltV.mono hkid hb.size) hbW5) (hks.mem hmem)
      have hb5:=hb.trans (hbW5.mono hb.size)
      clear hc5 hsz5 hkid c0 c1 c2 c3 c4 hbW5 ih hk
      generalize nodeErr f.kids[k]=q at *
      by_cases hq:q=0
      ·have hI:(q !=0)=false:=by simpa using hq
       have HV:Hid (ne=nodeErrs (f.kids.drop (k+1))):=by show _=_;rw[hinv.out,HT.out,hI];rfl
       clear hinv HT hq
       go_wp2_with fail
       refine hcall.mono ?_
       rintro e w6 ⟨rfl,hb6⟩
       clear hcall k0 k1 k2 k3 k4
       go_wp2_with fail
       go_roundw
       case rel=>exact ⟨k+1,by omega,by go_num,hb5.trans (hb6.mono hb5.size),HV⟩
       case measure=>simp[intOf];omega
      ·have hI:(q !=0)=true:=by simpa using hq
       have HV:Hid (ne=q):=by show _=_;rw[hinv.out,HT.out,hI];rfl
       clear hinv HT hq
       go_wp2_with fail
       refine hcall.mono ?_
       rintro e w6 ⟨rfl,hb6⟩
       clear hcall k0 k1 k2 k3 k4
       go_wp2_with fail
       go_ret
       exact ⟨ret_int HV.out.symm,hb5.trans (hb6.mono hb5.size)⟩
     ·have hltI:¬(k:Int)<(f.kids.length:Int):=by omega
      have HV:Hid (ne=0):=by show _=_;rw[hinv.out,List.drop_eq_nil_of_le (by omega)];rfl
      clear hinv hbX b4
      go_wp2_with fail
      go_ret
      exact ⟨ret_int HV.out.symm,hb⟩
   ·have HF:Hid (ne=8):=by show _=_;rw[HE.out,HO.out,HD.out];rfl
    clear HE HO HD ih hk
    go_enter Tryz.func153,Tryz.ntmps153
    go_upto_region 1 with fail
    with_reducible refine gen1 (R:=fun W=>Code.wp Tryz.prog _ _ _ W) ?_
    intro W hbW hszW hc _
    have b0:W.cell? ⟨w.heap.size,0,none⟩=some (.int .i64 kd):=hc 0 _ rfl
    have b1:W.cell? ⟨w.heap.size,1,none⟩=some (.string (B f.name)):=hc 1 _ rfl
    have b2:W.cell? ⟨w.heap.size,2,none⟩=some (.string (B f.value)):=hc 2 _ rfl
    have b3:W.cell? ⟨w.heap.size,3,none⟩=some (.slice Ap f.parts.length cp):=hc 3 _ rfl
    have b4:W.cell? ⟨w.heap.size,4,none⟩=some (.slice Ak f.kids.length ck):=hc 4 _ rfl
    clear hc hszW
    go_wp2_with fail
    refine (kF W hbW).mono ?_
    rintro e w1 ⟨rfl,hb1⟩
    replace b0:=cell_later hb1 b0
    replace b1:=cell_later hb1 b1
    replace b2:=cell_later hb1 b2
    replace b3:=cell_later hb1 b3
    replace b4:=cell_later hb1 b4
    have hbX:=hbW.trans (hb1.mono hbW.size)
    clear hb1 hbW kF
    go_wp2_with fail
    refine (kC w1).mono ?_
    rintro e wd ⟨rfl,rfl⟩
    clear kC
    go_wp2_with fail
    refine (kN w1).mono ?_
    rintro e wd ⟨rfl,rfl⟩
    clear kN
    go_wp2_with fail
    refine (kL w1).mono ?_
    rintro e w2 ⟨rfl,hb2⟩
    replace b3:=cell_later hb2 b3
    replace b4:=cell_later hb2 b4
    replace hbX:=hbX.trans (hb2.mono hbX.size)
    clear kL hb2 b0 b1 b2
    go_wp2_with fail
    refine (kP _ hbX).mono ?_
    rintro e w3 ⟨rfl,hb3⟩
    replace b4:=cell_later hb3 b4
    replace hbX:=hbX.trans (hb3.mono hbX.size)
    clear kP hb3 b3
    go_wp2_with fail
    go_ret
    exact ⟨ret_int HF.out.symm,hbX⟩
 have HD:=Lib.hid (decide_eq_false e7)
 clear e7 HC kL
 cases r4
 ·have HF:Hid (ne=nodeErrs (f.kids.drop 0)):=by show _=_;rw[HE.out,HO.out,HD.out];rfl
  clear HE HO HD
  go_enter Tryz.func153,Tryz.ntmps153
  go_upto_region 1 with fail
  with_reducible refine gen1 (R:=fun W=>Code.wp Tryz.prog _ _ _ W) ?_
  intro W hbW hszW hc _
  have b0:W.cell? ⟨w.heap.size,0,none⟩=some (.int .i64 kd):=hc 0 _ rfl
  have b1:W.cell? ⟨w.heap.size,1,none⟩=some (.string (B f.name)):=hc 1 _ rfl
  have b2:W.cell? ⟨w.heap.size,2,none⟩=some (.string (B f.value)):=hc 2 _ rfl
  have b3:W.cell? ⟨w.heap.size,3,none⟩=some (.slice Ap f.parts.length cp):=hc 3 _ rfl
  have b4:W.cell? ⟨w.heap.size,4,none⟩=some (.slice Ak f.kids.length ck):=hc 4 _ rfl
  clear hc hszW
  go_wp2_with fail
  refine (kF W hbW).mono ?_
  rintro e w1 ⟨rfl,hb1⟩
  replace b0:=cell_later hb1 b0
  replace b1:=cell_later hb1 b1
  replace b2:=cell_later hb1 b2
  replace b3:=cell_later hb1 b3
  replace b4:=cell_later hb1 b4
  have hbX:=hbW.trans (hb1.mono hbW.size)
  clear hb1 hbW kF
  go_wp2_with fail
  refine (kC w1).mono ?_
  rintro e wd ⟨rfl,rfl⟩
  clear kC
  go_wp2_with fail
  refine (kN w1).mono ?_
  rintro e wd ⟨rfl,rfl⟩
  clear kN
  go_wp2_with fail
  refine (kP _ hbX).mono ?_
  rintro e w3 ⟨rfl,hb3⟩
  replace b4:=cell_later hb3 b4
  replace hbX:=hbX.trans (hb3.mono hbX.size)
  clear kP hb3 b3
  go_wp2_with fail
  go_loopw [45] (fun i wr=>∃k:Nat,k≤f.kids.length∧i=.int .i64 k∧Below w.heap.size w wr∧Hid (ne=nodeErrs (f.kids.drop k))) (fun i _=>f.kids.length-(intOf i).toNat)
  case atStart=>exact ⟨0,Nat.zero_le _,rfl,hbX,HF⟩
  case round=>
   obtain ⟨k,hk9,rfl,hb,hinv⟩:=hrel
   by_cases hlt:k<f.kids.length
   ·obtain ⟨g,off,Ap',cp',Ak',ck',hA,hg,c0,c1,c2,c3,c4,hd,hkid⟩:=FltsV.kid2 (FltsV.keep hk hb) hlt
    subst hA
    have hltI:(k:Int)<(f.kids.length:Int):=by omega
    have hmem:=List.getElem_mem hlt
    have HT:=Lib.hid (nodeErrs_step hlt)
    clear hbX b4
    go_upto_region 12 with fail
    with_reducible refine gen1 (R:=fun W=>Code.wp Tryz.prog _ _ _ W) ?_
    intro W5 hbW5 hsz5 hc5 _
    have k0:W5.cell? ⟨wr.heap.size,0,none⟩=some (.int .i64 f.kids[k].kind):=hc5 0 _ rfl
    have k1:W5.cell? ⟨wr.heap.size,1,none⟩=some (.string (B f.kids[k].name)):=hc5 1 _ rfl
    have k2:W5.cell? ⟨wr.heap.size,2,none⟩=some (.string (B f.kids[k].value)):=hc5 2 _ rfl
    have k3:W5.cell? ⟨wr.heap.size,3,none⟩=some (.slice Ap' f.kids[k].parts.length cp'):=hc5 3 _ rfl
    have k4:W5.cell? ⟨wr.heap.size,4,none⟩=some (.slice Ak' f.kids[k].kids.length ck'):=hc5 4 _ rfl
    have hcall:=ih (d-1) (by omega) _ f.kids[k] W5 (FltV.on (FltV.mono hkid hb.size) hbW5) (hks.mem hmem)
    have hb5:=hb.trans (hbW5.mono hb.size)
    clear hc5 hsz5 hkid c0 c1 c2 c3 c4 hbW5 ih hk
    generalize nodeErr f.kids[k]=q at *
    by_cases hq:q=0
    ·have hI:(q !=0)=false:=by simpa using hq
     have HV:Hid (ne=nodeErrs (f.kids.drop (k+1))):=by show _=_;rw[hinv.out,HT.out,hI];rfl
     clear hinv HT hq
     go_wp2_with fail
     refine hcall.mono ?_
     rintro e w6 ⟨rfl,hb6⟩
     clear hcall k0 k1 k2 k3 k4
     go_wp2_with fail
     go_roundw
     case rel=>exact ⟨k+1,by omega,by go_num,hb5.trans (hb6.mono hb5.size),HV⟩
     case measure=>simp[intOf];omega
    ·have hI:(q !=0)=true:=by simpa using hq
     have HV:Hid (ne=q):=by show _=_;rw[hinv.out,HT.out,hI];rfl
     clear hinv HT hq
     go_wp2_with fail
     refine hcall.mono ?_
     rintro e w6 ⟨rfl,hb6⟩
     clear hcall k0 k1 k2 k3 k4
     go_wp2_with fail
     go_ret
     exact ⟨ret_int HV.out.symm,hb5.trans (hb6.mono hb5.size)⟩
   ·have hltI:¬(k:Int)<(f.kids.length:Int):=by omega
    have HV:Hid (ne=0):=by show _=_;rw[hinv.out,List.drop_eq_nil_of_le (by omega)];rfl
    clear hinv hbX b4
    go_wp2_with fail
    go_ret
    exact ⟨ret_int HV.out.symm,hb⟩
 ·have HF:Hid (ne=8):=by show _=_;rw[HE.out,HO.out,HD.out];rfl
  clear HE HO HD ih hk
  go_enter Tryz.func153,Tryz.ntmps153
  go_upto_region 1 with fail
  with_reducible refine gen1 (R:=fun W=>Code.wp Tryz.prog _ _ _ W) ?_
  intro W hbW hszW hc _
  have b0:W.cell? ⟨w.heap.size,0,none⟩=some (.int .i64 kd):=hc 0 _ rfl
  have b1:W.cell? ⟨w.heap.size,1,none⟩=some (.string (B f.name)):=hc 1 _ rfl
  have b2:W.cell? ⟨w.heap.size,2,none⟩=some (.string (B f.value)):=hc 2 _ rfl
  have b3:W.cell? ⟨w.heap.size,3,none⟩=some (.slice Ap f.parts.length cp):=hc 3 _ rfl
  have b4:W.cell? ⟨w.heap.size,4,none⟩=some (.slice Ak f.kids.length ck):=hc 4 _ rfl
  clear hc hszW
  go_wp2_with fail
  refine (kF W hbW).mono ?_
  rintro e w1 ⟨rfl,hb1⟩
  replace b0:=cell_later hb1 b0
  replace b1:=cell_later hb1 b1
  replace b2:=cell_later hb1 b2
  replace b3:=cell_later hb1 b3
  replace b4:=cell_later hb1 b4
  have hbX:=hbW.trans (hb1.mono hbW.size)
  clear hb1 hbW kF
  go_wp2_with fail
  refine (kC w1).mono ?_
  rintro e wd ⟨rfl,rfl⟩
  clear kC
  go_wp2_with fail
  refine (kN w1).mono ?_
  rintro e wd ⟨rfl,rfl⟩
  clear kN
  go_wp2_with fail
  refine (kP _ hbX).mono ?_
  rintro e w3 ⟨rfl,hb3⟩
  replace b4:=cell_later hb3 b4
  replace hbX:=hbX.trans (hb3.mono hbX.size)
  clear kP hb3 b3
  go_wp2_with fail
  go_ret
  exact ⟨ret_int HF.out.symm,hbX⟩
theorem fCheck_any (d : Nat) (v : Value) (f : Flt) (w : World) (hv : FltV w w.heap.size d v f) (hs : FSm 1000 f) :
    Calls Tryz.prog 81 #[v] w fun e w'=>e=.returned (.int .i64 (fCheck f))∧Below w.heap.size w w':=by
 obtain ⟨Ap,cp,Ak,ck,rfl,hp,hk⟩:=hv.shape
 have k1:=fun W (hW:Below w.heap.size w W)=>nodes_any d _ f W (hv.on hW) hs
 have k2:=fun W (hW:Below w.heap.size w W)=>deep_any d _ f 8 W (hv.on hW) hs (by decide)
 have k3:=fun W (hW:Below w.heap.size w W)=>fcheck_any d _ f W (hv.on hW) hs
 have HC:Hid (fCheck f=if 64<fSize f∨8<fDep f then 3 else nodeErr f):=rfl
 obtain ⟨q,hq⟩:∃q:Nat,q=min (fSize f) 65:=⟨_,rfl⟩
 rw[←hq]at k1
 by_cases h64:64<fSize f
 ·have hI:(64:Int)<(q:Int):=by omega
  have HF:Hid (fCheck f=3):=by show _=_;rw[HC.out,if_pos (.inl h64)]
  clear k2 k3 hq h64 hp hk hv
  go_enter Tryz.func81,Tryz.ntmps81
  go_upto_region 1 with fail
  with_reducible refine gen1 (R:=fun W=>Code.wp Tryz.prog _ _ _ W) ?_
  intro W hbW hszW hc1 _
  have b0:W.cell? ⟨w.heap.size,0,none⟩=some (.int .i64 f.kind):=hc1 0 _ rfl
  have b1:W.cell? ⟨w.heap.size,1,none⟩=some (.string (B f.name)):=hc1 1 _ rfl
  have b2:W.cell? ⟨w.heap.size,2,none⟩=some (.string (B f.value)):=hc1 2 _ rfl
  have b3:W.cell? ⟨w.heap.size,3,none⟩=some (.slice Ap f.parts.length cp):=hc1 3 _ rfl
  have b4:W.cell? ⟨w.heap.size,4,none⟩=some (.slice Ak f.kids.length ck):=hc1 4 _ rfl
  clear hc1 hszW
  go_wp2_with fail
  refine (k1 W hbW).mono ?_
  rintro e w1 ⟨rfl,hb1⟩
  go_wp2_with fail
  go_ret
  exact ⟨ret_int HF.out.symm,hbW.trans (hb1.mono hbW.size)⟩
 have hI:¬(64:Int)<(q:Int):=by omega
 have HF:Hid (fCheck f=if 8<fDep f then 3 else nodeErr f):=by
  show _=_;rw[HC.out]
  by_cases h8:8<fDep f
  ·rw[if_pos (.inr h8),if_pos h8]
  ·rw[if_neg (by omega),if_neg h8]
 clear hq h64 hp hk hv HC
 by_cases h8:8<fDep f
 all_goals
  first
   |(rw[if_pos h8]at HF;rw[decide_eq_true h8]at k2)
   |(rw[if_neg h8]at HF;rw[decide_eq_false h8]at k2)
  clear h8
  go_enter Tryz.func81,Tryz.ntmps81
  go_upto_region 1 with fail
  with_reducible refine gen1 (R:=fun W=>Code.wp Tryz.prog _ _ _ W) ?_
  intro W hbW hszW hc1 _
  have b0:W.cell? ⟨w.heap.size,0,none⟩=some (.int .i64 f.kind):=hc1 0 _ rfl
  have b1:W.cell? ⟨w.heap.size,1,none⟩=some (.string (B f.name)):=hc1 1 _ rfl
  have b2:W.cell? ⟨w.heap.size,2,none⟩=some (.string (B f.value)):=hc1 2 _ rfl
  have b3:W.cell? ⟨w.heap.size,3,none⟩=some (.slice Ap f.parts.length cp):=hc1 3 _ rfl
  have b4:W.cell? ⟨w.heap.size,4,none⟩=some (.slice Ak f.kids.length ck):=hc1 4 _ rfl
  clear hc1 hszW
  go_wp2_with fail
  refine (k1 W hbW).mono ?_
  rintro e w1 ⟨rfl,hb1⟩
  replace b0:=cell_later hb1 b0
  replace b1:=cell_later hb1 b1
  replace b2:=cell_later hb1 b2
  replace b3:=cell_later hb1 b3
  replace b4:=cell_later hb1 b4
  have hbw1:=hbW.trans (hb1.mono hbW.size)
  clear k1 hb1 hbW
  go_wp2_with fail
  refine (k2 w1 hbw1).mono ?_
  rintro e w2 ⟨rfl,hb2⟩
  replace b0:=cell_later hb2 b0
  replace b1:=cell_later hb2 b1
  replace b2:=cell_later hb2 b2
  replace b3:=cell_later hb2 b3
  replace b4:=cell_later hb2 b4
  have hbw2:=hbw1.trans (hb2.mono hbw1.size)
  clear k2 hb2 hbw1
  go_wp2_with fail
  first
   | (go_ret
      exact ⟨ret_int HF.out.symm,hbw2⟩)
   | (refine (k3 w2 hbw2).mono ?_
      rintro e w3 ⟨rfl,hb3⟩
      go_wp2_with fail
      go_ret
      exact ⟨ret_int HF.out.symm,hbw2.trans (hb3.mono hbw2.size)⟩)
end Go.Proofs.YtbkkchhimhlhcaaGreatDoor
/- Filters of a call's own: what reads in every world that agrees outside a set of blocks. -/
namespace Go.Proofs.YtbkkchhimhlhcaaGreatDoor
open Go.RowKit Go.Sort
open Idn (L B Bs drop_L take_L size_L)
structure Agr (X:Nat→Prop) (w W:World):Prop where
 size:w.heap.size≤W.heap.size
 block:∀k,k<w.heap.size→¬X k→W.heap[k]?=w.heap[k]?
section
variable {w W V:World} {X Y:Nat→Prop}
theorem Agr.refl (X:Nat→Prop) (w:World):Agr X w w:=⟨Nat.le_refl _,fun _ _ _=>rfl⟩
theorem Agr.trans (h:Agr X w W) (k:Agr X W V):Agr X w V:=⟨Nat.le_trans h.size k.size,fun i hi hx=>(k.block i (Nat.lt_of_lt_of_le hi h.size) hx).trans (h.block i hi hx)⟩
theorem Agr.sub (h:Agr X w W) (hs:∀k,k<w.heap.size→X k→Y k):Agr Y w W:=⟨h.size,fun k hk hy=>h.block k hk fun hx=>hy (hs k hk hx)⟩
theorem Agr.below {lo:Nat} (h:Below lo w W) (hX:∀k,k<w.heap.size→lo≤k→X k) (hl:lo≤w.heap.size):Agr X w W:=
 ⟨h.size,fun k hk hx=>h.block k (by
  apply Classical.byContradiction
  intro hn
  exact hx (hX k hk (by omega)))⟩
theorem Agr.later (h:Below w.heap.size w W):Agr X w W:=⟨h.size,fun k hk _=>h.block k hk⟩
theorem Agr.but {p:Nat} (h:But p w W) (hp:X p):Agr X w W:=⟨h.size,fun k hk hx=>h.block k hk fun e=>hx (e▸hp)⟩
theorem Agr.grown {row:Option Nat} (h:w.grownBy W row) (hr:∀k,row=some k→X k):Agr X w W:=⟨h.size,fun k hk hx=>h.block k hk fun e=>hx (hr k e.symm)⟩
theorem SlV.keepH {α:Type} {E E':α→List Value→Prop} {hi size:Nat} {v:Value} {l:List α} (h:SlV E w hi size v l) (hb:∀k,k<hi→W.heap[k]?=w.heap[k]?) (hE:∀x cs,x∈l→E x cs→E' x cs):SlV E' W hi size v l:=by
 obtain ⟨A,c,hv,hc,h⟩:=h
 refine ⟨A,c,hv,hc,fun hp=>?_⟩
 obtain ⟨b,off,hA,hbb,hx⟩:=h hp
 refine ⟨b,off,hA,hbb,fun i x hix=>?_⟩
 obtain ⟨cs,h1,h2,h3⟩:=hx i x hix
 exact ⟨cs,h1,hE x cs (List.mem_of_getElem? hix) h2,fun j u hu=>(World.cell?_of_block (w:=w) (a:=⟨b,_,none⟩) (hb b hbb)).trans (h3 j u hu)⟩
theorem FltC.keepH {hi:Nat} (hb:∀k,k<hi→W.heap[k]?=w.heap[k]?):∀{d:Nat} {f:Flt} {cs:List Value},FltC w hi d f cs→FltC W hi d f cs
 |0,_,_,h=>h
 |d+1,_,_,h=>by
  obtain ⟨pv,kv,h1,h2,h3⟩:=h
  exact ⟨pv,kv,h1,SlV.keepH h2 hb fun _ _ _ h=>h,SlV.keepH h3 hb fun _ _ _ he=>FltC.keepH hb he⟩
theorem FltV.keepH {hi d:Nat} {v:Value} {f:Flt} (h:FltV w hi d v f) (hb:∀k,k<hi→W.heap[k]?=w.heap[k]?):FltV W hi d v f:=by
 obtain ⟨pv,kv,h1,h2,h3⟩:=h
 exact ⟨pv,kv,h1,SlV.keepH h2 hb fun _ _ _ h=>h,SlV.keepH h3 hb fun _ _ _ he=>FltC.keepH hb he⟩
theorem FltV.deep {hi d d':Nat} {v:Value} {f:Flt} (hd:d≤d') (h:FltV w hi d v f):FltV w hi d' v f:=by
 obtain ⟨pv,kv,h1,h2,h3⟩:=h
 exact ⟨pv,kv,h1,h2,SlV.keepE h3 (Below.refl _ _) fun _ _ _ he=>FltC.deep hd he⟩
theorem own_agr {base:Nat} {e:TypeId} {size:Nat} {v:Value} {n:Nat} {xs:List Value} (h:w.ownsRow base e size v n xs) (ha:Agr X w W) (hX:∀k,v.ownBlock=some k→¬X k):W.ownsRow base e size v n xs:=by
 refine ⟨h.1,?_⟩
 rcases h.2 with hn|⟨g,cap,cur,rfl,hb',hgg,rest⟩
 ·exact .inl hn
 ·exact .inr ⟨g,cap,cur,rfl,hb',(ha.block g (Array.getElem?_eq_some_iff.1 hgg).1 (hX g rfl)).trans hgg,rest⟩
def StrsN (X:Nat→Prop) (w:World) (v:Value) (l:List Bs):Prop:=∀W,Agr X w W→StrsV W W.heap.size v l
def FltsN (X:Nat→Prop) (w:World) (d:Nat) (v:Value) (l:List Flt):Prop:=∀W,Agr X w W→FltsV W W.heap.size d v l
def FltN (X:Nat→Prop) (w:World) (d:Nat) (v:Value) (f:Flt):Prop:=∀W,Agr X w W→FltV W W.heap.size d v f
def FCN (X:Nat→Prop) (w:World) (d:Nat) (f:Flt) (cs:List Value):Prop:=∀W,Agr X w W→FltC W W.heap.size d f cs
theorem StrsN.on {v:Value} {l:List Bs} (h:StrsN X w v l) (ha:Agr X w W):StrsN X W v l:=fun V hV=>h V (ha.trans hV)
theorem FltsN.on {d:Nat} {v:Value} {l:List Flt} (h:FltsN X w d v l) (ha:Agr X w W):FltsN X W d v l:=fun V hV=>h V (ha.trans hV)
theorem FltN.on {d:Nat} {v:Value} {f:Flt} (h:FltN X w d v f) (ha:Agr X w W):FltN X W d v f:=fun V hV=>h V (ha.trans hV)
theorem StrsN.sub {v:Value} {l:List Bs} (h:StrsN X w v l) (hs:∀k,k<w.heap.size→Y k→X k):StrsN Y w v l:=fun V hV=>h V (hV.sub hs)
theorem FltsN.sub {d:Nat} {v:Value} {l:List Flt} (h:FltsN X w d v l) (hs:∀k,k<w.heap.size→Y k→X k):FltsN Y w d v l:=fun V hV=>h V (hV.sub hs)
theorem FltN.sub {d:Nat} {v:Value} {f:Flt} (h:FltN X w d v f) (hs:∀k,k<w.heap.size→Y k→X k):FltN Y w d v f:=fun V hV=>h V (hV.sub hs)
theorem FltN.now {d:Nat} {v:Value} {f:Flt} (h:FltN X w d v f):FltV w w.heap.size d v f:=h w (Agr.refl _ _)
theorem FltN.deep {d d':Nat} {v:Value} {f:Flt} (h:FltN X w d v f) (hd:d≤d'):FltN X w d' v f:=fun W hW=>FltV.deep hd (h W hW)
theorem FltN.shape {d:Nat} {v:Value} {f:Flt} (h:FltN X w d v f):∃Ap cp Ak ck,v=.agg #[.int .i64 f.kind,.string (B f.name),.string (B f.value),.slice Ap f.parts.length cp,.slice Ak f.kids.length ck]:=by
 obtain ⟨Ap,cp,Ak,ck,h,_,_⟩:=h.now.shape
 exact ⟨Ap,cp,Ak,ck,h⟩
theorem FltN.old {hi d:Nat} {v:Value} {f:Flt} (h:FltV w hi d v f) (hX:∀k,X k→hi≤k) (hhi:hi≤w.heap.size):FltN X w d v f:=fun W hW=>
 FltV.mono (FltV.keepH h fun k hk=>hW.block k (by omega) fun hx=>by have:=hX k hx;omega) (by have:=hW.size;omega)
theorem StrsN.own {base:Nat} {v:Value} {l:List Bs} (h:w.ownsRow base 9 1 v l.length (l.map sv)) (hX:∀k,k<w.heap.size→X k→k<base):StrsN X w v l:=fun W hW=>
 StrsV.of_own (own_agr h hW fun k hk hx=>by
  obtain ⟨h1,h2⟩:=h.lt k hk
  have:=hX k h2 hx;omega)
theorem StrsN.nil (X:Nat→Prop) (w:World):StrsN X w (.slice none 0 0) []:=fun _ _=>SlV.nil _ _ _ _
theorem FltsN.nil (X:Nat→Prop) (w:World) (d:Nat):FltsN X w d (.slice none 0 0) []:=fun _ _=>SlV.nil _ _ _ _
theorem FltN.mk {d:Nat} {f:Flt} {pv kv:Value} (hp:StrsN X w pv f.parts) (hk:FltsN X w d kv f.kids):FltN X w d (.agg #[.int .i64 f.kind,.string (B f.name),.string (B f.value),pv,kv]) f:=
 fun W hW=>⟨pv,kv,rfl,hp W hW,hk W hW⟩
theorem FCN.of {d:Nat} {f:Flt} {Ap Ak:Option Addr} {np cp nk ck:Nat} {k:Int} {n v:ByteArray} (h:FltN X w d (.agg #[.int .i64 k,.string n,.string v,.slice Ap np cp,.slice Ak nk ck]) f):FCN X w (d+1) f [.int .i64 k,.string n,.string v,.slice Ap np cp,.slice Ak nk ck]:=fun W hW=>by
 obtain ⟨pv,kv,e,hp,hk⟩:=h W hW
 simp at e
 obtain ⟨rfl,rfl,rfl,rfl,rfl⟩:=e
 exact ⟨_,_,rfl,hp,hk⟩
theorem flat_at:∀(xs:List (List Value)) (i:Nat) (cs:List Value),(∀c∈xs,c.length=5)→xs[i]?=some cs→∀(j:Nat) (u:Value),cs[j]?=some u→xs.flatten[i*5+j]?=some u
 |[],_,_,_,h,_,_,_=>by simp at h
 |x :: xs,0,cs,_,h,j,u,hj=>by
  simp at h
  subst h
  rw[List.flatten_cons,Nat.zero_mul,Nat.zero_add,List.getElem?_append_left (List.getElem?_eq_some_iff.1 hj).1];exact hj
 |x :: xs,i+1,cs,h5,h,j,u,hj=>by
  have ih:=flat_at xs i cs (fun c hc=>h5 c (List.mem_cons_of_mem _ hc)) (by simpa using h) j u hj
  have hx:=h5 x List.mem_cons_self
  rw[List.flatten_cons,List.getElem?_append_right (by omega),hx,show (i+1)*5+j-5=i*5+j by omega];exact ih
def RowF (X:Nat→Prop) (w:World) (base d:Nat) (v:Value) (l:List Flt):Prop:=
 ∃xs:List (List Value),xs.length=l.length∧(∀c∈xs,c.length=5)∧w.ownsRow base 31 5 v l.length xs.flatten∧(∀k,v.ownBlock=some k→¬X k)∧∀(i:Nat) f cs,l[i]?=some f→xs[i]?=some cs→FCN (fun k=>X k∨v.ownBlock=some k) w d f cs
theorem RowF.nil (X:Nat→Prop) (w:World) (base d:Nat):RowF X w base d (.slice none 0 0) []:=⟨[],rfl,by simp,World.ownsRow_nil _ _ _ _,by simp[Value.ownBlock],by simp⟩
theorem RowF.shape {base d:Nat} {v:Value} {l:List Flt} (h:RowF X w base d v l):∃A c,v=.slice A l.length c:=by
 obtain ⟨xs,_,_,h3,_⟩:=h
 exact own_shape h3
theorem RowF.on {base d:Nat} {v:Value} {l:List Flt} (h:RowF X w base d v l) (ha:Agr X w W):RowF X W base d v l:=by
 obtain ⟨xs,h1,h2,h3,h4,h5⟩:=h
 exact ⟨xs,h1,h2,own_agr h3 ha h4,h4,fun i f cs hi hx V hV=>h5 i f cs hi hx V ((ha.sub fun _ _ hx=>.inl hx).trans hV)⟩
theorem RowF.lt {base d:Nat} {v:Value} {l:List Flt} (h:RowF X w base d v l):∀k,v.ownBlock=some k→base≤k∧k<w.heap.size:=by
 obtain ⟨xs,_,_,h3,_⟩:=h
 exact h3.lt
theorem RowF.read {base d:Nat} {v:Value} {l:List Flt} (h:RowF X w base d v l):FltsN X w d v l:=fun W hW=>by
 obtain ⟨xs,h1,h2,h3,h4,h5⟩:=h
 refine SlV.own (own_agr h3 hW h4) fun i f hi=>?_
 have hil:=(List.getElem?_eq_some_iff.1 hi).1
 have hx:xs[i]?=some xs[i]:=List.getElem?_eq_getElem (by omega)
 exact ⟨xs[i],h2 _ (List.getElem_mem _),h5 i f _ hi hx W (hW.sub fun _ _ hx=>.inl hx),fun j u hj=>flat_at xs i _ h2 hx j u hj⟩
theorem RowF.push {base d n : Nat} {v v' : Value} {l : List Flt} {xs : List (List Value)} {f : Flt} {cs : List Value} (hln : l.length = n) (h1 : xs.length = l.length) (h2 : ∀ c ∈ xs, c.length = 5) (h4 : ∀ k, v.ownBlock = some k → ¬ X k)
  (h5:∀(i:Nat) f cs,l[i]?=some f→xs[i]?=some cs→FCN (fun k=>X k∨v.ownBlock=some k) w d f cs) (hcs:cs.length=5) (hn:FCN Y w d f cs) (hY:∀k,k<w.heap.size→X k∨v.ownBlock=some k→Y k) (hX:∀k,X k→k<w.heap.size)
  (hown:W.ownsRow base 31 5 v' (n+1) (xs.flatten++cs)) (hg:w.grownBy W v.ownBlock) (hat:v'.ownBlock=v.ownBlock∨v'.ownBlock=some (w.heap.size+1)):RowF X W base d v' (l++[f]):=by
 subst hln
 have hAgr:∀V,Agr (fun k=>X k∨v'.ownBlock=some k) W V→Agr (fun k=>X k∨v.ownBlock=some k) w V:=fun V hV=>
  ⟨Nat.le_trans hg.size hV.size,fun k hk hx=>(hV.block k (Nat.lt_of_lt_of_le hk hg.size) fun h=>by
   rcases h with h|h
   ·exact hx (.inl h)
   ·rcases hat with e|e
    ·exact hx (.inr (e▸h))
    ·rw[e]at h;injection h with h;omega).trans (hg.block k hk fun e=>hx (.inr e.symm))⟩
 refine ⟨xs++[cs],by simp[h1],fun c hc=>?_,by rw[List.length_append,List.flatten_append,List.flatten_singleton];exact hown,fun k hk hx=>?_,fun i g gs hi hx V hV=>?_⟩
 ·rcases List.mem_append.1 hc with hc|hc
  ·exact h2 c hc
  ·rw[List.mem_singleton]at hc;subst hc;exact hcs
 ·rcases hat with e|e
  ·exact h4 k (e▸hk) hx
  ·rw[e]at hk;injection hk with hk
   have:=hX k hx;omega
 ·by_cases hil:i<l.length
  ·rw[List.getElem?_append_left hil]at hi
   rw[List.getElem?_append_left (by omega)]at hx
   exact h5 i g gs hi hx V (hAgr V hV)
  ·rw[List.getElem?_append_right (by omega)]at hi
   rw[List.getElem?_append_right (by omega)]at hx
   have h0:=(List.getElem?_eq_some_iff.1 hi).1
   simp at h0
   have hi0:i=l.length:=by omega
   subst hi0
   rw[←h1]at hx
   simp at hi hx
   subst hi hx
   exact hn V ((hAgr V hV).sub hY)
end
structure Box5 (X:World) (p:Nat) (a b c d e:Value):Prop where
 c0:X.cell? ⟨p,0,none⟩=some a
 c1:X.cell? ⟨p,1,none⟩=some b
 c2:X.cell? ⟨p,2,none⟩=some c
 c3:X.cell? ⟨p,3,none⟩=some d
 c4:X.cell? ⟨p,4,none⟩=some e
 fz:∀i,X.frozen? ⟨p,i,none⟩=false
 lt:p<X.heap.size
section
variable {X Y:World} {p:Nat} {a b c d e u:Value}
theorem Box5.keep {lo:Nat} (h:Box5 X p a b c d e) (hb:Below lo X Y) (hp:p<lo):Box5 Y p a b c d e:=
 ⟨(hb.cell (p:=⟨p,0,none⟩) hp).trans h.c0,(hb.cell (p:=⟨p,1,none⟩) hp).trans h.c1,(hb.cell (p:=⟨p,2,none⟩) hp).trans h.c2,(hb.cell (p:=⟨p,3,none⟩) hp).trans h.c3,(hb.cell (p:=⟨p,4,none⟩) hp).trans h.c4,
  fun i=>(hb.frozen (p:=⟨p,i,none⟩) hp).trans (h.fz i),Nat.lt_of_lt_of_le h.lt hb.size⟩
theorem Box5.later (h:Box5 X p a b c d e) (hb:Below X.heap.size X Y):Box5 Y p a b c d e:=h.keep hb h.lt
theorem Box5.but {q:Nat} (h:Box5 X p a b c d e) (hb:But q X Y) (hne:p≠q):Box5 Y p a b c d e:=
 ⟨hb.cell h.c0 h.lt hne,hb.cell h.c1 h.lt hne,hb.cell h.c2 h.lt hne,hb.cell h.c3 h.lt hne,hb.cell h.c4 h.lt hne,fun i=>hb.frozen (h.fz i) h.lt hne,Nat.lt_of_lt_of_le h.lt hb.size⟩
end
end Go.Proofs.YtbkkchhimhlhcaaGreatDoor
/- filter: clone, simple, Simplify. -/
namespace Go.Proofs.YtbkkchhimhlhcaaGreatDoor
open Go.RowKit Go.Sort
open Idn (L B Bs drop_L take_L size_L)
theorem FltsN.one {X : Nat → Prop} {w : World} {D : Nat} {f : Flt} {a b c d e : Value} (h : FCN X w D f [a, b, c, d, e]) (hX : ∀ k, X k → k < w.heap.size) :
    FltsN X (w.alloc (.cells #[a,b,c,d,e] 31)) D (.slice (some ⟨w.heap.size,0,none⟩) 1 1) [f]:=fun W hW=>by
 have h0:=World.ownsRow_lit (base:=w.heap.size) (e:=31) (size:=5) w #[a,b,c,d,e] 1 (Nat.le_refl _) (by decide) rfl
 have h1:W.ownsRow w.heap.size 31 5 (.slice (some ⟨w.heap.size,0,none⟩) 1 1) [f].length [a,b,c,d,e]:=own_agr h0 hW (fun k hk hx=>by
  simp[Value.ownBlock]at hk
  have:=hX k hx;omega)
 refine SlV.own h1 fun i g hi=>?_
 match i,hi with
 |0,hi=>
  simp at hi
  subst hi
  refine ⟨[a,b,c,d,e],rfl,h W ((Agr.later ((Below.refl _ _).alloc (Nat.le_refl _) _)).trans hW),fun j u hj=>?_⟩
  rw[Nat.zero_mul,Nat.zero_add];exact hj
end Go.Proofs.YtbkkchhimhlhcaaGreatDoor
/- filter: Simplify, Equal; slices.EqualFunc at filters. -/
namespace Go.Proofs.YtbkkchhimhlhcaaGreatDoor
open Go.RowKit Go.Sort
open Idn (L B Bs drop_L take_L size_L)
theorem FSm.up {n m:Nat} {f:Flt} (h:FSm n f) (hm:n≤m):FSm m f:=⟨Nat.le_trans h.1 hm,h.2⟩
end Go.Proofs.YtbkkchhimhlhcaaGreatDoor
/- identityref09: Nodes, level, parts, printable, form, node, Check. -/
namespace Go.Proofs.YtbkkchhimhlhcaaGreatDoor
open Go.RowKit Go.Sort
open Idn (L B Bs drop_L take_L size_L)
theorem r9_count_any : ∀ (d : Nat) (v : Value) (f : Flt) (h : Nat) (w : World), FltV w w.heap.size d v f → FSm 1000 f → h ≤ 64 →
  Calls Tryz.prog 211 #[v,.int .i64 (h:Int)] w fun e w'=>e=.returned (.int .i64 ((min (h+fSize f) 65:Nat):Int))∧Below w.heap.size w w':=by
 intro d
 induction d using Nat.strongRecOn with
 |_ d ih=>
 intro v f h w hv hs hh
 obtain ⟨Ap,cp,Ak,ck,rfl,hp,hk⟩:=hv.shape
 have hks:=hs.kids
 have hkl:=hks.len
 have HZ:Hid (fSize f=fSizes f.kids+1):=by show _=_;cases f;rfl
 have hw1:IntKind.i64.wrap ((h:Int)+1)=((h+1:Nat):Int):=by rw[IntWalk.i64_in _ (by omega)];omega
 clear hp hv
 go_enter Tryz.func211,Tryz.ntmps211
 go_upto_region 1 with fail
 with_reducible refine gen1 (R:=fun W=>Code.wp Tryz.prog _ _ _ W) ?_
 intro W hbW hszW hc _
 have b0:W.cell? ⟨w.heap.size,0,none⟩=some (.int .i64 f.kind):=hc 0 _ rfl
 have b1:W.cell? ⟨w.heap.size,1,none⟩=some (.string (B f.name)):=hc 1 _ rfl
 have b2:W.cell? ⟨w.heap.size,2,none⟩=some (.string (B f.value)):=hc 2 _ rfl
 have b3:W.cell? ⟨w.heap.size,3,none⟩=some (.slice Ap f.parts.length cp):=hc 3 _ rfl
 have b4:W.cell? ⟨w.heap.size,4,none⟩=some (.slice Ak f.kids.length ck):=hc 4 _ rfl
 clear hc hszW
 clear b0 b1 b2 b3
 go_wp2_with fail
 go_loopw [5,6] (fun n i wr=>∃(k m:Nat),k≤f.kids.length∧m≤65∧n=.int .i64 (m:Int)∧i=.int .i64 (k:Int)∧Below W.heap.size W wr∧Hid (m=min (h+1+fSizes (f.kids.take k)) 65)) (fun _ i _=>f.kids.length-(intOf i).toNat)
 case atStart=>exact ⟨0,h+1,Nat.zero_le _,by omega,by simp,rfl,Below.refl _ _,by show _=_;simp[fSizes];omega⟩
 case round=>
  obtain ⟨k,m,hk9,hm9,rfl,rfl,hbr,hinv⟩:=hrel
  have hb:=hbW.trans (hbr.mono hbW.size)
  replace b4:=cell_later hbr b4
  by_cases hlt:k<f.kids.length
  ·obtain ⟨g,off,Ap',cp',Ak',ck',hA,hg,c0,c1,c2,c3,c4,hd,hkid⟩:=FltsV.kid2 (FltsV.keep hk hb) hlt
   subst hA
   have hltI:(k:Int)<(f.kids.length:Int):=by omega
   by_cases hm:m≤64
   ·have hmI:(m:Int)≤64:=by omega
    have hcall:=ih (d-1) (by omega) _ f.kids[k] m wr (FltV.mono hkid hb.size) (hks.mem (List.getElem_mem hlt)) hm
    have HT:=Lib.hid (fSizes_take hlt)
    obtain ⟨q,hq⟩:∃q:Nat,q=min (m+fSize f.kids[k]) 65:=⟨_,rfl⟩
    rw[←hq]at hcall
    have HQ:=Lib.hid hq
    have hq9:q≤65:=by omega
    clear ih hkid hk hm hq
    go_wp2_with fail
    refine hcall.mono ?_
    rintro e w6 ⟨rfl,hb6⟩
    have HV:Hid (q=min (h+1+fSizes (f.kids.take (k+1))) 65):=by
     have h1:=hinv.out
     have h2:=HT.out
     have h3:=HQ.out
     show _=_;omega
    clear hcall c0 c1 c2 c3 c4 hinv HT HQ
    go_wp2_with fail
    go_roundw
    case rel=>exact ⟨k+1,q,by omega,hq9,rfl,by go_num,hbr.trans (hb6.mono hbr.size),HV⟩
    case measure=>simp[intOf];omega
   ·have hmI:¬(m:Int)≤64:=by omega
    have HF:Hid (m=min (h+fSize f) 65):=by
     have h1:=hinv.out
     have h2:=HZ.out
     have h3:=fSizes_part f.kids k
     show _=_;omega
    clear hinv ih hk hkid
    go_wp2_with fail
    go_ret
    exact ⟨ret_int (by rw[←HF.out]),hb⟩
  ·have hltI:¬(k:Int)<(f.kids.length:Int):=by omega
   have HF:Hid (m=min (h+fSize f) 65):=by
    have h1:=hinv.out
    have h2:=HZ.out
    rw[List.take_of_length_le (by omega)]at h1
    show _=_;omega
   clear hinv ih hk
   go_wp2_with fail
   go_ret
   exact ⟨ret_int (by rw[←HF.out]),hb⟩
theorem r9_Nodes_any (d : Nat) (v : Value) (f : Flt) (w : World) (hv : FltV w w.heap.size d v f) (hs : FSm 1000 f) :
  Calls Tryz.prog 158 #[v] w fun e w'=>e=.returned (.int .i64 ((min (fSize f) 65:Nat):Int))∧Below w.heap.size w w':=by
 have kC:=fun W (hW:Below w.heap.size w W)=>show Calls Tryz.prog 211 #[v,.int .i64 0] W _ from r9_count_any d _ f 0 W (hv.on hW) hs (by decide)
 simp only[Nat.zero_add]at kC
 obtain ⟨Ap,cp,Ak,ck,rfl,hp,hk⟩:=hv.shape
 obtain ⟨q,hq⟩:∃q:Nat,q=min (fSize f) 65:=⟨_,rfl⟩
 rw[←hq]at kC⊢
 clear hp hk hv hq
 go_enter Tryz.func158,Tryz.ntmps158
 go_upto_region 1 with fail
 with_reducible refine gen1 (R:=fun W=>Code.wp Tryz.prog _ _ _ W) ?_
 intro W hbW hszW hc _
 have b0:W.cell? ⟨w.heap.size,0,none⟩=some (.int .i64 f.kind):=hc 0 _ rfl
 have b1:W.cell? ⟨w.heap.size,1,none⟩=some (.string (B f.name)):=hc 1 _ rfl
 have b2:W.cell? ⟨w.heap.size,2,none⟩=some (.string (B f.value)):=hc 2 _ rfl
 have b3:W.cell? ⟨w.heap.size,3,none⟩=some (.slice Ap f.parts.length cp):=hc 3 _ rfl
 have b4:W.cell? ⟨w.heap.size,4,none⟩=some (.slice Ak f.kids.length ck):=hc 4 _ rfl
 clear hc hszW
 go_wp2_with fail
 refine (kC W hbW).mono ?_
 rintro e w2 ⟨rfl,hb2⟩
 go_wp2_with fail
 go_ret
 exact ⟨rfl,hbW.trans (hb2.mono hbW.size)⟩
theorem fDeps_take {l:List Flt} {k:Nat} (h:k<l.length):fDeps (l.take (k+1))=max (fDeps (l.take k)) (fDep l[k]):=by
 have ha:∀a b:List Flt,fDeps (a++b)=max (fDeps a) (fDeps b):=fun a b=>by
  induction a with
  |nil=>simp[fDeps]
  |cons x a iha=>rw[List.cons_append,fDeps,fDeps,iha];omega
 rw[List.take_succ_eq_append_getElem h,ha,fDeps,fDeps];simp
theorem r9_level_any : ∀ (d : Nat) (v : Value) (f : Flt) (w : World), FltV w w.heap.size d v f → FSm 1000 f →
  Calls Tryz.prog 159 #[v] w fun e w'=>e=.returned (.int .i64 (fDep f:Int))∧Below w.heap.size w w':=by
 intro d
 induction d using Nat.strongRecOn with
 |_ d ih=>
 intro v f w hv hs
 obtain ⟨Ap,cp,Ak,ck,rfl,hp,hk⟩:=hv.shape
 have hks:=hs.kids
 have hkl:=hks.len
 have HZ:Hid (fDep f=fDeps f.kids+1):=by show _=_;cases f;rfl
 clear hp hv
 go_enter Tryz.func159,Tryz.ntmps159
 go_upto_region 1 with fail
 with_reducible refine gen1 (R:=fun W=>Code.wp Tryz.prog _ _ _ W) ?_
 intro W hbW hszW hc _
 have b0:W.cell? ⟨w.heap.size,0,none⟩=some (.int .i64 f.kind):=hc 0 _ rfl
 have b1:W.cell? ⟨w.heap.size,1,none⟩=some (.string (B f.name)):=hc 1 _ rfl
 have b2:W.cell? ⟨w.heap.size,2,none⟩=some (.string (B f.value)):=hc 2 _ rfl
 have b3:W.cell? ⟨w.heap.size,3,none⟩=some (.slice Ap f.parts.length cp):=hc 3 _ rfl
 have b4:W.cell? ⟨w.heap.size,4,none⟩=some (.slice Ak f.kids.length ck):=hc 4 _ rfl
 clear hc hszW
 clear b0 b1 b2 b3
 go_wp2_with fail
 go_loopw [3,4] (fun n i wr=>∃(k m:Nat),k≤f.kids.length∧m≤1000∧n=.int .i64 (m:Int)∧i=.int .i64 (k:Int)∧Below W.heap.size W wr∧Hid (m=fDeps (f.kids.take k))) (fun _ i _=>f.kids.length-(intOf i).toNat)
 case atStart=>exact ⟨0,0,Nat.zero_le _,by omega,rfl,rfl,Below.refl _ _,rfl⟩
 case round=>
  obtain ⟨k,m,hk9,hm9,rfl,rfl,hbr,hinv⟩:=hrel
  have hb:=hbW.trans (hbr.mono hbW.size)
  replace b4:=cell_later hbr b4
  by_cases hlt:k<f.kids.length
  ·obtain ⟨g,off,Ap',cp',Ak',ck',hA,hg,c0,c1,c2,c3,c4,hd,hkid⟩:=FltsV.kid2 (FltsV.keep hk hb) hlt
   subst hA
   have hltI:(k:Int)<(f.kids.length:Int):=by omega
   have hcall:=ih (d-1) (by omega) _ f.kids[k] wr (FltV.mono hkid hb.size) (hks.mem (List.getElem_mem hlt))
   have HT:=Lib.hid (fDeps_take hlt)
   have hq9:fDep f.kids[k]≤1000:=Nat.le_trans (fDep_size _) (hks.mem (List.getElem_mem hlt)).1
   generalize fDep f.kids[k]=q at *
   clear ih hkid hk
   by_cases hgt:m<q
   ·have hI:(m:Int)<(q:Int):=by omega
    have HV:Hid (q=fDeps (f.kids.take (k+1))):=by show _=_;rw[HT.out,←hinv.out];omega
    clear hinv HT hgt
    go_wp2_with fail
    refine hcall.mono ?_
    rintro e w6 ⟨rfl,hb6⟩
    clear hcall c0 c1 c2 c3 c4
    go_wp2_with fail
    go_roundw
    case rel=>exact ⟨k+1,q,by omega,hq9,rfl,by go_num,hbr.trans (hb6.mono hbr.size),HV⟩
    case measure=>simp[intOf];omega
   ·have hI:¬(m:Int)<(q:Int):=by omega
    have HV:Hid (m=fDeps (f.kids.take (k+1))):=by show _=_;rw[HT.out,←hinv.out];omega
    clear hinv HT hgt
    go_wp2_with fail
    refine hcall.mono ?_
    rintro e w6 ⟨rfl,hb6⟩
    clear hcall c0 c1 c2 c3 c4
    go_wp2_with fail
    go_roundw
    case rel=>exact ⟨k+1,m,by omega,hm9,rfl,by go_num,hbr.trans (hb6.mono hbr.size),HV⟩
    case measure=>simp[intOf];omega
  ·have hltI:¬(k:Int)<(f.kids.length:Int):=by omega
   have hw1:IntKind.i64.wrap ((m:Int)+1)=((m+1:Nat):Int):=by rw[IntWalk.i64_in _ (by omega)];omega
   have HF:Hid (fDep f=m+1):=by
    have h1:=hinv.out
    have h2:=HZ.out
    rw[List.take_of_length_le (by omega)]at h1
    show _=_;omega
   clear hinv ih hk
   go_wp2_with fail
   go_ret
   exact ⟨ret_int (by rw[HF.out];first|rfl|simp),hb⟩
theorem r9_comp_any (k:Int) (w:World):Calls Tryz.prog 213 #[.int .i64 k] w fun e w'=>e=.returned (.bool (isCmp k))∧w=w':=by
 have HP:Hid (isCmp k=(decide (4≤k)&&decide (k≤8))):=rfl
 by_cases h4:4≤k
 ·by_cases h8:k≤8
  ·have HF:Hid (isCmp k=true):=by show _=_;rw[HP.out,decide_eq_true h4,decide_eq_true h8];rfl
   go_enter Tryz.func213,Tryz.ntmps213
   go_wp2_with fail
   go_ret
   exact ⟨ret_bool HF.out.symm,rfl⟩
  ·have HF:Hid (isCmp k=false):=by show _=_;rw[HP.out,decide_eq_true h4,decide_eq_false h8];rfl
   go_enter Tryz.func213,Tryz.ntmps213
   go_wp2_with fail
   go_ret
   exact ⟨ret_bool HF.out.symm,rfl⟩
 ·have HF:Hid (isCmp k=false):=by show _=_;rw[HP.out,decide_eq_false h4];rfl
  go_enter Tryz.func213,Tryz.ntmps213
  go_wp2_with fail
  go_ret
  exact ⟨ret_bool HF.out.symm,rfl⟩
theorem mid_has {l:List Bs} (h2:2≤l.length):(l.drop 1).dropLast.contains []=true↔∃j,0<j∧j<l.length-1∧l[j]?=some []:=by
 rw[List.contains_iff_mem,List.mem_iff_getElem?]
 constructor
 ·rintro ⟨i,hi⟩
  have hil:=(List.getElem?_eq_some_iff.1 hi).1
  rw[List.length_dropLast,List.length_drop]at hil
  rw[List.getElem?_dropLast]at hi
  rw[if_pos (by rw[List.length_drop];omega),List.getElem?_drop]at hi
  exact ⟨1+i,by omega,by omega,hi⟩
 ·rintro ⟨j,h0,h1,hj⟩
  refine ⟨j-1,?_⟩
  rw[List.getElem?_dropLast,if_pos (by rw[List.length_drop];omega),List.getElem?_drop,show 1+(j-1)=j by omega]
  exact hj
theorem r9_parts_any (v : Value) (l : List Bs) (w : World) (hv : StrsV w w.heap.size v l) (hl : l.length ≤ 1000000000) :
  Calls Tryz.prog 268 #[v] w fun e w'=>e=.returned (.bool (partsF l))∧w=w':=by
 obtain ⟨A,c,rfl,hc⟩:=SlV.shape hv
 have HP:Hid (partsF l=(decide (2≤l.length)&&(decide (l.length≤16)&&(!((l.drop 1).dropLast.contains [])&&l.any fun s=>!s.isEmpty)))):=rfl
 by_cases h2:l.length<2
 ·have HF:Hid (partsF l=false):=by show _=_;rw[HP.out,decide_eq_false (by omega)];rfl
  have hI:(l.length:Int)<2:=by omega
  clear h2
  go_enter Tryz.func268,Tryz.ntmps268
  go_wp2_with fail
  go_ret
  exact ⟨ret_bool HF.out.symm,rfl⟩
 have hI:¬(l.length:Int)<2:=by omega
 by_cases h16:16<l.length
 ·have HF:Hid (partsF l=false):=by show _=_;rw[HP.out,decide_eq_false (p:=l.length≤16) (by omega)];simp
  have hJ:(16:Int)<(l.length:Int):=by omega
  clear h2 h16
  go_enter Tryz.func268,Tryz.ntmps268
  go_wp2_with fail
  go_ret
  exact ⟨ret_bool HF.out.symm,rfl⟩
 have hJ:¬(16:Int)<(l.length:Int):=by omega
 have HG:Hid (partsF l=(!((l.drop 1).dropLast.contains [])&&l.any fun s=>!s.isEmpty)):=by show _=_;rw[HP.out,decide_eq_true (p:=2≤l.length) (by omega),decide_eq_true (p:=l.length≤16) (by omega)];rfl
 have HM:=Lib.hid (mid_has (l:=l) (by omega))
 have hw1:IntKind.i64.wrap ((l.length:Int)-1)=((l.length-1:Nat):Int):=by rw[IntWalk.i64_in _ (by omega)];omega
 have h2':2≤l.length:=by omega
 clear HP h2 h16
 generalize partsF l=R at *
 go_enter Tryz.func268,Tryz.ntmps268
 go_wp2_with fail
 go_loop [3,4] (fun o i=>∃(k:Nat) (b:Bool),k≤l.length∧o=.bool b∧i=.int .i64 (k:Int)∧Hid (b=(l.take k).any fun s=>!s.isEmpty)∧Hid (∀j,0<j→j<l.length-1→j<k→l[j]?≠some [])) (fun _ i=>l.length-(intOf i).toNat)
 case atStart=>exact ⟨0,false,Nat.zero_le _,rfl,rfl,rfl,fun j _ _ h=>by omega⟩
 case round=>
  obtain ⟨k,b,hk,rfl,rfl,hinv,hno⟩:=hrel
  by_cases hlt:k<l.length
  ·obtain ⟨g,off,hA,hgl,c0⟩:=StrsV.cell hv hlt
   subst hA
   have hltI:(k:Int)<(l.length:Int):=by omega
   have hem:=empty_beq l[k]
   have hst:((l.take (k+1)).any fun s=>!s.isEmpty)=(b||!l[k].isEmpty):=by
    rw[List.take_succ_eq_append_getElem hlt,List.any_append,←hinv.out];simp
   have HS:=Lib.hid hst
   have hkk:l[k]?=some l[k]:=List.getElem?_eq_getElem hlt
   cases he:l[k].isEmpty
   ·have hne:l[k]≠[]:=fun e=>by rw[e]at he;cases he
    have HN:Hid (∀j,0<j→j<l.length-1→j<k+1→l[j]?≠some []):=fun j h0 h1 h2=>by
     by_cases hjk:j=k
     ·subst hjk;rw[hkk];exact fun e=>hne (by injection e)
     ·exact hno.out j h0 h1 (by omega)
    have HB:Hid ((l.take (k+1)).any (fun s=>!s.isEmpty)=true):=by show _=_;rw[HS.out,he];simp
    rw[he]at hem
    clear hinv hno hst HS he hne hkk
    cases b
    all_goals
     go_wp2_with fail
     go_round
     case rel=>exact ⟨k+1,true,by omega,rfl,by go_num,HB.out.symm,HN⟩
     case measure=>simp[intOf];omega
   ·have hnil:l[k]=[]:=List.isEmpty_iff.1 he
    by_cases hmid:0<k∧k<l.length-1
    ·have h0I:(0:Int)<(k:Int):=by omega
     have h1I:(k:Int)<((l.length-1:Nat):Int):=by omega
     have HF:Hid (R=false):=by
      show _=_
      rw[HG.out,HM.out.2 ⟨k,hmid.1,hmid.2,by rw[hkk,hnil]⟩];rfl
     rw[he]at hem
     clear hinv hno hst HS he hnil hkk HG HM hmid
     go_wp2_with fail
     go_ret
     exact ⟨ret_bool HF.out.symm,rfl⟩
    ·have HN : Hid (∀ j, 0 < j → j < l.length - 1 → j < k + 1 → l[j]? ≠ some []) := fun j h0 h1 h2 => by
      by_cases hjk:j=k
      ·subst hjk;exact absurd ⟨h0,h1⟩ hmid
      ·exact hno.out j h0 h1 (by omega)
     have HB:Hid (b=(l.take (k+1)).any (fun s=>!s.isEmpty)):=by show _=_;rw[HS.out,he];simp
     rw[he]at hem
     clear hinv hno hst HS he hnil hkk
     by_cases h0:0<k
     ·have h0I:(0:Int)<(k:Int):=by omega
      have h1I:¬(k:Int)<((l.length-1:Nat):Int):=by omega
      clear hmid h0
      cases b
      all_goals
       go_wp2_with fail
       go_round
       case rel=>exact ⟨k+1,_,by omega,rfl,by go_num,HB,HN⟩
       case measure=>simp[intOf];omega
     ·have h0I:¬(0:Int)<(k:Int):=by omega
      clear hmid h0
      cases b
      all_goals
       go_wp2_with fail
       go_round
       case rel=>exact ⟨k+1,_,by omega,rfl,by go_num,HB,HN⟩
       case measure=>simp[intOf];omega
  ·have hltI:¬(k:Int)<(l.length:Int):=by omega
   have HF:Hid (R=b):=by
    show _=_
    have h1:=hinv.out
    rw[List.take_of_length_le (by omega)]at h1
    have h3:(l.drop 1).dropLast.contains []=false:=by
     cases hx:(l.drop 1).dropLast.contains []
     ·rfl
     ·obtain ⟨j,h0,hj1,hj⟩:=HM.out.1 hx
      exact absurd hj (hno.out j h0 hj1 (by omega))
    rw[HG.out,h3,←h1];rfl
   clear hinv hno
   go_wp2_with fail
   go_ret
   exact ⟨ret_bool HF.out.symm,rfl⟩
theorem r9_print_any (s : ByteArray) (w : World) (hs : s.size ≤ 1000000000000) :
  Calls Tryz.prog 214 #[.string s] w fun e w'=>e=.returned (.bool (prtF (L s)))∧w=w':=by
 have HC:Hid (prtF (L s)=((L s).all Idn.printable&&decide (s.size≤256))):=rfl
 go_enter Tryz.func214,Tryz.ntmps214
 go_wp2
 go_loop [3] (fun i=>∃k:Nat,k≤s.size∧i=.int .i64 k∧Hid ((L s).all Idn.printable=((L s).drop k).all Idn.printable)) (fun i=>s.size-(intOf i).toNat)
 case atStart=>exact ⟨0,Nat.zero_le _,rfl,rfl⟩
 case round=>
  obtain ⟨k,hk,rfl,hinv⟩:=hrel
  by_cases hlt:k<s.size
  ·have hd:=drop_L s k hlt
   by_cases hp:Idn.printable s[k]=true
   ·have h1:(32:Int)≤(s[k].toNat:Int):=by simp[Idn.printable]at hp;omega
    have h2:(s[k].toNat:Int)≤126:=by simp[Idn.printable]at hp;omega
    have HF:Hid ((L s).all Idn.printable=((L s).drop (k+1)).all Idn.printable):=by show _=_;rw[hinv.out,hd];simp[hp]
    clear hd hp
    go_wp2
    go_round
    case rel=>exact ⟨k+1,by omega,by go_num,HF⟩
    case measure=>simp[intOf];omega
   ·have HF:Hid ((L s).all Idn.printable=false):=by show _=_;rw[hinv.out,hd];simp[hp]
    have hc:(s[k].toNat:Int)<32∨(¬(s[k].toNat:Int)<32∧126<(s[k].toNat:Int)):=by simp[Idn.printable]at hp;omega
    clear hd hp
    rcases hc with hc|⟨hc',hc⟩
    all_goals
     go_wp2
     go_ret
     exact ⟨ret_bool (by rw[HC.out,HF.out];rfl),rfl⟩
  ·have HF:Hid ((L s).all Idn.printable=true):=by show _=_;rw[hinv.out,drop_end s k hlt];rfl
   by_cases h256:s.size≤256
   ·have hI:(s.size:Int)≤256:=by omega
    have HG:Hid (decide (s.size≤256)=true):=decide_eq_true h256
    clear h256
    go_wp2
    go_ret
    exact ⟨ret_bool (by rw[HC.out,HF.out,HG.out];rfl),rfl⟩
   ·have hI:¬(s.size:Int)≤256:=by omega
    have HG:Hid (decide (s.size≤256)=false):=decide_eq_false h256
    clear h256
    go_wp2
    go_ret
    exact ⟨ret_bool (by rw[HC.out,HF.out,HG.out];rfl),rfl⟩
end Go.Proofs.YtbkkchhimhlhcaaGreatDoor
/- identityref09: form, node, Check. -/
namespace Go.Proofs.YtbkkchhimhlhcaaGreatDoor
open Go.RowKit Go.Sort
open Idn (L B Bs drop_L take_L size_L)
theorem r9_form_any (v : Value) (f : Flt) (d : Nat) (w : World) (hv : FltV w w.heap.size d v f) (hl : f.parts.length ≤ 1000000000) :
    Calls Tryz.prog 212 #[v] w fun e w'=>e=.returned (.bool (formF f.kind f.name f.value f.parts f.kids.length))∧Below w.heap.size w w':=by
 obtain ⟨Ap,cp,Ak,ck,rfl,hp,hk⟩:=hv.shape
 have hP:=fun W (hW:Below w.heap.size w W)=>r9_parts_any _ f.parts W (SlV.mono (SlV.keep hp hW) hW.size) hl
 rw[formF_B]
 have tn:=empty_beq f.name
 have tv:=empty_beq f.value
 have hep:f.parts.isEmpty=decide (f.parts.length=0):=by cases f.parts<;>simp
 generalize partsF f.parts=pp at *
 generalize f.name.isEmpty=en at *
 generalize f.value.isEmpty=ev at *
 generalize B f.name=bn at *
 generalize B f.value=bv at *
 rw[hep]
 generalize f.parts.length=np at *
 generalize f.kids.length=m at *
 generalize f.kind=k at *
 clear hp hk hep hv
 have hnp:np=0∨((np:Int)==0)=false∧np≠0:=by
  by_cases h:np=0
  ·exact .inl h
  ·exact .inr ⟨by rw[beq_eq_false_iff_ne];omega,h⟩
 go_enter Tryz.func212,Tryz.ntmps212
 go_upto_region 1 with fail
 with_reducible refine gen1 (R:=fun W=>Code.wp Tryz.prog _ _ _ W) ?_
 intro W hbW hszW hc _
 have b0:W.cell? ⟨w.heap.size,0,none⟩=some (.int .i64 k):=hc 0 _ rfl
 have b1:W.cell? ⟨w.heap.size,1,none⟩=some (.string bn):=hc 1 _ rfl
 have b2:W.cell? ⟨w.heap.size,2,none⟩=some (.string bv):=hc 2 _ rfl
 have b3:W.cell? ⟨w.heap.size,3,none⟩=some (.slice Ap np cp):=hc 3 _ rfl
 have b4:W.cell? ⟨w.heap.size,4,none⟩=some (.slice Ak m ck):=hc 4 _ rfl
 clear hc hszW
 rcases kinds k with rfl|rfl|rfl|rfl|rfl|rfl|rfl|rfl|hk9
 iterate 2
  ·rcases hnp with rfl|⟨p1,p2⟩<;>cases en<;>cases ev<;>(go_wp2_with fail;go_ret;exact ⟨ret_bool (by simp[formB, *]),hbW⟩)
 ·rcases hnp with rfl|⟨p1,p2⟩<;>rcases kids3 m with rfl|rfl|⟨m1,m2,m3,m4⟩<;>cases en<;>cases ev<;>(go_wp2_with fail;go_ret;exact ⟨ret_bool (by simp[formB, *]),hbW⟩)
 iterate 3
  ·rcases hnp with rfl|⟨p1,p2⟩<;>rcases kids3 m with rfl|rfl|⟨m1,m2,m3,m4⟩<;>(go_wp2_with fail;go_ret;exact ⟨ret_bool (by simp[formB, *]),hbW⟩)
 ·rcases hnp with rfl|⟨p1,p2⟩<;>rcases kids3 m with rfl|rfl|⟨m1,m2,m3,m4⟩<;>cases ev<;>(go_wp2_with fail;go_ret;exact ⟨ret_bool (by simp[formB, *]),hbW⟩)
 ·rcases kids3 m with rfl|rfl|⟨m1,m2,m3,m4⟩<;>cases ev
  all_goals
   first
    | (go_wp2_with fail
       go_ret
       exact ⟨ret_bool (by simp[formB, *]),hbW⟩)
    | (go_wp2_with fail
       refine (hP W hbW).mono ?_
       rintro e w2 ⟨rfl,rfl⟩
       go_wp2_with fail
       go_ret
       exact ⟨ret_bool (by simp[formB]),hbW⟩)
 ·have HF:Hid (∀a b c m p,formB k a b c m p=false):=formB_other hk9
  obtain ⟨e1,e2,e3,e4,e5,e6,e7,e8⟩:=hk9
  go_wp2_with fail
  go_ret
  exact ⟨ret_bool (by rw[HF.out]),hbW⟩
theorem all_drop {p:Bs→Bool} {l:List Bs} {k:Nat} (h:k<l.length):((l.drop k).any p)=(p l[k]||(l.drop (k+1)).any p):=by
 rw[List.drop_eq_getElem_cons h,List.any_cons]
theorem r9_node_any : ∀ (d : Nat) (v : Value) (f : Flt) (w : World), FltV w w.heap.size d v f → FSm 1000 f →
  Calls Tryz.prog 160 #[v] w fun e w'=>e=.returned (.int .i64 (nodeErr f))∧Below w.heap.size w w':=by
 intro d
 induction d using Nat.strongRecOn with
 |_ d ih=>
 intro v f w hv hs
 obtain ⟨Ap,cp,Ak,ck,rfl,hp,hk⟩:=hv.shape
 have hks:=hs.kids
 have hkl:=hks.len
 obtain ⟨o1,o2,o3,o4⟩:=fOk_own hs.2
 have kF:=fun W (hW:Below w.heap.size w W)=>r9_form_any _ f d W (hv.on hW) (by omega)
 have kC:=fun W=>r9_comp_any f.kind W
 have kN:=fun W=>r_name_any (B f.name) W (by rw[Idn.size_B];omega)
 have kL:=fun W=>r_clean_any (B f.value) W (by rw[Idn.size_B];omega)
 have kP:=fun (x:Bs) (hx:x∈f.parts) W=>r9_print_any (B x) W (by rw[Idn.size_B];have:=o4 x hx;omega)
 simp only[Idn.L_B]at kN kL kP
 have HE:Hid (nodeErr f=if ownErr f.kind f.name f.value f.parts f.kids.length !=0 then ownErr f.kind f.name f.value f.parts f.kids.length else nodeErrs f.kids):=nodeErr_unf f
 have HO:Hid (ownErr f.kind f.name f.value f.parts f.kids.length=if !formF f.kind f.name f.value f.parts f.kids.length then 4 else if isCmp f.kind then (if !Idn.name f.name then 5 else if (decide (f.kind≤6)&&!Idn.clean f.value)||f.parts.any fun s=>!prtF s then 8 else 0)else 0):=rfl
 have HR4:Hid ((f.parts.any fun s=>!prtF s)=(f.parts.drop 0).any fun s=>!prtF s):=rfl
 generalize ownErr f.kind f.name f.value f.parts f.kids.length=oe at *
 generalize formF f.kind f.name f.value f.parts f.kids.length=r1 at *
 generalize isCmp f.kind=r5 at *
 generalize Idn.name f.name=r2 at *
 generalize Idn.clean f.value=r3 at *
 generalize (f.parts.any fun s=>!prtF s)=r4 at *
 generalize nodeErr f=ne at *
 clear hv o1 o2 o4
 go_enter Tryz.func160,Tryz.ntmps160
 go_upto_region 1 with fail
 with_reducible refine gen1 (R:=fun W=>Code.wp Tryz.prog _ _ _ W) ?_
 intro W hbW hszW hc _
 have b0:W.cell? ⟨w.heap.size,0,none⟩=some (.int .i64 f.kind):=hc 0 _ rfl
 have b1:W.cell? ⟨w.heap.size,1,none⟩=some (.string (B f.name)):=hc 1 _ rfl
 have b2:W.cell? ⟨w.heap.size,2,none⟩=some (.string (B f.value)):=hc 2 _ rfl
 have b3:W.cell? ⟨w.heap.size,3,none⟩=some (.slice Ap f.parts.length cp):=hc 3 _ rfl
 have b4:W.cell? ⟨w.heap.size,4,none⟩=some (.slice Ak f.kids.length ck):=hc 4 _ rfl
 clear hc hszW
 go_wp2_with fail
 refine (kF W hbW).mono ?_
 rintro e w1 ⟨rfl,hb1⟩
 replace b0:=cell_later hb1 b0
 replace b1:=cell_later hb1 b1
 replace b2:=cell_later hb1 b2
 replace b3:=cell_later hb1 b3
 replace b4:=cell_later hb1 b4
 have hbX:=hbW.trans (hb1.mono hbW.size)
 clear hb1 hbW kF
 cases r1
 ·have HF:Hid (ne=4):=by show _=_;rw[HE.out,HO.out];rfl
  clear HE HO HR4 kC kN kL kP ih hk hp
  go_wp2_with fail
  go_ret
  exact ⟨ret_int HF.out.symm,hbX⟩
 cases r5
 ·have HF:Hid (ne=nodeErrs (f.kids.drop 0)):=by show _=_;rw[HE.out,HO.out];rfl
  clear HE HO HR4 kN kL kP hp
  go_wp2_with fail
  refine (kC w1).mono ?_
  rintro e wd ⟨rfl,rfl⟩
  clear kC
  clear b0 b1 b2 b3
  go_wp2_with fail
  go_loopw [4] (fun i wr=>∃k:Nat,k≤f.kids.length∧i=.int .i64 (k:Int)∧Below w1.heap.size w1 wr∧Hid (ne=nodeErrs (f.kids.drop k))) (fun i _=>f.kids.length-(intOf i).toNat)
  case atStart=>exact ⟨0,Nat.zero_le _,rfl,Below.refl _ _,HF⟩
  case round=>
   obtain ⟨k,hk9,rfl,hbr,hinv⟩:=hrel
   have hb:=hbX.trans (hbr.mono hbX.size)
   replace b4:=cell_later hbr b4
   by_cases hlt:k<f.kids.length
   ·obtain ⟨g,off,Ap',cp',Ak',ck',hA,hg,c0,c1,c2,c3,c4,hd,hkid⟩:=FltsV.kid2 (FltsV.keep hk hb) hlt
    subst hA
    have hltI:(k:Int)<(f.kids.length:Int):=by omega
    have HT:=Lib.hid (nodeErrs_step hlt)
    have hcall:=ih (d-1) (by omega) _ f.kids[k] wr (FltV.mono hkid hb.size) (hks.mem (List.getElem_mem hlt))
    clear hkid ih hk
    generalize nodeErr f.kids[k]=q at *
    by_cases hq:q=0
    ·have hI:(q !=0)=false:=by simpa using hq
     have HV:Hid (ne=nodeErrs (f.kids.drop (k+1))):=by show _=_;rw[hinv.out,HT.out,hI];rfl
     clear hinv HT hq
     go_wp2_with fail
     refine hcall.mono ?_
     rintro e w6 ⟨rfl,hb6⟩
     clear hcall c0 c1 c2 c3 c4
     go_wp2_with fail
     go_roundw
     case rel=>exact ⟨k+1,by omega,by go_num,hbr.trans (hb6.mono hbr.size),HV⟩
     case measure=>simp[intOf];omega
    ·have hI:(q !=0)=true:=by simpa using hq
     have HV:Hid (ne=q):=by show _=_;rw[hinv.out,HT.out,hI];rfl
     clear hinv HT hq
     go_wp2_with fail
     refine hcall.mono ?_
     rintro e w6 ⟨rfl,hb6⟩
     clear hcall c0 c1 c2 c3 c4
     go_wp2_with fail
     go_ret
     exact ⟨ret_int HV.out.symm,hb.trans (hb6.mono hb.size)⟩
   ·have hltI:¬(k:Int)<(f.kids.length:Int):=by omega
    have HV:Hid (ne=0):=by show _=_;rw[hinv.out,List.drop_eq_nil_of_le (by omega)];rfl
    clear hinv ih hk
    go_wp2_with fail
    go_ret
    exact ⟨ret_int HV.out.symm,hb⟩
 cases r2
 ·have HF:Hid (ne=5):=by show _=_;rw[HE.out,HO.out];rfl
  clear HE HO HR4 kL kP ih hk hp
  go_wp2_with fail
  refine (kC w1).mono ?_
  rintro e wd ⟨rfl,rfl⟩
  clear kC
  go_wp2_with fail
  refine (kN w1).mono ?_
  rintro e wd ⟨rfl,rfl⟩
  clear kN
  go_wp2_with fail
  go_ret
  exact ⟨ret_int HF.out.symm,hbX⟩
 by_cases h6:f.kind≤6
 ·have HD:=Lib.hid (decide_eq_true h6)
  cases r3
  ·have HF:Hid (ne=8):=by show _=_;rw[HE.out,HO.out,HD.out];rfl
   clear HE HO HD HR4 kP ih hk hp
   go_wp2_with fail
   refine (kC w1).mono ?_
   rintro e wd ⟨rfl,rfl⟩
   clear kC
   go_wp2_with fail
   refine (kN w1).mono ?_
   rintro e wd ⟨rfl,rfl⟩
   clear kN
   go_wp2_with fail
   refine (kL w1).mono ?_
   rintro e wd ⟨rfl,rfl⟩
   clear kL
   go_wp2_with fail
   go_ret
   exact ⟨ret_int HF.out.symm,hbX⟩
  have HE8:Hid (r4=true→ne=8):=fun h=>by rw[HE.out,HO.out,HD.out,h];rfl
  have HE0:Hid (r4=false→ne=nodeErrs f.kids):=fun h=>by rw[HE.out,HO.out,HD.out,h];rfl
  clear HE HO HD
  go_wp2_with fail
  refine (kC w1).mono ?_
  rintro e wd ⟨rfl,rfl⟩
  clear kC
  go_wp2_with fail
  refine (kN w1).mono ?_
  rintro e wd ⟨rfl,rfl⟩
  clear kN
  go_wp2_with fail
  refine (kL w1).mono ?_
  rintro e wd ⟨rfl,rfl⟩
  clear kL
  have hps:=SlV.keep hp hbX
  go_wp2_with fail
  go_loop [3] (fun i=>∃j:Nat,j≤f.parts.length∧i=.int .i64 (j:Int)∧Hid (r4=(f.parts.drop j).any fun s=>!prtF s)) (fun i=>f.parts.length-(intOf i).toNat)
  case atStart=>exact ⟨0,Nat.zero_le _,rfl,HR4.out⟩
  case round=>
   obtain ⟨j,hj9,rfl,hpi⟩:=hrel
   by_cases hjl:j<f.parts.length
   ·obtain ⟨g,off,hA,hgl,c0⟩:=StrsV.cell hps hjl
    subst hA
    have hjI:(j:Int)<(f.parts.length:Int):=by omega
    have hPr:=kP f.parts[j] (List.getElem_mem hjl) w1
    have hst:=all_drop (p:=fun s=>!prtF s) hjl
    have HS:=Lib.hid hst
    generalize prtF f.parts[j]=pj at *
    clear hst
    cases pj
    ·have HF:Hid (ne=8):=by show _=_;rw[HE8.out (by rw[hpi.out,HS.out];rfl)]
     clear hpi HS ih hk hps hp kP
     go_wp2_with fail
     refine hPr.mono ?_
     rintro e wd ⟨rfl,rfl⟩
     go_wp2_with fail
     go_ret
     exact ⟨ret_int HF.out.symm,hbX⟩
    ·have HV:Hid (r4=(f.parts.drop (j+1)).any fun s=>!prtF s):=by show _=_;rw[hpi.out,HS.out];rfl
     clear hpi HS
     go_wp2_with fail
     refine hPr.mono ?_
     rintro e wd ⟨rfl,rfl⟩
     clear hPr
     go_wp2_with fail
     go_round
     case rel=>exact ⟨j+1,by omega,by go_num,HV⟩
     case measure=>simp[intOf];omega
   ·have hjI:¬(j:Int)<(f.parts.length:Int):=by omega
    have HF:Hid (ne=nodeErrs (f.kids.drop 0)):=by
     show _=_
     rw[HE0.out (by rw[hpi.out,List.drop_eq_nil_of_le (by omega)];rfl)];rfl
    clear hpi hps hp kP HE0 HE8 HR4
    go_wp2_with fail
    clear b0 b1 b2 b3
    go_loopw [4] (fun i wr=>∃k:Nat,k≤f.kids.length∧i=.int .i64 (k:Int)∧Below w1.heap.size w1 wr∧Hid (ne=nodeErrs (f.kids.drop k))) (fun i _=>f.kids.length-(intOf i).toNat)
    case atStart=>exact ⟨0,Nat.zero_le _,rfl,Below.refl _ _,HF⟩
    case round=>
     obtain ⟨k,hk9,rfl,hbr,hinv⟩:=hrel
     have hb:=hbX.trans (hbr.mono hbX.size)
     replace b4:=cell_later hbr b4
     by_cases hlt:k<f.kids.length
     ·obtain ⟨g,off,Ap',cp',Ak',ck',hA,hg,c0,c1,c2,c3,c4,hd,hkid⟩:=FltsV.kid2 (FltsV.keep hk hb) hlt
      subst hA
      have hltI:(k:Int)<(f.kids.length:Int):=by omega
      have HT:=Lib.hid (nodeErrs_step hlt)
      have hcall:=ih (d-1) (by omega) _ f.kids[k] wr (FltV.mono hkid hb.size) (hks.mem (List.getElem_mem hlt))
      clear hkid ih hk
      generalize nodeErr f.kids[k]=q at *
      by_cases hq:q=0
      ·have hI:(q !=0)=false:=by simpa using hq
       have HV:Hid (ne=nodeErrs (f.kids.drop (k+1))):=by show _=_;rw[hinv.out,HT.out,hI];rfl
       clear hinv HT hq
       go_wp2_with fail
       refine hcall.mono ?_
       rintro e w6 ⟨rfl,hb6⟩
       clear hcall c0 c1 c2 c3 c4
       go_wp2_with fail
       go_roundw
       case rel=>exact ⟨k+1,by omega,by go_num,hbr.trans (hb6.mono hbr.size),HV⟩
       case measure=>simp[intOf];omega
      ·have hI:(q !=0)=true:=by simpa using hq
       have HV:Hid (ne=q):=by show _=_;rw[hinv.out,HT.out,hI];rfl
       clear hinv HT hq
       go_wp2_with fail
       refine hcall.mono ?_
       rintro e w6 ⟨rfl,hb6⟩
       clear hcall c0 c1 c2 c3 c4
       go_wp2_with fail
       go_ret
       exact ⟨ret_int HV.out.symm,hb.trans (hb6.mono hb.size)⟩
     ·have hltI:¬(k:Int)<(f.kids.length:Int):=by omega
      have HV:Hid (ne=0):=by show _=_;rw[hinv.out,List.drop_eq_nil_of_le (by omega)];rfl
      clear hinv ih hk
      go_wp2_with fail
      go_ret
      exact ⟨ret_int HV.out.symm,hb⟩
 have HD:=Lib.hid (decide_eq_false h6)
 have HE8:Hid (r4=true→ne=8):=fun h=>by rw[HE.out,HO.out,HD.out,h];rfl
 have HE0:Hid (r4=false→ne=nodeErrs f.kids):=fun h=>by rw[HE.out,HO.out,HD.out,h];rfl
 clear HE HO HD kL
 go_wp2_with fail
 refine (kC w1).mono ?_
 rintro e wd ⟨rfl,rfl⟩
 clear kC
 go_wp2_with fail
 refine (kN w1).mono ?_
 rintro e wd ⟨rfl,rfl⟩
 clear kN
 have hps:=SlV.keep hp hbX
 go_wp2_with fail
 go_loop [3] (fun i=>∃j:Nat,j≤f.parts.length∧i=.int .i64 (j:Int)∧Hid (r4=(f.parts.drop j).any fun s=>!prtF s)) (fun i=>f.parts.length-(intOf i).toNat)
 case atStart=>exact ⟨0,Nat.zero_le _,rfl,HR4.out⟩
 case round=>
  obtain ⟨j,hj9,rfl,hpi⟩:=hrel
  by_cases hjl:j<f.parts.length
  ·obtain ⟨g,off,hA,hgl,c0⟩:=StrsV.cell hps hjl
   subst hA
   have hjI:(j:Int)<(f.parts.length:Int):=by omega
   have hPr:=kP f.parts[j] (List.getElem_mem hjl) w1
   have hst:=all_drop (p:=fun s=>!prtF s) hjl
   have HS:=Lib.hid hst
   generalize prtF f.parts[j]=pj at *
   clear hst
   cases pj
   ·have HF:Hid (ne=8):=by show _=_;rw[HE8.out (by rw[hpi.out,HS.out];rfl)]
    clear hpi HS ih hk hps hp kP
    go_wp2_with fail
    refine hPr.mono ?_
    rintro e wd ⟨rfl,rfl⟩
    go_wp2_with fail
    go_ret
    exact ⟨ret_int HF.out.symm,hbX⟩
   ·have HV:Hid (r4=(f.parts.drop (j+1)).any fun s=>!prtF s):=by show _=_;rw[hpi.out,HS.out];rfl
    clear hpi HS
    go_wp2_with fail
    refine hPr.mono ?_
    rintro e wd ⟨rfl,rfl⟩
    clear hPr
    go_wp2_with fail
    go_round
    case rel=>exact ⟨j+1,by omega,by go_num,HV⟩
    case measure=>simp[intOf];omega
  ·have hjI:¬(j:Int)<(f.parts.length:Int):=by omega
   have HF:Hid (ne=nodeErrs (f.kids.drop 0)):=by
    show _=_
    rw[HE0.out (by rw[hpi.out,List.drop_eq_nil_of_le (by omega)];rfl)];rfl
   clear hpi hps hp kP HE0 HE8 HR4
   go_wp2_with fail
   clear b0 b1 b2 b3
   go_loopw [4] (fun i wr=>∃k:Nat,k≤f.kids.length∧i=.int .i64 (k:Int)∧Below w1.heap.size w1 wr∧Hid (ne=nodeErrs (f.kids.drop k))) (fun i _=>f.kids.length-(intOf i).toNat)
   case atStart=>exact ⟨0,Nat.zero_le _,rfl,Below.refl _ _,HF⟩
   case round=>
    obtain ⟨k,hk9,rfl,hbr,hinv⟩:=hrel
    have hb:=hbX.trans (hbr.mono hbX.size)
    replace b4:=cell_later hbr b4
    by_cases hlt:k<f.kids.length
    ·obtain ⟨g,off,Ap',cp',Ak',ck',hA,hg,c0,c1,c2,c3,c4,hd,hkid⟩:=FltsV.kid2 (FltsV.keep hk hb) hlt
     subst hA
     have hltI:(k:Int)<(f.kids.length:Int):=by omega
     have HT:=Lib.hid (nodeErrs_step hlt)
     have hcall:=ih (d-1) (by omega) _ f.kids[k] wr (FltV.mono hkid hb.size) (hks.mem (List.getElem_mem hlt))
     clear hkid ih hk
     generalize nodeErr f.kids[k]=q at *
     by_cases hq:q=0
     ·have hI:(q !=0)=false:=by simpa using hq
      have HV:Hid (ne=nodeErrs (f.kids.drop (k+1))):=by show _=_;rw[hinv.out,HT.out,hI];rfl
      clear hinv HT hq
      go_wp2_with fail
      refine hcall.mono ?_
      rintro e w6 ⟨rfl,hb6⟩
      clear hcall c0 c1 c2 c3 c4
      go_wp2_with fail
      go_roundw
      case rel=>exact ⟨k+1,by omega,by go_num,hbr.trans (hb6.mono hbr.size),HV⟩
      case measure=>simp[intOf];omega
     ·have hI:(q !=0)=true:=by simpa using hq
      have HV:Hid (ne=q):=by show _=_;rw[hinv.out,HT.out,hI];rfl
      clear hinv HT hq
      go_wp2_with fail
      refine hcall.mono ?_
      rintro e w6 ⟨rfl,hb6⟩
      clear hcall c0 c1 c2 c3 c4
      go_wp2_with fail
      go_ret
      exact ⟨ret_int HV.out.symm,hb.trans (hb6.mono hb.size)⟩
    ·have hltI:¬(k:Int)<(f.kids.length:Int):=by omega
     have HV:Hid (ne=0):=by show _=_;rw[hinv.out,List.drop_eq_nil_of_le (by omega)];rfl
     clear hinv ih hk
     go_wp2_with fail
     go_ret
     exact ⟨ret_int HV.out.symm,hb⟩
theorem r9_Check_any (d : Nat) (v : Value) (f : Flt) (w : World) (hv : FltV w w.heap.size d v f) (hs : FSm 1000 f) :
  Calls Tryz.prog 83 #[v] w fun e w'=>e=.returned (.int .i64 (fCheck f))∧Below w.heap.size w w':=by
 obtain ⟨Ap,cp,Ak,ck,rfl,hp,hk⟩:=hv.shape
 have k1:=fun W (hW:Below w.heap.size w W)=>r9_Nodes_any d _ f W (hv.on hW) hs
 have k2:=fun W (hW:Below w.heap.size w W)=>r9_level_any d _ f W (hv.on hW) hs
 have k3:=fun W (hW:Below w.heap.size w W)=>r9_node_any d _ f W (hv.on hW) hs
 have HC:Hid (fCheck f=if 64<fSize f∨8<fDep f then 3 else nodeErr f):=rfl
 obtain ⟨q,hq⟩:∃q:Nat,q=min (fSize f) 65:=⟨_,rfl⟩
 rw[←hq]at k1
 have h64:64<q↔64<fSize f:=by omega
 generalize fCheck f=R at *
 generalize fDep f=dp at *
 generalize nodeErr f=ne at *
 clear hp hk hv
 go_enter Tryz.func83,Tryz.ntmps83
 go_upto_region 1 with fail
 with_reducible refine gen1 (R:=fun W=>Code.wp Tryz.prog _ _ _ W) ?_
 intro W hbW hszW hc _
 have b0:W.cell? ⟨w.heap.size,0,none⟩=some (.int .i64 f.kind):=hc 0 _ rfl
 have b1:W.cell? ⟨w.heap.size,1,none⟩=some (.string (B f.name)):=hc 1 _ rfl
 have b2:W.cell? ⟨w.heap.size,2,none⟩=some (.string (B f.value)):=hc 2 _ rfl
 have b3:W.cell? ⟨w.heap.size,3,none⟩=some (.slice Ap f.parts.length cp):=hc 3 _ rfl
 have b4:W.cell? ⟨w.heap.size,4,none⟩=some (.slice Ak f.kids.length ck):=hc 4 _ rfl
 clear hc hszW
 go_wp2_with fail
 refine (k1 W hbW).mono ?_
 rintro e w1 ⟨rfl,hb1⟩
 replace b0:=cell_later hb1 b0
 replace b1:=cell_later hb1 b1
 replace b2:=cell_later hb1 b2
 replace b3:=cell_later hb1 b3
 replace b4:=cell_later hb1 b4
 have hbw1:=hbW.trans (hb1.mono hbW.size)
 clear k1 hb1 hbW
 by_cases hq6:64<q
 ·have hI:(64:Int)<(q:Int):=by omega
  have HF:Hid (R=3):=by show _=_;rw[HC.out,if_pos (.inl (h64.1 hq6))]
  clear HC hq h64 hq6 k2 k3
  go_wp2_with fail
  go_ret
  exact ⟨ret_int HF.out.symm,hbw1⟩
 have hI:¬(64:Int)<(q:Int):=by omega
 have HF0:Hid (R=if 8<dp then 3 else ne):=by
  show _=_;rw[HC.out]
  by_cases h8:8<dp
  ·rw[if_pos (.inr h8),if_pos h8]
  ·rw[if_neg (fun h=>h.elim (fun h=>hq6 (h64.2 h)) h8),if_neg h8]
 clear HC hq h64 hq6
 go_wp2_with fail
 refine (k2 w1 hbw1).mono ?_
 rintro e w2 ⟨rfl,hb2⟩
 replace b0:=cell_later hb2 b0
 replace b1:=cell_later hb2 b1
 replace b2:=cell_later hb2 b2
 replace b3:=cell_later hb2 b3
 replace b4:=cell_later hb2 b4
 have hbw2:=hbw1.trans (hb2.mono hbw1.size)
 clear k2 hb2 hbw1
 by_cases h8:8<dp
 ·have hJ:(8:Int)<(dp:Int):=by omega
  have HF:Hid (R=3):=by show _=_;rw[HF0.out,if_pos h8]
  clear HF0 h8 k3
  go_wp2_with fail
  go_ret
  exact ⟨ret_int HF.out.symm,hbw2⟩
 ·have hJ:¬(8:Int)<(dp:Int):=by omega
  have HF:Hid (R=ne):=by show _=_;rw[HF0.out,if_neg h8]
  clear HF0 h8
  go_wp2_with fail
  refine (k3 w2 hbw2).mono ?_
  rintro e w3 ⟨rfl,hb3⟩
  go_wp2_with fail
  go_ret
  exact ⟨ret_int HF.out.symm,hbw2.trans (hb3.mono hbw2.size)⟩
end Go.Proofs.YtbkkchhimhlhcaaGreatDoor
/- identityref09: Great. -/
namespace Go.Proofs.YtbkkchhimhlhcaaGreatDoor
open Go.RowKit Go.Sort
open Idn (L B Bs drop_L take_L size_L)
theorem r9_Great_any (d:Nat) (v:Value) (f:Flt) (m:Nat) (w:World) (hv:FltV w w.heap.size d v f) (hl:fLen f) (hm:m≤1000):Calls Tryz.prog 77 #[v,.int .i64 (m:Int)] w (RetN (FSm m f) w):=by
 have kG:=fun (p:Nat) W (hp:w.heap.size≤p) (hW:Below w.heap.size w W)=>r9_great_any d v f p m W (FltV.mono (FltV.keep hv hW) hp) hl
 obtain ⟨Ap,cp,Ak,ck,rfl,hp,hk⟩:=hv.shape
 clear hp hk hv
 go_enter Tryz.func77,Tryz.ntmps77
 go_upto_region 1 with fail
 with_reducible refine gen1 (R:=fun W=>Code.wp Tryz.prog _ _ _ W) ?_
 intro W hbW hszW hc _
 have b0:W.cell? ⟨w.heap.size,0,none⟩=some (.int .i64 f.kind):=hc 0 _ rfl
 have b1:W.cell? ⟨w.heap.size,1,none⟩=some (.string (B f.name)):=hc 1 _ rfl
 have b2:W.cell? ⟨w.heap.size,2,none⟩=some (.string (B f.value)):=hc 2 _ rfl
 have b3:W.cell? ⟨w.heap.size,3,none⟩=some (.slice Ap f.parts.length cp):=hc 3 _ rfl
 have b4:W.cell? ⟨w.heap.size,4,none⟩=some (.slice Ak f.kids.length ck):=hc 4 _ rfl
 clear hc hszW
 go_upto_region 2 with fail
 with_reducible refine gen1 (R:=fun W=>Code.wp Tryz.prog _ _ _ W) ?_
 intro W2 hbW2 hszW2 hc2 hf2
 have p0:W2.cell? ⟨W.heap.size,0,none⟩=some (.int .i64 (m:Int)):=hc2 0 _ rfl
 have hb:=hbW.trans (hbW2.mono hbW.size)
 have hG:=kG W.heap.size W2 hbW.size hb (by omega) p0 (hf2 0) hm
 replace b0:=cell_later hbW2 b0
 replace b1:=cell_later hbW2 b1
 replace b2:=cell_later hbW2 b2
 replace b3:=cell_later hbW2 b3
 replace b4:=cell_later hbW2 b4
 have hsw:=hbW.size
 have hsw2:=hb.size
 clear hc2 hf2 hszW2 hbW2 kG hbW
 go_wp2_with fail
 refine hG.mono ?_
 rintro e w3 ⟨r,m',rfl,_,_,hb3,hr⟩
 have hb':=hb.trans (hb3.below hsw hsw2)
 have HR:Hid (r=false→FSm m f):=fun h=>by
  obtain ⟨h1,h2,h3⟩:=hr h
  exact ⟨by omega,h3⟩
 clear hr hG b0 b1 b2 b3 b4 p0
 go_wp2_with fail
 go_ret
 exact ⟨r,rfl,fun h=>HR.out h,hb'⟩
end Go.Proofs.YtbkkchhimhlhcaaGreatDoor
