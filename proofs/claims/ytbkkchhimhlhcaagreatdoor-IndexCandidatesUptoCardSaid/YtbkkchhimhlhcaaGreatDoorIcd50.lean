/- Part 50 of the proof that identitylaw11.IndexCandidates returns true for every data that it may be called with: proof: the package variables hold what the program lays; nothing else is asked. -/
import Derived.Test.YtbkkchhimhlhcaaGreatDoorIcd49
set_option linter.unusedVariables false
set_option linter.unusedSimpArgs false
set_option maxRecDepth 100000
set_option maxHeartbeats 16000000
/- identityref11: found, Range, Find, present. -/
namespace Go.Proofs.YtbkkchhimhlhcaaGreatDoor
open Go.RowKit Go.Sort
open Idn (L B Bs drop_L take_L size_L)
section
variable {w w':World} {hs lo rx:Nat} {s:Idn.Sch} {idx:List Bs} {es:List IxE} {ta cb nv lv:Value} {qs:List (EntP×Value)}
theorem r11_found_any (h : RefV w hs lo rx s idx es ta cb nv lv qs) (hsm : SSm s) (n : ByteArray) (ea : Value) (A : List Idn.Att) (hA : AttsV w w.heap.size ea A) (hAg : AGet A) (a low hi : ByteArray) (ha : a.size ≤ 1000000000) (hlo : low.size ≤ 100000000) (hhi : hi.size ≤ 100000000) :
    Calls Tryz.prog 149 #[.pointer (some ⟨rx,0,none⟩),.agg #[.string n,ea],.string a,.string low,.string hi] w fun e w'=>e=.returned (.bool ((rGet A (L a)).any (refIn s (L a) (L low) (L hi))))∧Below w.heap.size w w':=by
 have hsc:=fun W (hW:Below w.heap.size w W)=>SchV.mono (SchV.keep (SchV.mono h.sch h.hsz) hW) hW.size
 have kG:=fun W (hW:Below w.heap.size w W)=>r6_Get_any ea A a W (AttsV.mono (AttsV.keep hA hW) hW.size) hAg.1 ha
 have kN:=fun (x:Bs) (hx:x.length≤100000000) W (hW:Below w.heap.size w W)=>r_Normal_any _ s a (B x) W (hsc W hW) hsm ha (by rw[Idn.size_B];omega)
 have kC1:=fun (x:Bs) (hx:x.length≤100000000) W (hW:Below w.heap.size w W)=>r_Compare_any _ s a low (B x) W (hsc W hW) hsm ha hlo (by rw[Idn.size_B];omega)
 have kC2:=fun (x:Bs) (hx:x.length≤100000000) W (hW:Below w.heap.size w W)=>r_Compare_any _ s a (B x) hi W (hsc W hW) hsm ha (by rw[Idn.size_B];omega) hhi
 simp only[Idn.L_B]at kN kC1 kC2
 have hvE:Hid (∀x∈rGet A (L a),x.length≤100000000):=(hAg.2 (L a)).2
 have hvL:Hid ((rGet A (L a)).length≤1000000000):=(hAg.2 (L a)).1
 have hbt:∀x,Hid (refIn s (L a) (L low) (L hi) x=(decide ((sNorm s (L a) x).2=0)&&(decide ((if (L low).isEmpty then 0 else (sComp s (L a) (L low) x).1)≤0)&&decide ((if (L hi).isEmpty then 0 else (sComp s (L a) x (L hi)).1)≤0)))):=fun _=>rfl
 have hlt1:low.toList.isEmpty=(L low).isEmpty:=by rw[toList_L]
 have hlt2:hi.toList.isEmpty=(L hi).isEmpty:=by rw[toList_L]
 generalize (L low).isEmpty=le at *
 generalize (L hi).isEmpty=he at *
 obtain ⟨R,hR⟩:∃R,R=(rGet A (L a)).any (refIn s (L a) (L low) (L hi)):=⟨_,rfl⟩
 rw[←hR]
 have HR:Hid (R=((rGet A (L a)).drop 0).any (refIn s (L a) (L low) (L hi))):=hR
 clear hR
 generalize refIn s (L a) (L low) (L hi)=bt at *
 have hvl9:=hvL.out
 generalize rGet A (L a)=vs at *
 have p0:=h.c0
 have p1:=h.c1
 obtain ⟨sa,sb,hsq,hT,hC⟩:=h.sch
 injection hsq with hsq
 simp at hsq
 obtain ⟨rfl,rfl⟩:=hsq
 obtain ⟨A1,c1,rfl,_⟩:=SlV.shape hT
 obtain ⟨A2,c2,rfl,_⟩:=SlV.shape hC
 obtain ⟨A4,c4,rfl,_⟩:=SlV.shape hA
 clear hT hC hA hsc h
 go_enter Tryz.func149,Tryz.ntmps149
 go_upto_region 1 with fail
 with_reducible refine gen1 (R:=fun W=>Code.wp Tryz.prog _ _ _ W) ?_
 intro W hbW _ hc _
 have e1:W.cell? ⟨w.heap.size,1,none⟩=some (.slice A4 A.length c4):=hc 1 _ rfl
 replace p0:=cell_later hbW p0
 replace p1:=cell_later hbW p1
 clear hc
 go_wp2_with fail
 refine (kG W hbW).mono ?_
 rintro e w1 ⟨A9,k9,c9,rfl,S9,hb1⟩
 have hk9:=SlV.len S9
 subst hk9
 replace p0:=cell_later hb1 p0
 replace p1:=cell_later hb1 p1
 have hbw1:=hbW.trans (hb1.mono hbW.size)
 clear kG hb1 hbW e1
 go_wp2_with fail
 go_loopw [12,13,14,15,16] (fun i _ _ _ _ wr=>∃k:Nat,k≤vs.length∧i=.int .i64 k∧Below w1.heap.size w1 wr∧Hid (R=(vs.drop k).any bt)) (fun i _ _ _ _ _=>vs.length-(intOf i).toNat)
 case atStart=>exact ⟨0,Nat.zero_le _,rfl,Below.refl _ _,HR⟩
 case round=>
  obtain ⟨k,hk,rfl,hb2,hinv⟩:=hrel
  have hbw2:=hbw1.trans (hb2.mono hbw1.size)
  clear HR
  by_cases hlt:k<vs.length
  ·have hltI:(k:Int)<(vs.length:Int):=by omega
   replace p0:=cell_later hb2 p0
   replace p1:=cell_later hb2 p1
   obtain ⟨b,off,hAd,_,d0⟩:=StrsV.cell (SlV.mono (SlV.keep S9 hb2) hb2.size) hlt
   subst hAd
   have hxl:=hvE.out _ (List.getElem_mem hlt)
   have hN:=kN vs[k] hxl
   have hC1:=kC1 vs[k] hxl
   have hC2:=kC2 vs[k] hxl
   have hbx:=hbt vs[k]
   have hst:Hid (R=(bt vs[k]||(vs.drop (k+1)).any bt)):=by
    show _=_
    rw[hinv.out,List.drop_eq_getElem_cons hlt,List.any_cons]
   generalize vs[k]=x at *
   generalize sNorm s (L a) x=nr at *
   generalize sComp s (L a) (L low) x=cl at *
   generalize sComp s (L a) x (L hi)=ch at *
   generalize bt x=p at *
   obtain ⟨n1,n2⟩:=nr
   obtain ⟨l1,l2⟩:=cl
   obtain ⟨h1,h2⟩:=ch
   dsimp only at hN hC1 hC2 hbx
   have q1:=cq (W:=wr) fun V hV=>hN V (hbw2.trans (hV.mono hbw2.size))
   have i0:=cell_regrown p0
   have i1:=cell_regrown p1
   have i2:=cell_regrown d0
   clear hN hinv hvE hvL hbt kN kC1 kC2
   go_wp2_with fail
   refine wp_region_quiet_below (by kernel_rfl) (by kernel_rfl) ?_
   repeat (first|go_big_quiet_step ((go_at_call 148;exact q1 _ _))|quiet_step ((go_at_call 148;exact q1 _ _)))
   refine wpQuiet_nil ?_
   intro _ hw'
   obtain ⟨⟨dq,osq⟩,hw''⟩:=hw'
   subst hw''
   have hb4:=below_regrown wr dq osq
   generalize grow (redrawn wr dq) osq=W4 at hb4⊢
   clear q1 i0 i1 i2
   replace p0:=cell_later hb4 p0
   replace p1:=cell_later hb4 p1
   replace d0:=cell_later hb4 d0
   have hb24:=Below.on hb2 hb4
   have hbw4:=hbw2.trans (hb4.mono hbw2.size)
   clear hb4 hb2 hbw2 S9
   by_cases hn2:n2=0
   case neg=>
    have hn2b:(n2 !=0)=true:=by simpa using hn2
    have HP:Hid (p=false):=by show _=_;rw[hbx.out,decide_eq_false hn2];rfl
    have HF:Hid (R=(vs.drop (k+1)).any bt):=by show _=_;rw[hst.out,HP.out];rfl
    clear hst HP hbx hC1 hC2
    go_wp2_with fail
    go_roundw
    case rel=>exact ⟨k+1,by omega,by go_num,hb24,HF⟩
    case measure=>simp[intOf];omega
   subst hn2
   cases le with
   |true=>
    have hbx1:Hid (p=decide ((if he then 0 else h1)≤0)):=by show _=_;rw[hbx.out];rfl
    clear hbx hC1
    cases he with
    |true=>
     have HF:Hid (R=true):=by show _=_;rw[hst.out,hbx1.out];rfl
     clear hst hbx1 hC2
     go_wp2_with fail
     go_ret
     exact ⟨ret_bool HF.out.symm,hbw1.trans (hb24.mono hbw1.size)⟩
    |false=>
     have q3:=cq (W:=W4) fun V hV=>hC2 V (hbw4.trans (hV.mono hbw4.size))
     have i0:=cell_regrown p0
     have i1:=cell_regrown p1
     have i2:=cell_regrown d0
     clear hC2 p0 p1 d0
     go_wp2_with fail
     refine wp_region_quiet_below (by kernel_rfl) (by kernel_rfl) ?_
     repeat (first|go_big_quiet_step ((go_at_call 203;exact q3 _ _))|quiet_step ((go_at_call 203;exact q3 _ _)))
     refine wpQuiet_nil ?_
     intro _ hw'
     obtain ⟨⟨dq,osq⟩,hw''⟩:=hw'
     subst hw''
     have hb6:=below_regrown W4 dq osq
     generalize grow (redrawn W4 dq) osq=W6 at hb6⊢
     clear q3 i0 i1 i2
     have hbe:=Below.on hb24 hb6
     by_cases hh1:h1≤0
     ·have HF:Hid (R=true):=by show _=_;rw[hst.out,hbx1.out];simp[hh1]
      clear hst hbx1
      go_wp2_with fail
      go_ret
      exact ⟨ret_bool HF.out.symm,hbw1.trans (hbe.mono hbw1.size)⟩
     ·have HF:Hid (R=(vs.drop (k+1)).any bt):=by show _=_;rw[hst.out,hbx1.out];simp[hh1]
      clear hst hbx1
      go_wp2_with fail
      go_roundw
      case rel=>exact ⟨k+1,by omega,by go_num,hbe,HF⟩
      case measure=>simp[intOf];omega
   |false=>
    have q2:=cq (W:=W4) fun V hV=>hC1 V (hbw4.trans (hV.mono hbw4.size))
    have i0:=cell_regrown p0
    have i1:=cell_regrown p1
    have i2:=cell_regrown d0
    clear hC1
    go_wp2_with fail
    refine wp_region_quiet_below (by kernel_rfl) (by kernel_rfl) ?_
    repeat (first|go_big_quiet_step ((go_at_call 203;exact q2 _ _))|quiet_step ((go_at_call 203;exact q2 _ _)))
    refine wpQuiet_nil ?_
    intro _ hw'
    obtain ⟨⟨dq,osq⟩,hw''⟩:=hw'
    subst hw''
    have hb5:=below_regrown W4 dq osq
    generalize grow (redrawn W4 dq) osq=W5 at hb5⊢
    clear q2 i0 i1 i2
    have hb25:=Below.on hb24 hb5
    have hbw5:=hbw4.trans (hb5.mono hbw4.size)
    replace p0:=cell_later hb5 p0
    replace p1:=cell_later hb5 p1
    replace d0:=cell_later hb5 d0
    have hbx1:Hid (p=(decide (l1≤0)&&decide ((if he then 0 else h1)≤0))):=by show _=_;rw[hbx.out];rfl
    clear hbx hb5 hbw4 hb24
    cases he with
    |true=>
     clear hC2 p0 p1 d0
     by_cases hl1:l1≤0
     ·have HF:Hid (R=true):=by show _=_;rw[hst.out,hbx1.out];simp[hl1]
      clear hst hbx1
      go_wp2_with fail
      go_ret
      exact ⟨ret_bool HF.out.symm,hbw1.trans (hb25.mono hbw1.size)⟩
     ·have HF:Hid (R=(vs.drop (k+1)).any bt):=by show _=_;rw[hst.out,hbx1.out];simp[hl1]
      clear hst hbx1
      go_wp2_with fail
      go_roundw
      case rel=>exact ⟨k+1,by omega,by go_num,hb25,HF⟩
      case measure=>simp[intOf];omega
    |false=>
     have q3:=cq (W:=W5) fun V hV=>hC2 V (hbw5.trans (hV.mono hbw5.size))
     have i0:=cell_regrown p0
     have i1:=cell_regrown p1
     have i2:=cell_regrown d0
     clear hC2 p0 p1 d0
     go_wp2_with fail
     refine wp_region_quiet_below (by kernel_rfl) (by kernel_rfl) ?_
     repeat (first|go_big_quiet_step ((go_at_call 203;exact q3 _ _))|quiet_step ((go_at_call 203;exact q3 _ _)))
     refine wpQuiet_nil ?_
     intro _ hw'
     obtain ⟨⟨dq,osq⟩,hw''⟩:=hw'
     subst hw''
     have hb6:=below_regrown W5 dq osq
     generalize grow (redrawn W5 dq) osq=W6 at hb6⊢
     clear q3 i0 i1 i2
     have hbe:=Below.on hb25 hb6
     by_cases hl1:l1≤0
     ·by_cases hh1:h1≤0
      ·have HF:Hid (R=true):=by show _=_;rw[hst.out,hbx1.out];simp[hl1,hh1]
       clear hst hbx1
       go_wp2_with fail
       go_ret
       exact ⟨ret_bool HF.out.symm,hbw1.trans (hbe.mono hbw1.size)⟩
      ·have HF:Hid (R=(vs.drop (k+1)).any bt):=by show _=_;rw[hst.out,hbx1.out];simp[hh1]
       clear hst hbx1
       go_wp2_with fail
       go_roundw
       case rel=>exact ⟨k+1,by omega,by go_num,hbe,HF⟩
       case measure=>simp[intOf];omega
     ·have HF:Hid (R=(vs.drop (k+1)).any bt):=by show _=_;rw[hst.out,hbx1.out];simp[hl1]
      clear hst hbx1
      go_wp2_with fail
      go_roundw
      case rel=>exact ⟨k+1,by omega,by go_num,hbe,HF⟩
      case measure=>simp[intOf];omega
  ·have hltI:¬(k:Int)<(vs.length:Int):=by omega
   have HF:Hid (R=false):=by show _=_;rw[hinv.out,List.drop_eq_nil_of_le (by omega)];rfl
   clear hinv hvE hvL hbt kN kC1 kC2
   go_wp2_with fail
   go_ret
   exact ⟨ret_bool HF.out.symm,hbw2⟩
end
end Go.Proofs.YtbkkchhimhlhcaaGreatDoor
/- identityref11: Range, Find, present. -/
namespace Go.Proofs.YtbkkchhimhlhcaaGreatDoor
open Go.RowKit Go.Sort
open Idn (L B Bs drop_L take_L size_L)
structure BdR (s:Idn.Sch) (idx:List Bs) (es:List IxE):Prop where
 len:es.length≤256
 nam:∀e∈es,e.1.length≤1000000
 get:∀e∈es,AGet e.2
 ixl:idx.length≤1000000000
 sm:SSm s
section
variable {w w':World} {hs lo rx:Nat} {s:Idn.Sch} {idx:List Bs} {es:List IxE} {ta cb nv lv:Value} {qs:List (EntP×Value)}
theorem r11_Range_any (h : RefV w hs lo rx s idx es ta cb nv lv qs) (hbd0 : BdR s idx es) (a low hi : ByteArray) (ha : a.size ≤ 1000000000) (hlo : low.size ≤ 100000000) (hhi : hi.size ≤ 100000000) :
    Calls Tryz.prog 76 #[.pointer (some ⟨rx,0,none⟩),.string a,.string low,.string hi] w (RetC w (refRange s idx es (L a) (L low) (L hi))):=by
 have kI:=r11_indexed_any h a ha hbd0.ixl
 have hsc:=fun W (hW:Below w.heap.size w W)=>SchV.mono (SchV.keep (SchV.mono h.sch h.hsz) hW) hW.size
 have kN1:=fun W (hW:Below w.heap.size w W)=>r_Normal_any _ s a low W (hsc W hW) hbd0.sm ha hlo
 have kN2:=fun W (hW:Below w.heap.size w W)=>r_Normal_any _ s a hi W (hsc W hW) hbd0.sm ha hhi
 have kF:=fun W (hW:Below w.heap.size w W) (nm:Bs) (va:Value) (X:List Idn.Att) (hva:AttsV W W.heap.size va X) (hX:AGet X)=>r11_found_any (h.keep hW) hbd0.sm (B nm) va X hva hX a low hi ha hlo hhi
 have hents:=h.ents
 have hbd:=Lib.hid hbd0
 have hbl:=hbd0.len
 have hRR:Hid (refRange s idx es (L a) (L low) (L hi)=if !idx.contains (Idn.lower (L a))then ([],false)else if (!(L low).isEmpty&&(sNorm s (L a) (L low)).2 !=0)||(!(L hi).isEmpty&&(sNorm s (L a) (L hi)).2 !=0)then ([],true)else ((es.filter fun e=>(rGet e.2 (L a)).any (refIn s (L a) (L low) (L hi))).map (·.1),true)):=rfl
 generalize refRange s idx es (L a) (L low) (L hi)=RR at *
 obtain ⟨pr,hpr0⟩:∃pr:IxE→Bool,pr=fun e=>(rGet e.2 (L a)).any (refIn s (L a) (L low) (L hi)):=⟨_,rfl⟩
 have hpd:∀e,(rGet e.2 (L a)).any (refIn s (L a) (L low) (L hi))=pr e:=fun e=>by rw[hpr0]
 rw[←hpr0]at hRR
 clear hpr0
 have hlt1:low.toList.isEmpty=(L low).isEmpty:=by rw[toList_L]
 have hlt2:hi.toList.isEmpty=(L hi).isEmpty:=by rw[toList_L]
 generalize (L low).isEmpty=le at *
 generalize (L hi).isEmpty=he at *
 generalize refIn s (L a) (L low) (L hi)=rin at *
 have p0:=h.c0
 have p1:=h.c1
 have p3:=h.c3
 obtain ⟨A5,c5,rfl,_⟩:=SlV.shape hents
 obtain ⟨sa,sb,hsq,hT,hC⟩:=h.sch
 injection hsq with hsq
 simp at hsq
 obtain ⟨rfl,rfl⟩:=hsq
 obtain ⟨A1,c1,rfl,_⟩:=SlV.shape hT
 obtain ⟨A2,c2,rfl,_⟩:=SlV.shape hC
 clear hT hC hsc hbd0
 generalize idx.contains (Idn.lower (L a))=ic at *
 generalize sNorm s (L a) (L low)=nl at *
 generalize sNorm s (L a) (L hi)=nh at *
 obtain ⟨nl1,nl2⟩:=nl
 obtain ⟨nh1,nh2⟩:=nh
 dsimp only at kN1 kN2 hRR
 go_enter Tryz.func76,Tryz.ntmps76
 go_wp2_with fail
 refine kI.mono ?_
 rintro e w1 ⟨rfl,hb1⟩
 replace p0:=cell_later hb1 p0
 replace p1:=cell_later hb1 p1
 clear kI
 cases ic with
 |false=>
  have HF:Hid (RR=([],false)):=hRR.out
  clear hRR kF kN1 kN2
  go_wp2_with fail
  go_ret2
  rw[HF.out]
  exact RetC.nil hb1
 |true=>
 have hRR2:Hid (RR=if (!le&&nl2 !=0)||(!he&&nh2 !=0)then ([],true)else ((es.filter pr).map (·.1),true)):=hRR.out
 clear hRR
 go_wp2_with fail
 refine (kN1 w1 hb1).mono ?_
 rintro e w2 ⟨rfl,hb2⟩
 replace p0:=cell_later hb2 p0
 replace p1:=cell_later hb2 p1
 have hbw2:=hb1.trans (hb2.mono hb1.size)
 clear kN1 hb2 hb1
 go_wp2_with fail
 refine (kN2 w2 hbw2).mono ?_
 rintro e w3 ⟨rfl,hb3⟩
 have hbw3:=hbw2.trans (hb3.mono hbw2.size)
 clear kN2 hb3 hbw2 p0 p1
 obtain ⟨bad,hbad⟩:∃bad,bad=((!le&&nl2 !=0)||(!he&&nh2 !=0)):=⟨_,rfl⟩
 rw[←hbad]at hRR2
 have hend:∀e W,Below w.heap.size w W→bad=true→e=.returned (.tuple #[.slice none 0 0,.bool true])→RetC w RR e W:=fun e W hW hb he=>by
  subst he
  have:RR=([],true):=by rw[hRR2.out,hb];rfl
  rw[this]
  exact RetC.nil hW
 replace hend:=Lib.hid hend
 replace hbad:=Lib.hid hbad
 go_upto_region 5 with fail
 go_cut [53] (fun t wx=>t=.bool bad∧wx=w3)
 case first=>
  clear hend hRR2 kF hents hbd
  by_cases h1:nl2=0
  ·subst h1
   cases le with
   |true=>
    cases he with
    |true=>
     have HB:bad=false:=by rw[hbad.out];simp
     go_wp2_with fail
     go_meet
     exact ⟨by rw[HB],rfl⟩
    |false=>
     by_cases h2:nh2=0
     ·subst h2
      have HB:bad=false:=by rw[hbad.out];simp
      go_wp2_with fail
      go_meet
      exact ⟨by rw[HB],rfl⟩
     ·have h2b:(nh2 !=0)=true:=by simpa using h2
      have HB:bad=true:=by rw[hbad.out];simp[h2]
      go_wp2_with fail
      go_meet
      exact ⟨by rw[HB],rfl⟩
   |false=>
    cases he with
    |true=>
     have HB:bad=false:=by rw[hbad.out];simp
     go_wp2_with fail
     go_meet
     exact ⟨by rw[HB],rfl⟩
    |false=>
     by_cases h2:nh2=0
     ·subst h2
      have HB:bad=false:=by rw[hbad.out];simp
      go_wp2_with fail
      go_meet
      exact ⟨by rw[HB],rfl⟩
     ·have h2b:(nh2 !=0)=true:=by simpa using h2
      have HB:bad=true:=by rw[hbad.out];simp[h2]
      go_wp2_with fail
      go_meet
      exact ⟨by rw[HB],rfl⟩
  ·have h1b:(nl2 !=0)=true:=by simpa using h1
   cases le with
   |true=>
    cases he with
    |true=>
     have HB:bad=false:=by rw[hbad.out];simp
     go_wp2_with fail
     go_meet
     exact ⟨by rw[HB],rfl⟩
    |false=>
     by_cases h2:nh2=0
     ·subst h2
      have HB:bad=false:=by rw[hbad.out];simp
      go_wp2_with fail
      go_meet
      exact ⟨by rw[HB],rfl⟩
     ·have h2b:(nh2 !=0)=true:=by simpa using h2
      have HB:bad=true:=by rw[hbad.out];simp[h2]
      go_wp2_with fail
      go_meet
      exact ⟨by rw[HB],rfl⟩
   |false=>
    have HB:bad=true:=by rw[hbad.out];simp[h1]
    go_wp2_with fail
    go_meet
    exact ⟨by rw[HB],rfl⟩
 case rest=>
 obtain ⟨rfl,rfl⟩:=hcut
 cases bad with
 |true=>
  clear hbad hRR2 kF
  go_wp2_with fail
  go_ret2
  exact hend.out _ _ hbw3 (by trivial) rfl
 |false=>
  have HB:false=false:=rfl
  have hRR3:RR=((es.filter pr).map (·.1),true):=by rw[hRR2.out];rfl
  subst hRR3
  obtain ⟨R,hR⟩:∃R,R=(es.filter pr).map (·.1):=⟨_,rfl⟩
  have hRe:Hid (R=(es.filter pr).map (·.1)):=hR
  have HR:Hid (R=[]++((es.drop 0).filter pr).map (·.1)):=hR
  clear hR hbad hRR2 hend HB
  go_wp2_with fail
  go_loopw [14,15] (fun ov i wr=>∃(k:Nat) (out:List Bs),k≤es.length∧i=.int .i64 k∧wr.ownsRow w.heap.size 9 1 ov out.length (out.map sv)∧out.length≤k∧Below w.heap.size w wr∧Hid (R=out++((es.drop k).filter pr).map (·.1))) (fun _ i _=>es.length-(intOf i).toNat)
  case atStart=>exact ⟨0,[],Nat.zero_le _,rfl,World.ownsRow_nil _ _ _ _,Nat.le_refl _,hbw3,HR⟩
  case round=>
   obtain ⟨k,out,hk,rfl,hown,hol,hb,hinv⟩:=hrel
   clear HR
   obtain ⟨A5,c5,hsh⟩:=own_shape hown
   subst hsh
   have q3:=cell_later hb p3
   by_cases hlt:k<es.length
   ·have hltI:(k:Int)<(es.length:Int):=by omega
    obtain ⟨b,off,va,hAd,_,d0,d1,hva⟩:=EntsV.cell (EntsV.mono (EntsV.keep hents hb) hb.size) hlt
    subst hAd
    obtain ⟨Av,cv,rfl,_⟩:=SlV.shape hva
    have hnl:=hbd.out.nam _ (List.getElem_mem hlt)
    have hag:=hbd.out.get _ (List.getElem_mem hlt)
    have hst:Hid (R=out++(if pr es[k]then es[k].1 :: ((es.drop (k+1)).filter pr).map (·.1)else ((es.drop (k+1)).filter pr).map (·.1))):=by
     show _=_
     rw[hinv.out,List.drop_eq_getElem_cons hlt,List.filter_cons]
     cases pr es[k]<;>rfl
    have hpr:=hpd es[k]
    have hc:=kF wr hb es[k].1 _ es[k].2 hva hag
    generalize pr es[k]=p at *
    generalize es[k]=x at *
    obtain ⟨xn,xa⟩:=x
    dsimp only at d0 d1 hva hnl hag hst hpr hc
    clear hinv hva hag
    go_wp2_with fail
    rw[hpr]at hc
    refine hc.mono ?_
    rintro e w4 ⟨rfl,hb4⟩
    replace q3:=cell_later hb4 q3
    replace d0:=cell_later hb4 d0
    have hb1:=hb.trans (hb4.mono hb.size)
    have hown1:=own_below hown hb4
    clear hc hown hb4 hb
    cases p with
    |false=>
     have HF:Hid (R=out++((es.drop (k+1)).filter pr).map (·.1)):=by show _=_;rw[hst.out];rfl
     clear hst
     go_wp2_with fail
     go_roundw
     case rel=>exact ⟨k+1,out,by omega,by go_num,hown1,by omega,hb1,HF⟩
     case measure=>simp[intOf];omega
    |true=>
     have HF:Hid (R=(out++[xn])++((es.drop (k+1)).filter pr).map (·.1)):=by show _=_;rw[hst.out,List.append_assoc];rfl
     clear hst
     go_wp2_with (at_builtin;refine wpList_push w4 rfl _ _ 26 rfl w.heap.size 9 (.string ⟨#[]⟩) 1 16 Tryz.underlying26 info_str rfl (by decide) _ _ _ hown1 rfl [.string (B xn)] rfl rfl (by intro u hu;simp at hu;subst hu;rfl) (by omega) hb1.size ?_ rfl)
     intro v' w5 hown5 hg5 hat5 hb5 _
     go_wp2_with fail
     go_roundw
     case rel=>exact ⟨k+1,out++[xn],by omega,by go_num,by rw[List.length_append,List.map_append];exact hown5,by rw[List.length_append];simp;omega,hb1.trans hb5,HF⟩
     case measure=>simp[intOf];omega
   ·have hltI:¬(k:Int)<(es.length:Int):=by omega
    have HF:Hid (R=out):=by show _=_;rw[hinv.out,List.drop_eq_nil_of_le (by omega)];simp
    clear hinv
    go_wp2_with fail
    go_ret2
    rw[show (es.filter pr).map (·.1)=out from hRe.out.symm.trans HF.out]
    exact ⟨_,rfl,hown,hb⟩
theorem r11_Find_any (h : RefV w hs lo rx s idx es ta cb nv lv qs) (hbd0 : BdR s idx es) (a x : ByteArray) (ha : a.size ≤ 1000000000) (hx : x.size ≤ 100000000) :
    Calls Tryz.prog 74 #[.pointer (some ⟨rx,0,none⟩),.string a,.string x] w (RetC w (refFind s idx es (L a) (L x))):=by
 have kI:=r11_indexed_any h a ha hbd0.ixl
 have kR:=r11_Range_any h hbd0 a x x ha hx hx
 have hr:refFind s idx es (L a) (L x)=if (L x).isEmpty then ([],idx.contains (Idn.lower (L a)))else refRange s idx es (L a) (L x) (L x):=rfl
 have hlt:x.toList.isEmpty=(L x).isEmpty:=by rw[toList_L]
 rw[hr]
 clear h hbd0 hr
 generalize idx.contains (Idn.lower (L a))=ic at *
 generalize refRange s idx es (L a) (L x) (L x)=RR at *
 generalize (L x).isEmpty=xe at *
 go_enter Tryz.func74,Tryz.ntmps74
 cases xe with
 |true=>
  clear kR
  go_wp2_with fail
  refine kI.mono ?_
  rintro e w1 ⟨rfl,hb1⟩
  go_wp2_with fail
  go_ret2
  exact RetC.nil hb1
 |false=>
  clear kI
  go_wp2_with fail
  refine kR.mono ?_
  rintro e w1 ⟨v,rfl,ho,hb1⟩
  go_wp2_with fail
  go_ret2
  exact ⟨v,rfl,ho,hb1⟩
theorem r11_present_any (h : RefV w hs lo rx s idx es ta cb nv lv qs) (hbd0 : BdR s idx es) (a : ByteArray) (ha : a.size ≤ 1000000000) :
    Calls Tryz.prog 75 #[.pointer (some ⟨rx,0,none⟩),.string a] w (RetC w (ixPres idx es (L a))):=by
 have kI:=r11_indexed_any h a ha hbd0.ixl
 have kF:=fun W (hW:Below w.heap.size w W) (va:Value) (X:List Idn.Att) (hva:AttsV W W.heap.size va X) (hX:AGet X)=>r6_Get_any va X a W hva hX.1 ha
 have hents:=h.ents
 have hbd:=Lib.hid hbd0
 have hbl:=hbd0.len
 have hRR:Hid (ixPres idx es (L a)=if !idx.contains (Idn.lower (L a))then ([],false)else ((es.filter fun e=>decide (0<(rGet e.2 (L a)).length)).map (·.1),true)):=rfl
 generalize ixPres idx es (L a)=RR at *
 obtain ⟨pr,hpr0⟩:∃pr:IxE→Bool,pr=fun e=>decide (0<(rGet e.2 (L a)).length):=⟨_,rfl⟩
 have hpd:∀e,decide (0<(rGet e.2 (L a)).length)=pr e:=fun e=>by rw[hpr0]
 rw[←hpr0]at hRR
 clear hpr0
 have p3:=h.c3
 obtain ⟨A5,c5,rfl,_⟩:=SlV.shape hents
 clear hbd0 h
 generalize idx.contains (Idn.lower (L a))=ic at *
 go_enter Tryz.func75,Tryz.ntmps75
 go_wp2_with fail
 refine kI.mono ?_
 rintro e w1 ⟨rfl,hb1⟩
 clear kI
 cases ic with
 |false=>
  have HF:Hid (RR=([],false)):=hRR.out
  clear hRR kF
  go_wp2_with fail
  go_ret2
  rw[HF.out]
  exact RetC.nil hb1
 |true=>
 have hRR3:RR=((es.filter pr).map (·.1),true):=hRR.out
 clear hRR
 subst hRR3
 obtain ⟨R,hR⟩:∃R,R=(es.filter pr).map (·.1):=⟨_,rfl⟩
 have hRe:Hid (R=(es.filter pr).map (·.1)):=hR
 have HR:Hid (R=[]++((es.drop 0).filter pr).map (·.1)):=hR
 clear hR
 go_wp2_with fail
 go_loopw [6,7] (fun ov i wr=>∃(k:Nat) (out:List Bs),k≤es.length∧i=.int .i64 k∧wr.ownsRow w.heap.size 9 1 ov out.length (out.map sv)∧out.length≤k∧Below w.heap.size w wr∧Hid (R=out++((es.drop k).filter pr).map (·.1))) (fun _ i _=>es.length-(intOf i).toNat)
 case atStart=>exact ⟨0,[],Nat.zero_le _,rfl,World.ownsRow_nil _ _ _ _,Nat.le_refl _,hb1,HR⟩
 case round=>
  obtain ⟨k,out,hk,rfl,hown,hol,hb,hinv⟩:=hrel
  clear HR
  obtain ⟨A5,c5,hsh⟩:=own_shape hown
  subst hsh
  have q3:=cell_later hb p3
  by_cases hlt:k<es.length
  ·have hltI:(k:Int)<(es.length:Int):=by omega
   obtain ⟨b,off,va,hAd,_,d0,d1,hva⟩:=EntsV.cell (EntsV.mono (EntsV.keep hents hb) hb.size) hlt
   subst hAd
   obtain ⟨Av,cv,rfl,_⟩:=SlV.shape hva
   have hnl:=hbd.out.nam _ (List.getElem_mem hlt)
   have hag:=hbd.out.get _ (List.getElem_mem hlt)
   have hst:Hid (R=out++(if pr es[k]then es[k].1 :: ((es.drop (k+1)).filter pr).map (·.1)else ((es.drop (k+1)).filter pr).map (·.1))):=by
    show _=_
    rw[hinv.out,List.drop_eq_getElem_cons hlt,List.filter_cons]
    cases pr es[k]<;>rfl
   have hpr:=hpd es[k]
   have hc:=kF wr hb _ es[k].2 hva hag
   generalize pr es[k]=p at *
   generalize es[k]=x at *
   obtain ⟨xn,xa⟩:=x
   dsimp only at d0 d1 hva hnl hag hst hpr hc
   have hag2:=hag
   clear hinv hva hag
   go_wp2_with fail
   refine hc.mono ?_
   rintro e w4 ⟨A9,k9,c9,rfl,S9,hb4⟩
   have hk9:=SlV.len S9
   subst hk9
   have hgl:=(hag2.2 (L a)).1
   clear S9
   replace q3:=cell_later hb4 q3
   replace d0:=cell_later hb4 d0
   have hb1:=hb.trans (hb4.mono hb.size)
   have hown1:=own_below hown hb4
   clear hc hown hb4 hb
   generalize (rGet xa (L a)).length=gl at *
   cases p with
   |false=>
    have HF:Hid (R=out++((es.drop (k+1)).filter pr).map (·.1)):=by show _=_;rw[hst.out];rfl
    clear hst
    have hgl0:¬(0:Int)<(gl:Int):=by have:=of_decide_eq_false hpr;omega
    go_wp2_with fail
    go_roundw
    case rel=>exact ⟨k+1,out,by omega,by go_num,hown1,by omega,hb1,HF⟩
    case measure=>simp[intOf];omega
   |true=>
    have HF:Hid (R=(out++[xn])++((es.drop (k+1)).filter pr).map (·.1)):=by show _=_;rw[hst.out,List.append_assoc];rfl
    clear hst
    have hgl0:(0:Int)<(gl:Int):=by have:=of_decide_eq_true hpr;omega
    go_wp2_with (at_builtin;refine wpList_push w4 rfl _ _ 26 rfl w.heap.size 9 (.string ⟨#[]⟩) 1 16 Tryz.underlying26 info_str rfl (by decide) _ _ _ hown1 rfl [.string (B xn)] rfl rfl (by intro u hu;simp at hu;subst hu;rfl) (by omega) hb1.size ?_ rfl)
    intro v' w5 hown5 hg5 hat5 hb5 _
    go_wp2_with fail
    go_roundw
    case rel=>exact ⟨k+1,out++[xn],by omega,by go_num,by rw[List.length_append,List.map_append];exact hown5,by rw[List.length_append];simp;omega,hb1.trans hb5,HF⟩
    case measure=>simp[intOf];omega
  ·have hltI:¬(k:Int)<(es.length:Int):=by omega
   have HF:Hid (R=out):=by show _=_;rw[hinv.out,List.drop_eq_nil_of_le (by omega)];simp
   clear hinv
   go_wp2_with fail
   go_ret2
   rw[show (es.filter pr).map (·.1)=out from hRe.out.symm.trans HF.out]
   exact ⟨_,rfl,hown,hb⟩
end
end Go.Proofs.YtbkkchhimhlhcaaGreatDoor
/- identityref11: New. -/
namespace Go.Proofs.YtbkkchhimhlhcaaGreatDoor
open Go.RowKit Go.Sort
open Idn (L B Bs drop_L take_L size_L)
section
variable {w w':World} {hs lo rx:Nat} {s:Idn.Sch} {idx:List Bs} {es:List IxE} {ta cb nv lv:Value} {qs:List (EntP×Value)}
theorem RefV.names (h:RefV w hs lo rx s idx [] ta cb nv (.slice none 0 0) []) (hb:Below lo w w') {nv':Value} {idx':List Bs} (hn:w'.ownsRow lo 9 1 nv' idx'.length (idx'.map sv)):RefV (w'.setCell ⟨rx,2,none⟩ nv') hs lo rx s idx' [] ta cb nv' (.slice none 0 0) []:=by
 have hm:=Mv.set w' rx 2 nv'
 have hc:∀i u,w.cell? ⟨rx,i,none⟩=some u→w'.cell? ⟨rx,i,none⟩=some u:=fun i u e=>(hb.cell (p:=⟨rx,i,none⟩) h.rlo).trans e
 exact {
  c0:=by rw[World.cell?_setCell_other _ _ _ _ (by intro e;injection e with e1 e2;omega)];exact hc _ _ h.c0
  c1:=by rw[World.cell?_setCell_other _ _ _ _ (by intro e;injection e with e1 e2;omega)];exact hc _ _ h.c1
  c2:=World.cell?_setCell_same _ _ _ (hc _ _ h.c2)
  c3:=by rw[World.cell?_setCell_other _ _ _ _ (by intro e;injection e with e1 e2;omega)];exact hc _ _ h.c3
  c4:=by rw[World.cell?_setCell_other _ _ _ _ (by intro e;injection e with e1 e2;omega)];exact hc _ _ h.c4
  frz:=fun i=>by simpa using (hb.frozen (p:=⟨rx,i,none⟩) h.rlo).trans (h.frz i)
  sch:=h.sch.keepC fun b off u hbb hcc=>by
   have h1:=h.hsr
   have h2:=h.rlo
   rw[World.cell?_setCell_other _ _ _ _ (by intro e;injection e with e1 e2;omega)]
   exact (hb.cell (p:=⟨b,off,none⟩) (by show b<lo;omega)).trans hcc
  nam:=own_mv hn hm fun k hk=>.inl (by have:k=rx:=hk;rw[this];exact h.rlo)
  ent:=EntRow.nil _ _
  map:=rfl
  hsz:=by have h1:=hb.size;have h2:=h.hsz;simp[World.setCell];omega
  hsr:=h.hsr
  rlo:=h.rlo
  loz:=by have h1:=hb.size;have h2:=h.loz;simp[World.setCell];omega }
def RetRN (w:World) (s:Idn.Sch) (ns:List Bs) (r:Int) (e:Ending) (w':World):Prop:=
 Below w.heap.size w w'∧((r=0∧∃(rx lo:Nat) (ta cb nv:Value),e=.returned (.tuple #[.pointer (some ⟨rx,0,none⟩),.int .i64 0])∧w.heap.size≤rx∧RefV w' w.heap.size lo rx s (ns.map Idn.lower) [] ta cb nv (.slice none 0 0) [])∨(r≠0∧e=.returned (.tuple #[.pointer none,.int .i64 r])))
theorem r11_New_any (v nv : Value) (s : Idn.Sch) (ns : List Bs) (w : World) (hv : SchV w w.heap.size v s) (hsm : SSm s) (hn : StrsV w w.heap.size nv ns) (hnl : ns.length ≤ 1000000) (hnb : ∀ n ∈ ns, n.length ≤ 1000000) :
    Calls Tryz.prog 15 #[v,nv] w (RetRN w s ns (nwE s ns)):=by
 have kCk:=fun W (hW:Below w.heap.size w W)=>r_check_any v s W (SchV.mono (SchV.keep hv hW) hW.size) hsm
 have kTy:=fun (n:Bs) (hn:n.length≤1000000) W (hW:Below w.heap.size w W)=>r_type_any v s (B n) W (SchV.mono (SchV.keep hv hW) hW.size) hsm (by rw[Idn.size_B];omega)
 simp only[Idn.L_B]at kTy
 have hv0:=hv
 obtain ⟨A0,cn,rfl,_⟩:=SlV.shape hn
 obtain ⟨sa,sb,rfl,hT,hC⟩:=hv
 obtain ⟨A1,c1,rfl,_⟩:=SlV.shape hT
 obtain ⟨A2,c2,rfl,_⟩:=SlV.shape hC
 have HR:Hid (nwE s ns=if Idn.sCheck s=0 then (ixNew s ns []).1 else Idn.sCheck s):=rfl
 generalize nwE s ns=r at *
 go_enter Tryz.func15,Tryz.ntmps15
 go_upto_region 1 with fail
 with_reducible refine gen1 (R:=fun W=>Code.wp Tryz.prog _ _ _ W) ?_
 intro W hbW hszW hc _
 have b0:W.cell? ⟨w.heap.size,0,none⟩=some (.slice A1 s.types.length c1):=hc 0 _ rfl
 have b1:W.cell? ⟨w.heap.size,1,none⟩=some (.slice A2 s.classes.length c2):=hc 1 _ rfl
 clear hc
 go_wp2_with fail
 refine (kCk W hbW).mono ?_
 rintro e w1 ⟨rfl,hb1⟩
 replace b0:=cell_later hb1 b0
 replace b1:=cell_later hb1 b1
 have hbw1:=hbW.trans (hb1.mono hbW.size)
 have hwx:w.heap.size<w1.heap.size:=by have:=hb1.size;omega
 clear kCk hb1 hbW hszW
 by_cases hck:Idn.sCheck s=0
 case neg=>
  have HF:Hid (r=Idn.sCheck s):=by show _=_;rw[HR.out,if_neg hck]
  generalize Idn.sCheck s=ec at *
  clear kTy HR
  go_wp2_with fail
  go_ret2
  exact ⟨hbw1,.inr ⟨by rw[HF.out];exact hck,by rw[HF.out];rfl⟩⟩
 rw[hck]
 have HR2:Hid (r=(ixNew s ns []).1):=by show _=_;rw[HR.out,if_pos hck]
 clear HR hck
 go_upto_region 5 with fail
 with_reducible refine gen1 (R:=fun W=>Code.wp Tryz.prog _ _ _ W) ?_
 intro W2 hb2 hsz2 hc hfz
 have hbw2:=hbw1.trans (hb2.mono hbw1.size)
 have hR0:RefV W2 w.heap.size (w1.heap.size+1) w1.heap.size s [] [] (.slice A1 s.types.length c1) (.slice A2 s.classes.length c2) (.slice none 0 0) (.slice none 0 0) []:=
  { c0 := hc 0 _ rfl
    c1:=hc 1 _ rfl
    c2:=hc 2 _ rfl
    c3:=hc 3 _ rfl
    c4:=hc 4 _ rfl
    frz:=fun i=>hfz i
    sch:=SchV.keep hv0 hbw2
    nam:=World.ownsRow_nil _ _ _ _
    ent:=EntRow.nil _ _
    map:=rfl
    hsz:=hbw2.size
    hsr:=hbw1.size
    rlo:=Nat.lt_succ_self _
    loz:=by omega }
 replace b0:=cell_later hb2 b0
 replace b1:=cell_later hb2 b1
 generalize w1.heap.size=rx at *
 clear hc hfz hsz2 hb2 hbw1 hT hC hv0
 go_wp2_with fail
 go_loopw [8,9,10] (fun i _ _ wr=>∃(k:Nat) (nv:Value),k≤ns.length∧i=.int .i64 k∧RefV wr w.heap.size (rx+1) rx s ((ns.take k).map Idn.lower) [] (.slice A1 s.types.length c1) (.slice A2 s.classes.length c2) nv (.slice none 0 0) []∧Below w.heap.size w wr∧Below rx W2 wr∧Hid (r=(ixNew s (ns.drop k) ((ns.take k).map Idn.lower)).1)) (fun i _ _ _=>ns.length-(intOf i).toNat)
 case atStart=>exact ⟨0,_,Nat.zero_le _,rfl,hR0,hbw2,Below.refl _ _,HR2⟩
 case round=>
  obtain ⟨k,nv,hk,rfl,hRk,hbk,hbx,hinv⟩:=hrel
  clear HR2 hR0
  by_cases hlt:k<ns.length
  ·obtain ⟨b,off,rfl,hbl,d0⟩:=StrsV.cell (SlV.keep hn hbk) hlt
   have hltI:(k:Int)<(ns.length:Int):=by omega
   have p0:wr.cell? ⟨w.heap.size,0,none⟩=some (.slice A1 s.types.length c1):=(hbx.cell (p:=⟨w.heap.size,0,none⟩) hwx).trans b0
   have p1:wr.cell? ⟨w.heap.size,1,none⟩=some (.slice A2 s.classes.length c2):=(hbx.cell (p:=⟨w.heap.size,1,none⟩) hwx).trans b1
   have hxl:=hnb _ (List.getElem_mem hlt)
   have hT:=fun W (hW:Below wr.heap.size wr W)=>kTy ns[k] hxl W (hbk.trans (hW.mono hbk.size))
   have hstep:Hid (r=(if !(tyLook (sound s) ns[k]).2 then (6,[])else if ((ns.take k).map Idn.lower).contains (Idn.lower ns[k])then (7,[])else ixNew s (ns.drop (k+1)) ((ns.take k).map Idn.lower++[Idn.lower ns[k]])).1):=by
    show _=_
    rw[hinv.out,List.drop_eq_getElem_cons hlt,ixNew]
   have hlw:Hid ((ns.take (k+1)).map Idn.lower=(ns.take k).map Idn.lower++[Idn.lower ns[k]]):=by
    show _=_
    rw[List.take_succ_eq_append_getElem hlt,List.map_append];rfl
   have hil:((ns.take k).map Idn.lower).length≤1000000:=by rw[List.length_map,List.length_take];omega
   have kI:=fun W (hW:Below wr.heap.size wr W)=>r11_indexed_any (hRk.keep hW) (B ns[k]) (by rw[Idn.size_B];omega) (Nat.le_trans hil (by decide))
   simp only[Idn.L_B]at kI
   have hLo:=fun W=>r_lower_any (B ns[k]) W (by rw[Idn.size_B];omega)
   simp only[Idn.L_B]at hLo
   generalize tyLook (sound s) ns[k]=tl at *
   obtain ⟨⟨tn,ty,tg⟩,tk⟩:=tl
   unfold tyV at hT
   simp only[sv]at hT
   generalize Idn.lower ns[k]=lx at *
   generalize ns[k]=x at *
   generalize (ns.take k).map Idn.lower=ac at *
   obtain ⟨R9,hR9⟩:∃R9:Bool,R9=ac.contains lx:=⟨_,rfl⟩
   rw[←hR9]at kI
   have hR9':=Lib.hid hR9
   clear hinv hR9 kTy
   have hSt:∀W',Below wr.heap.size wr W'→W'.cell? ⟨w.heap.size,0,none⟩=some (.slice A1 s.types.length c1)∧W'.cell? ⟨w.heap.size,1,none⟩=some (.slice A2 s.classes.length c2)∧W'.cell? ⟨b,off+k,none⟩=some (.string (B x))∧Below wr.heap.size wr W':=fun W' hW=>⟨cell_later hW p0,cell_later hW p1,cell_later hW d0,hW⟩
   go_upto_region 8 with fail
   go_cut [9,10] (fun _ ok wx=>ok=.bool tk∧Below wr.heap.size wr wx)
   case first=>
    clear kI hLo hstep hlw hRk hbk hbx
    go_region_held3 (fun W'=>W'.cell? ⟨w.heap.size,0,none⟩=some (.slice A1 s.types.length c1)∧W'.cell? ⟨w.heap.size,1,none⟩=some (.slice A2 s.classes.length c2)∧W'.cell? ⟨b,off+k,none⟩=some (.string (B x))∧Below wr.heap.size wr W')
     (first|(refine hSt _ ?_;repeat (first|with_reducible exact Below.refl _ _|with_reducible apply Below.drew|with_reducible refine Below.lay ?_ _|with_reducible refine Below.setCell ?_ (by simp) _|with_reducible refine Below.on ?_ hb5)))
     (first|(go_at_call 54;refine (hT _ (by repeat (first|with_reducible exact Below.refl _ _|with_reducible apply Below.drew|with_reducible refine Below.lay ?_ _))).mono ?_;rintro e W5 ⟨rfl,hb5⟩;first|have hn:=three_new hb5|skip))
    all_goals (go_wp2_with fail;go_meet)
    all_goals exact ⟨rfl,And.right (And.right (And.right (by assumption)))⟩
   case rest=>
   obtain ⟨rfl,hbc⟩:=hcut
   generalize wc=W3 at *
   replace d0:=cell_later hbc d0
   have hb3:=hbk.trans (hbc.mono hbk.size)
   have hR3:=hRk.keep hbc
   have hbx3:Below rx W2 W3:=hbx.trans (hbc.mono (by have:=hRk.rlo;have:=hRk.loz;omega))
   clear hSt hT hRk p0 p1
   cases tk with
   |false=>
    have HF:Hid (r=6):=hstep.out
    clear hstep kI hLo
    go_wp2_with fail
    go_ret2
    exact ⟨hb3,.inr ⟨by rw[HF.out];decide,by rw[HF.out];rfl⟩⟩
   |true=>
   have hst2:Hid (r=(if R9 then (7,[])else ixNew s (ns.drop (k+1)) (ac++[lx])).1):=by show _=_;rw[hstep.out,hR9'.out];rfl
   clear hstep
   go_wp2_with fail
   refine (kI W3 hbc).mono ?_
   rintro e W4 ⟨rfl,hb4⟩
   replace d0:=cell_later hb4 d0
   have hbw4:=hb3.trans (hb4.mono hb3.size)
   have hR4:=hR3.keep hb4
   have hbx4:Below rx W2 W4:=hbx3.trans (hb4.mono (by have:=hR3.rlo;have:=hR3.loz;omega))
   clear kI hR3 hb4 hbc hb3 hbx3 hbk hbx
   cases R9 with
   |true=>
    have HF:Hid (r=7):=hst2.out
    clear hst2 hLo
    go_wp2_with fail
    go_ret2
    exact ⟨hbw4,.inr ⟨by rw[HF.out];decide,by rw[HF.out];rfl⟩⟩
   |false=>
   have HF:Hid (r=(ixNew s (ns.drop (k+1)) (ac++[lx])).1):=hst2.out
   clear hst2 hR9'
   obtain ⟨A6,c6,rfl⟩:=own_shape hR4.nam
   have hRd:=hR4.keep (Below.refl _ W4).drew
   have p0d:=hRd.c2
   have pfd:=hRd.frz 2
   have hownd:=hRd.nam
   have dd:W4.drew.cell? ⟨b,off+k,none⟩=some (.string (B x)):=d0
   have l4:=hRd.loz
   have hcall:=hLo W4.drew
   clear hLo d0 hR4
   go_upto_region 13 with fail
   go_region_law (first
    | (go_simp
       go_at_call 56
       refine hcall.mono ?_
       rintro e w6 ⟨rfl,hb6⟩
       have p06:=cell_later hb6 p0d
       have p06a:=cell_later ((Below.refl _ _).alloc (Nat.le_refl _) (.cells #[.string (B lx)] 9)) p06
       have pf6:=frozen_later hb6 pfd (World.block_lt_of_cell? _ _ p0d)
       have hown6:=own_below hownd hb6
       have hs6:rx+1≤w6.heap.size:=Nat.le_trans l4 hb6.size
       go_wp2_with fail)
    | (refine step_push rfl _ _ 26 rfl (rx + 1) 9 (.string ⟨#[]⟩) 1 16 Tryz.underlying26 info_str rfl (by decide) _ _ _ hown6 rfl [.string (B lx)] rfl rfl (by intro u hu; simp at hu; subst hu; rfl) (by omega) hs6 ?_ rfl
       intro v7 w7 hown7 hg7 hat7
       obtain ⟨A9,c9,hv9⟩:=own_shape hown7
       subst hv9
       have hb7:Below (rx+1) w6 w7:=(Below.refl _ _).grown hg7 hs6 (fun j hj=>(hown6.lt j hj).1)
       have st1:=(hb7.cell (p:=⟨rx,2,none⟩) (Nat.lt_succ_self rx)).trans p06
       have st2:=(hb7.frozen (p:=⟨rx,2,none⟩) (Nat.lt_succ_self rx)).trans pf6))
   all_goals
    have hlen:ac.length+1=(ac++[lx]).length:=by rw[List.length_append];rfl
    have hown8:w7.ownsRow (rx+1) 9 1 (.slice A9 (ac++[lx]).length c9) (ac++[lx]).length ((ac++[lx]).map sv):=by rw[←hlen,List.map_append];exact hown7
    have hR8:=(hRd.keep hb6).names hb7 hown8
    rw[←hlen,←hlw.out]at hR8
    have hbw8:Below w.heap.size w (w7.setCell ⟨rx,2,none⟩ (.slice A9 (ac.length+1) c9)):=(((hbw4.drew).trans (hb6.mono hbw4.size)).trans (hb7.mono (by omega))).setCell (p:=⟨rx,2,none⟩) (by show w.heap.size≤rx;omega) _
    have hbx8:Below rx W2 (w7.setCell ⟨rx,2,none⟩ (.slice A9 (ac.length+1) c9)):=(((hbx4.drew).trans (hb6.mono (by show rx≤W4.heap.size;have:rx+1≤W4.heap.size:=l4;omega))).trans (hb7.mono (by omega))).setCell (p:=⟨rx,2,none⟩) (Nat.le_refl _) _
    have HF2:Hid (r=(ixNew s (ns.drop (k+1)) ((ns.take (k+1)).map Idn.lower)).1):=by show _=_;rw[HF.out,hlw.out]
    obtain ⟨X,hX⟩:∃X:World,X=w7.setCell ⟨rx,2,none⟩ (.slice A9 (ac.length+1) c9):=⟨_,rfl⟩
    rw[←hX]at hR8 hbw8 hbx8⊢
    clear hX st1 st2 hown8 hown7 hown6 hg7 hat7 p06 p06a pf6 p0d pfd hb6 hb7 hRd hownd dd hcall hlen HF
    go_wp2_with fail
    go_roundw
    case rel=>exact ⟨k+1,_,by omega,by go_num,hR8,hbw8,hbx8,HF2⟩
    case measure=>simp[intOf];omega
  ·have hltI:¬(k:Int)<(ns.length:Int):=by omega
   have HF:Hid (r=0):=by show _=_;rw[hinv.out,List.drop_eq_nil_of_le (by omega)];rfl
   rw[List.take_of_length_le (by omega)]at hRk
   clear hinv kTy
   go_wp2_with fail
   go_ret2
   exact ⟨hbk,.inl ⟨HF.out,rx,_,_,_,_,rfl,by omega,hRk⟩⟩
end
end Go.Proofs.YtbkkchhimhlhcaaGreatDoor
/- law11: what both indexes keep while the other turns. -/
namespace Go.Proofs.YtbkkchhimhlhcaaGreatDoor
open Go.RowKit Go.Sort
open Idn (L B Bs drop_L take_L size_L)
theorem GdI.bdr {s:Idn.Sch} {ns:List Bs} {es:List IxE} (h:GdI s ns es) (hn:ns.length≤1000000000):BdR s (ns.map Idn.lower) es:=
 ⟨h.len,h.nam,fun e he=>(fun q=>⟨chk_sm (h.chk e he),fun n=>⟨Nat.le_trans (q n).1 (by decide),fun x hx=>Nat.le_trans ((q n).2 x hx) (by decide)⟩⟩) (rGet_small (h.chk e he) (h.srt e he)),by rw[List.length_map];exact hn,h.sm⟩
theorem IxV.raise {w:World} {hs lo lo' px:Nat} {s:Idn.Sch} {ns:List Bs} {ta cb:Value} {eb vb:Nat} {g:Bs→Value} {ts:List (Bs×Nat)} {G:Bs→Bs→Option Nat} (h:IxV w hs lo px s ns [] ta cb eb vb g ts G) (hl:lo'≤w.heap.size):IxV w hs lo' px s ns [] ta cb eb vb g ts G:={ h with att:=by simp,loz:=hl }
section
variable {w w':World} {hs lo px:Nat} {s:Idn.Sch} {ns:List Bs} {es:List IxE} {ta cb:Value} {eb vb:Nat} {g:Bs→Value} {ts:List (Bs×Nat)} {G:Bs→Bs→Option Nat} {hs' lo' rx:Nat} {s':Idn.Sch} {idx:List Bs} {es':List IxE} {ta' cb' nv lv:Value} {qs:List (EntP×Value)}
theorem IxV.ref (h:IxV w hs lo px s ns es ta cb eb vb g ts G) (hr:RefV w hs' lo' rx s' idx es' ta' cb' nv lv qs) (hm:Mv (·=rx) w w') (h1:rx≠px) (h2:hs≤rx) (h3:rx<lo):IxV w' hs lo px s ns es ta cb eb vb g ts G:=
 h.mv hm fun k hk=>by
  have e:k=rx:=hk
  subst e
  have hmap:∀es c,w.heap[k]?≠some (.map es c):=fun es c e=>by
   have:=hr.c0
   unfold World.cell? at this
   dsimp only at this
   rw[e]at this
   cases this
  refine ⟨fun e=>?_,fun hS=>?_,.inr ⟨h1,h2,h3⟩⟩
  ·subst e
   obtain ⟨es,c,e⟩:=h.vl.top.isMap
   exact hmap es c e
  ·obtain ⟨es,c,e⟩:=h.allMap k hS
   exact hmap es c e
theorem cell_off {S:Nat→Prop} (hm:Mv S w w') {b i:Nat} {u:Value} (hb:¬S b) (h:w.cell? ⟨b,i,none⟩=some u):w'.cell? ⟨b,i,none⟩=some u:=by
 rw[World.cell?_of_block (hm.block _ (World.block_lt_of_cell? _ _ h) hb)]
 exact h
theorem EntsV.keepP {hi:Nat} {v:Value} {l:List EntP} (h:EntsV w hi v l) (hc:∀b off u,b<hi→w.cell? ⟨b,off,none⟩=some u→w'.cell? ⟨b,off,none⟩=some u):EntsV w' hi v l:=
 SlV.imp (SlV.keepC h hc) fun _ _ ⟨v,e,p⟩=>⟨v,e,AttsV.keepC p hc⟩
theorem below_ref {lo0:Nat} {w0:World} (hb0:Below lo0 w0 w) (h:Mv (·=rx) w w') (hlo:lo0≤rx) (hz:lo0≤w.heap.size):Below lo0 w0 w':=hb0.trans (h.below (fun j hj=>by have e:j=rx:=hj;omega) hz)
end
end Go.Proofs.YtbkkchhimhlhcaaGreatDoor
/- identityref11: union, both, either, Candidates. -/
namespace Go.Proofs.YtbkkchhimhlhcaaGreatDoor
open Go.RowKit Go.Sort
open Idn (L B Bs drop_L take_L size_L)
theorem uni_nil (a:List Bs):refUni a []=a:=by cases a<;>simp[refUni]
theorem r11_union_any (u v : Value) (a b : List Bs) (w : World) (SA : StrsV w w.heap.size u a) (SB : StrsV w w.heap.size v b) (ha : a.length ≤ 1000000) (hb0 : b.length ≤ 1000000) (hax : ∀ x ∈ a, x.length ≤ 1000000) (hbx : ∀ x ∈ b, x.length ≤ 1000000) :
  Calls Tryz.prog 146 #[u,v] w fun e w'=>∃x,e=.returned x∧w'.ownsRow w.heap.size 9 1 x (refUni a b).length ((refUni a b).map sv)∧Below w.heap.size w w':=by
 obtain ⟨R,hR⟩:∃R,R=refUni a b:=⟨_,rfl⟩
 rw[←hR]
 have HR:Hid (R=[]++refUni (a.drop 0) (b.drop 0)):=hR
 clear hR
 obtain ⟨A1,c1,rfl,_⟩:=SlV.shape SA
 obtain ⟨A2,c2,rfl,_⟩:=SlV.shape SB
 go_enter Tryz.func146,Tryz.ntmps146
 go_wp2_with fail
 go_loopw [5,6,7,20,52] (fun ov i j _ _ wr=>∃(m n:Nat) (out:List Bs),m≤a.length∧n≤b.length∧i=.int .i64 m∧j=.int .i64 n∧wr.ownsRow w.heap.size 9 1 ov out.length (out.map sv)∧out.length≤m+n∧Below w.heap.size w wr∧Hid (R=out++refUni (a.drop m) (b.drop n))) (fun _ i j _ _ _=>(a.length-(intOf i).toNat)+(b.length-(intOf j).toNat))
 case atStart=>exact ⟨0,0,[],Nat.zero_le _,Nat.zero_le _,rfl,rfl,World.ownsRow_nil _ _ _ _,Nat.zero_le _,Below.refl _ _,HR⟩
 case round=>
  obtain ⟨m,n,out,hm,hn,rfl,rfl,hown,hol,hb,hinv⟩:=hrel
  clear HR
  obtain ⟨A5,c5,hsh⟩:=own_shape hown
  subst hsh
  by_cases hlm:m<a.length
  ·have hlmI:(m:Int)<(a.length:Int):=by omega
   have hlmE:((m:Int)==(a.length:Int))=false:=by simp;omega
   obtain ⟨b1,off1,hAd,_,d0⟩:=StrsV.cell (SlV.mono (SlV.keep SA hb) hb.size) hlm
   subst hAd
   have hxl:=hax _ (List.getElem_mem hlm)
   by_cases hln:n<b.length
   ·have hlnI:(n:Int)<(b.length:Int):=by omega
    have hlnE:((n:Int)==(b.length:Int))=false:=by simp;omega
    obtain ⟨b2,off2,hAd,_,d1⟩:=StrsV.cell (SlV.mono (SlV.keep SB hb) hb.size) hln
    subst hAd
    have hyl:=hbx _ (List.getElem_mem hln)
    have kc:=fun W=>r5_Compare_any (B a[m]) (B b[n]) W (by rw[Idn.size_B];omega) (by rw[Idn.size_B];omega)
    simp only[Idn.L_B]at kc
    have hst:Hid (R=out++(if cmpNm a[m] b[n]<0 then a[m] :: refUni (a.drop (m+1)) (b.drop n)else if 0<cmpNm a[m] b[n]then b[n] :: refUni (a.drop m) (b.drop (n+1))else refUni (a.drop (m+1)) (b.drop n))):=by
     show _=_
     rw[hinv.out]
     congr 1
     conv=>lhs;rw[List.drop_eq_getElem_cons hlm,List.drop_eq_getElem_cons hln,refUni]
     rw[←List.drop_eq_getElem_cons hlm,←List.drop_eq_getElem_cons hln]
    generalize cmpNm a[m] b[n]=cm at *
    generalize a[m]=x at *
    generalize b[n]=y at *
    have q1:=cq (W:=wr) fun V _=>kc V
    have i0:=cell_regrown d0
    have i1:=cell_regrown d1
    clear hinv
    go_wp2_with fail
    refine wp_region_quiet_below (by kernel_rfl) (by kernel_rfl) ?_
    repeat (first|go_big_quiet_step ((go_at_call 66;exact q1 _ _))|quiet_step ((go_at_call 66;exact q1 _ _)))
    refine wpQuiet_nil ?_
    intro _ hw'
    obtain ⟨⟨dq,osq⟩,hw''⟩:=hw'
    subst hw''
    have hb4:=below_regrown wr dq osq
    generalize grow (redrawn wr dq) osq=W4 at hb4⊢
    clear q1 i0 i1
    have hb14:=hb.trans (hb4.mono hb.size)
    replace d0:=cell_later hb4 d0
    replace d1:=cell_later hb4 d1
    have hown4:=own_below hown hb4
    clear hown hb4 hb
    by_cases hc1:cm<0
    ·have HF:Hid (R=(out++[x])++refUni (a.drop (m+1)) (b.drop n)):=by show _=_;rw[hst.out,if_pos hc1,List.append_assoc];rfl
     clear hst kc d1
     go_wp2_with (at_builtin;refine wpList_push W4 rfl _ _ 26 rfl w.heap.size 9 (.string ⟨#[]⟩) 1 16 Tryz.underlying26 info_str rfl (by decide) _ _ _ hown4 rfl [.string (B x)] rfl rfl (by intro u hu;simp at hu;subst hu;rfl) (by omega) hb14.size ?_ rfl)
     intro v' w7 hown7 hg7 hat7 hb7 _
     go_wp2_with fail
     go_roundw
     case rel=>exact ⟨m+1,n,out++[x],by omega,by omega,by go_num,by go_num,by rw[List.length_append,List.map_append];exact hown7,by rw[List.length_append];simp;omega,hb14.trans hb7,HF⟩
     case measure=>simp[intOf];omega
    ·have hc1':¬cm<0:=hc1
     have q2:=cq (W:=W4) fun V _=>kc V
     have i0:=cell_regrown d0
     have i1:=cell_regrown d1
     clear kc
     go_wp2_with fail
     refine wp_region_quiet_below (by kernel_rfl) (by kernel_rfl) ?_
     repeat (first|go_big_quiet_step ((go_at_call 66;exact q2 _ _))|quiet_step ((go_at_call 66;exact q2 _ _)))
     refine wpQuiet_nil ?_
     intro _ hw'
     obtain ⟨⟨dq,osq⟩,hw''⟩:=hw'
     subst hw''
     have hb5:=below_regrown W4 dq osq
     generalize grow (redrawn W4 dq) osq=W5 at hb5⊢
     clear q2 i0 i1
     have hb15:=hb14.trans (hb5.mono hb14.size)
     replace d1:=cell_later hb5 d1
     have hown5:=own_below hown4 hb5
     clear hown4 hb5 hb14 d0
     by_cases hc2:0<cm
     ·have HF:Hid (R=(out++[y])++refUni (a.drop m) (b.drop (n+1))):=by show _=_;rw[hst.out,if_neg (by omega),if_pos (by omega),List.append_assoc];rfl
      clear hst
      go_wp2_with (at_builtin;refine wpList_push W5 rfl _ _ 26 rfl w.heap.size 9 (.string ⟨#[]⟩) 1 16 Tryz.underlying26 info_str rfl (by decide) _ _ _ hown5 rfl [.string (B y)] rfl rfl (by intro u hu;simp at hu;subst hu;rfl) (by omega) hb15.size ?_ rfl)
      intro v' w7 hown7 hg7 hat7 hb7 _
      go_wp2_with fail
      go_roundw
      case rel=>exact ⟨m,n+1,out++[y],by omega,by omega,by go_num,by go_num,by rw[List.length_append,List.map_append];exact hown7,by rw[List.length_append];simp;omega,hb15.trans hb7,HF⟩
      case measure=>simp[intOf];omega
     ·have HF:Hid (R=out++refUni (a.drop (m+1)) (b.drop n)):=by show _=_;rw[hst.out,if_neg (by omega),if_neg (by omega)]
      clear hst
      go_wp2_with fail
      go_roundw
      case rel=>exact ⟨m+1,n,out,by omega,hn,by go_num,by go_num,hown5,by omega,hb15,HF⟩
      case measure=>simp[intOf];omega
   ·have hne:n=b.length:=by omega
    subst hne
    have hlnI:¬(b.length:Int)<(b.length:Int):=by omega
    have hst:Hid (R=(out++[a[m]])++refUni (a.drop (m+1)) (b.drop b.length)):=by
     show _=_
     rw[hinv.out,List.drop_length,uni_nil,uni_nil,List.drop_eq_getElem_cons hlm,List.append_assoc]
     rfl
    generalize a[m]=x at *
    have HF:=hst
    have hb14':=hb
    clear hinv hst
    go_wp2_with fail
    refine wp_region_quiet_below (by kernel_rfl) (by kernel_rfl) ?_
    repeat (first|go_big_quiet_step ((fail))|quiet_step ((fail)))
    refine wpQuiet_nil ?_
    intro _ hw'
    obtain ⟨⟨dq,osq⟩,hw''⟩:=hw'
    subst hw''
    have hb4:=below_regrown wr dq osq
    generalize grow (redrawn wr dq) osq=W4 at hb4⊢
    have hb14:=hb.trans (hb4.mono hb.size)
    replace d0:=cell_later hb4 d0
    have hown4:=own_below hown hb4
    clear hown hb4 hb hb14'
    go_wp2_with (at_builtin;refine wpList_push W4 rfl _ _ 26 rfl w.heap.size 9 (.string ⟨#[]⟩) 1 16 Tryz.underlying26 info_str rfl (by decide) _ _ _ hown4 rfl [.string (B x)] rfl rfl (by intro u hu;simp at hu;subst hu;rfl) (by omega) hb14.size ?_ rfl)
    intro v' w7 hown7 hg7 hat7 hb7 _
    go_wp2_with fail
    go_roundw
    case rel=>exact ⟨m+1,b.length,out++[x],by omega,by omega,by go_num,by go_num,by rw[List.length_append,List.map_append];exact hown7,by rw[List.length_append];simp;omega,hb14.trans hb7,HF⟩
    case measure=>simp[intOf];omega
  ·have hme:m=a.length:=by omega
   subst hme
   have hlmI:¬(a.length:Int)<(a.length:Int):=by omega
   by_cases hln:n<b.length
   ·have hlnI:(n:Int)<(b.length:Int):=by omega
    have hlnE:((n:Int)==(b.length:Int))=false:=by simp;omega
    obtain ⟨b2,off2,hAd,_,d1⟩:=StrsV.cell (SlV.mono (SlV.keep SB hb) hb.size) hln
    subst hAd
    have hyl:=hbx _ (List.getElem_mem hln)
    have HF:Hid (R=(out++[b[n]])++refUni (a.drop a.length) (b.drop (n+1))):=by
     show _=_
     rw[hinv.out,List.drop_length,List.drop_eq_getElem_cons hln,refUni,List.append_assoc]
     rfl
    generalize b[n]=y at *
    clear hinv
    go_wp2_with fail
    refine wp_region_quiet_below (by kernel_rfl) (by kernel_rfl) ?_
    repeat (first|go_big_quiet_step ((fail))|quiet_step ((fail)))
    refine wpQuiet_nil ?_
    intro _ hw'
    obtain ⟨⟨dq,osq⟩,hw''⟩:=hw'
    subst hw''
    have hb4:=below_regrown wr dq osq
    generalize grow (redrawn wr dq) osq=W4 at hb4⊢
    have hb14:=hb.trans (hb4.mono hb.size)
    replace d1:=cell_later hb4 d1
    have hown4:=own_below hown hb4
    clear hown hb4 hb
    go_wp2_with fail
    refine wp_region_quiet_below (by kernel_rfl) (by kernel_rfl) ?_
    repeat (first|go_big_quiet_step ((fail))|quiet_step ((fail)))
    refine wpQuiet_nil ?_
    intro _ hw'
    obtain ⟨⟨dq,osq⟩,hw''⟩:=hw'
    subst hw''
    have hb5:=below_regrown W4 dq osq
    generalize grow (redrawn W4 dq) osq=W5 at hb5⊢
    have hb15:=hb14.trans (hb5.mono hb14.size)
    replace d1:=cell_later hb5 d1
    have hown5:=own_below hown4 hb5
    clear hown4 hb5 hb14
    go_wp2_with (at_builtin;refine wpList_push W5 rfl _ _ 26 rfl w.heap.size 9 (.string ⟨#[]⟩) 1 16 Tryz.underlying26 info_str rfl (by decide) _ _ _ hown5 rfl [.string (B y)] rfl rfl (by intro u hu;simp at hu;subst hu;rfl) (by omega) hb15.size ?_ rfl)
    intro v' w7 hown7 hg7 hat7 hb7 _
    go_wp2_with fail
    go_roundw
    case rel=>exact ⟨a.length,n+1,out++[y],by omega,by omega,by go_num,by go_num,by rw[List.length_append,List.map_append];exact hown7,by rw[List.length_append];simp;omega,hb15.trans hb7,HF⟩
    case measure=>simp[intOf];omega
   ·have hne:n=b.length:=by omega
    subst hne
    have hlnI:¬(b.length:Int)<(b.length:Int):=by omega
    have HF:Hid (R=out):=by show _=_;rw[hinv.out,List.drop_length,List.drop_length,uni_nil,List.append_nil]
    clear hinv
    go_wp2_with fail
    go_ret
    exact ⟨_,rfl,by rw[HF.out];exact hown,hb⟩
theorem CdE.uni {es:List IxE} (h:OkE es) {a b:List Bs} (ha:CdE es a) (hb:CdE es b):CdE es (refUni a b):=by
 have va:∀x∈a,validN x=true:=fun x hx=>h.valN x (ha.2 x hx)
 have vb:∀x∈b,validN x=true:=fun x hx=>h.valN x (hb.2 x hx)
 exact ⟨refUni_srt a b va vb ha.1 hb.1,fun x hx=>((refUni_mem a b va vb).1 hx).elim (ha.2 x) (hb.2 x)⟩
theorem refCands_map (s:Idn.Sch) (idx:List Bs) (es:List IxE):∀ks:List Flt,refCands s idx es ks=ks.map (refCand s idx es)
 |[]=>by rw[refCands];rfl
 |f :: l=>by rw[refCands,refCands_map s idx es l];rfl
theorem refCand_unf (s : Idn.Sch) (idx : List Bs) (es : List IxE) (f : Flt) : refCand s idx es f = if f.kind = 1 then bestC (f.kids.map (refCand s idx es)) ([], false) else if f.kind = 2 then refEither (f.kids.map (refCand s idx es)) [] else if f.kind = 4 then refFind s idx es f.name f.value else if f.kind = 7 then ixPres idx es f.name
  else if f.kind=5 then (if f.value.isEmpty then ([],idx.contains (Idn.lower f.name))else refRange s idx es f.name f.value [])else if f.kind=6 then (if f.value.isEmpty then ([],idx.contains (Idn.lower f.name))else refRange s idx es f.name [] f.value)else ([],false):=by
 cases f
 rw[refCand,refCands_map]
 rfl
theorem refC_ok {s:Idn.Sch} {idx:List Bs} {es:List IxE} (h:OkE es) (f:Flt):CdE es (refCand s idx es f).1:=by rw[refCand_eq h];exact cand_ok h f
theorem r11_both_any (C : Flt → List Bs × Bool) (px d : Nat) (v : Value) (l : List Flt) (w : World) (hk : FltsV w w.heap.size d v l) (hl : l.length ≤ 1000)
  (hc:0<d→∀g∈l,∀W vg,Below w.heap.size w W→FltV W W.heap.size (d-1) vg g→Calls Tryz.prog 19 #[.pointer (some ⟨px,0,none⟩),vg] W (RetC W (C g))) :
  Calls Tryz.prog 72 #[.pointer (some ⟨px,0,none⟩),v] w (RetC w (bestC (l.map C) ([],false))):=by
 obtain ⟨A,c,rfl,_⟩:=SlV.shape hk
 obtain ⟨r,hr⟩:∃r,r=bestC (l.map C) ([],false):=⟨_,rfl⟩
 rw[←hr]
 have HF:Hid (r=bestC ((l.drop 0).map C) ([],false)):=hr
 clear hr
 go_enter Tryz.func72,Tryz.ntmps72
 go_wp2_with fail
 go_loopw [6,7,8,9,10] (fun bv sm i _ _ wr=>∃(k:Nat) (b:List Bs×Bool),k≤l.length∧i=.int .i64 k∧sm=.bool b.2∧wr.ownsRow w.heap.size 9 1 bv b.1.length (b.1.map sv)∧Below w.heap.size w wr∧Hid (r=bestC ((l.drop k).map C) b)) (fun _ _ i _ _ _=>l.length-(intOf i).toNat)
 case atStart=>exact ⟨0,([],false),Nat.zero_le _,rfl,rfl,World.ownsRow_nil _ _ _ _,Below.refl _ _,HF⟩
 case round=>
  obtain ⟨k,⟨bl,bt⟩,hk9,rfl,rfl,hown,hb,hinv⟩:=hrel
  clear HF
  obtain ⟨Ab,cb,hsh⟩:=own_shape hown
  dsimp only at hsh hown hinv
  subst hsh
  by_cases hlt:k<l.length
  ·obtain ⟨g,off,Ap',cp',Ak',ck',hA,hg,c0,c1,c2,c3,c4,hd,hkid⟩:=FltsV.kid2 (FltsV.keep hk hb) hlt
   subst hA
   have hltI:(k:Int)<(l.length:Int):=by omega
   have hmem:=List.getElem_mem hlt
   have HT:Hid (r=bestC ((l.drop (k+1)).map C) (if (C l[k]).2&&(!bt||decide ((C l[k]).1.length<bl.length))then ((C l[k]).1,true)else (bl,bt))):=by show _=_;rw[hinv.out,bestC_step hlt]
   clear hinv
   have hcall:=hc hd l[k] hmem wr _ hb (FltV.mono hkid hb.size)
   clear hkid hc hk
   generalize C l[k]=cc at *
   obtain ⟨cl,ct⟩:=cc
   dsimp only at HT
   go_wp2_with fail
   refine hcall.mono ?_
   rintro e w6 ⟨u,rfl,hownu,hb6⟩
   obtain ⟨Au,cu,hsh⟩:=own_shape hownu
   dsimp only at hsh hownu
   subst hsh
   clear hcall c0 c1 c2 c3 c4
   have hown6:=own_below hown hb6
   have hb06:=hb.trans (hb6.mono hb.size)
   have hownu6:=own_lower hownu hb.size
   clear hownu hown
   have hkeep:Hid (r=bestC ((l.drop (k+1)).map C) (bl,bt))∧(ct&&(!bt||decide (((cl.length:Nat):Int)<((bl.length:Nat):Int))))=false∨Hid (r=bestC ((l.drop (k+1)).map C) (cl,true))∧(ct&&(!bt||decide (((cl.length:Nat):Int)<((bl.length:Nat):Int))))=true:=by
    have e:decide (((cl.length:Nat):Int)<((bl.length:Nat):Int))=decide (cl.length<bl.length):=by simp
    rw[e]
    cases hx:(ct&&(!bt||decide (cl.length<bl.length)))with
    |false=>exact .inl ⟨by show _=_;rw[HT.out,hx];rfl,rfl⟩
    |true=>exact .inr ⟨by show _=_;rw[HT.out,hx];rfl,rfl⟩
   clear HT
   cases ct
   ·rcases hkeep with ⟨HV,_⟩|⟨_,h⟩
    ·go_wp2_with fail
     go_roundw
     case rel=>exact ⟨k+1,(bl,bt),by omega,by go_num,rfl,hown6,hb06,HV⟩
     case measure=>simp[intOf];omega
    ·cases h
   ·cases bt
    ·rcases hkeep with ⟨_,h⟩|⟨HV,_⟩
     ·cases h
     ·go_wp2_with fail
      go_roundw
      case rel=>exact ⟨k+1,(cl,true),by omega,by go_num,rfl,hownu6,hb06,HV⟩
      case measure=>simp[intOf];omega
    ·by_cases hl2:((cl.length:Nat):Int)<((bl.length:Nat):Int)
     ·rcases hkeep with ⟨_,h⟩|⟨HV,_⟩
      ·rw[decide_eq_true hl2]at h;cases h
      ·go_wp2_with fail
       go_roundw
       case rel=>exact ⟨k+1,(cl,true),by omega,by go_num,rfl,hownu6,hb06,HV⟩
       case measure=>simp[intOf];omega
     ·rcases hkeep with ⟨HV,_⟩|⟨_,h⟩
      ·go_wp2_with fail
       go_roundw
       case rel=>exact ⟨k+1,(bl,true),by omega,by go_num,rfl,hown6,hb06,HV⟩
       case measure=>simp[intOf];omega
      ·rw[decide_eq_false hl2]at h;cases h
  ·have hltI:¬(k:Int)<(l.length:Int):=by omega
   have HV:Hid (r=(bl,bt)):=by show _=_;rw[hinv.out,List.drop_eq_nil_of_le (by omega)];rfl
   clear hinv
   go_wp2_with fail
   go_ret2
   rw[HV.out]
   exact ⟨_,rfl,hown,hb⟩
theorem either_step {C : Flt → List Bs × Bool} {l : List Flt} {k : Nat} (h : k < l.length) (out : List Bs) :
  refEither ((l.drop k).map C) out=if !(C l[k]).2 then ([],false)else refEither ((l.drop (k+1)).map C) (refUni out (C l[k]).1):=by
 rw[List.drop_eq_getElem_cons h,List.map_cons,refEither]
theorem r11_either_any (C : Flt → List Bs × Bool) (es : List IxE) (hok : OkE es) (hel : es.length ≤ 256) (hn6 : ∀ e ∈ es, e.1.length ≤ 1000000) (px d : Nat) (v : Value) (l : List Flt) (w : World) (hk : FltsV w w.heap.size d v l) (hl : l.length ≤ 1000) (hC : ∀ g ∈ l, CdE es (C g).1)
    (hc:0<d→∀g∈l,∀W vg,Below w.heap.size w W→FltV W W.heap.size (d-1) vg g→Calls Tryz.prog 19 #[.pointer (some ⟨px,0,none⟩),vg] W (RetC W (C g))) :
    Calls Tryz.prog 73 #[.pointer (some ⟨px,0,none⟩),v] w (RetC w (refEither (l.map C) [])):=by
 have hcl:∀t,CdE es t→t.length≤1000000:=fun t ht=>by have:=ht.len hok;omega
 have hcn:∀t,CdE es t→∀x∈t,x.length≤1000000:=fun t ht x hx=>by
  obtain ⟨e,he,rfl⟩:=List.mem_map.1 (ht.2 x hx)
  exact hn6 e he
 obtain ⟨A,c,rfl,_⟩:=SlV.shape hk
 obtain ⟨r,hr⟩:∃r,r=refEither (l.map C) []:=⟨_,rfl⟩
 rw[←hr]
 have HF:Hid (r=refEither ((l.drop 0).map C) []):=hr
 clear hr
 go_enter Tryz.func73,Tryz.ntmps73
 go_wp2_with fail
 go_loopw [6,7,8,9] (fun ov i _ _ wr=>∃(k:Nat) (out:List Bs),k≤l.length∧i=.int .i64 k∧wr.ownsRow w.heap.size 9 1 ov out.length (out.map sv)∧Below w.heap.size w wr∧Hid (CdE es out)∧Hid (r=refEither ((l.drop k).map C) out)) (fun _ i _ _ _=>l.length-(intOf i).toNat)
 case atStart=>exact ⟨0,[],Nat.zero_le _,rfl,World.ownsRow_nil _ _ _ _,Below.refl _ _,CdE.nil es,HF⟩
 case round=>
  obtain ⟨k,out,hk9,rfl,hown,hb,hco,hinv⟩:=hrel
  clear HF
  obtain ⟨Ab,cb,hsh⟩:=own_shape hown
  subst hsh
  by_cases hlt:k<l.length
  ·obtain ⟨g,off,Ap',cp',Ak',ck',hA,hg,c0,c1,c2,c3,c4,hd,hkid⟩:=FltsV.kid2 (FltsV.keep hk hb) hlt
   subst hA
   have hltI:(k:Int)<(l.length:Int):=by omega
   have hmem:=List.getElem_mem hlt
   have HT:Hid (r=if !(C l[k]).2 then ([],false)else refEither ((l.drop (k+1)).map C) (refUni out (C l[k]).1)):=by show _=_;rw[hinv.out,either_step hlt]
   clear hinv
   have hCk:=Lib.hid (hC _ hmem)
   have hcall:=hc hd l[k] hmem wr _ hb (FltV.mono hkid hb.size)
   clear hkid hc hk hC
   generalize C l[k]=cc at *
   obtain ⟨cl,ct⟩:=cc
   dsimp only at HT hCk
   go_wp2_with fail
   refine hcall.mono ?_
   rintro e w6 ⟨u,rfl,hownu,hb6⟩
   obtain ⟨Au,cu,hsh⟩:=own_shape hownu
   dsimp only at hsh hownu
   subst hsh
   clear hcall c0 c1 c2 c3 c4
   have hown6:=own_below hown hb6
   have hb06:=hb.trans (hb6.mono hb.size)
   cases ct with
   |false=>
    have HV:Hid (r=([],false)):=HT.out
    clear HT hownu hown
    go_wp2_with fail
    go_ret2
    rw[HV.out]
    exact RetC.nil hb06
   |true=>
    have HV:Hid (r=refEither ((l.drop (k+1)).map C) (refUni out cl)):=HT.out
    have hcu:=Lib.hid (CdE.uni hok hco.out hCk.out)
    have hu:=r11_union_any _ _ out cl w6 (StrsV.of_own hown6) (StrsV.of_own hownu) (hcl _ hco.out) (hcl _ hCk.out) (hcn _ hco.out) (hcn _ hCk.out)
    clear HT hownu hown hown6
    go_wp2_with fail
    refine hu.mono ?_
    rintro e w7 ⟨x,rfl,hownx,hb7⟩
    obtain ⟨Ax,cx,hsh⟩:=own_shape hownx
    subst hsh
    clear hu
    go_wp2_with fail
    go_roundw
    case rel=>exact ⟨k+1,refUni out cl,by omega,by go_num,own_lower hownx hb06.size,hb06.trans (hb7.mono hb06.size),hcu,HV⟩
    case measure=>simp[intOf];omega
  ·have hltI:¬(k:Int)<(l.length:Int):=by omega
   have HV:Hid (r=(out,true)):=by show _=_;rw[hinv.out,List.drop_eq_nil_of_le (by omega)];rfl
   clear hinv hco
   go_wp2_with fail
   go_ret2
   rw[HV.out]
   exact ⟨_,rfl,hown,hb⟩
section
variable {w w':World} {hs lo rx:Nat} {s:Idn.Sch} {idx:List Bs} {es:List IxE} {ta cb nv lv:Value} {qs:List (EntP×Value)}
theorem r11_cand_any (hbd : BdR s idx es) (hok : OkE es) : ∀ (d : Nat) (v : Value) (f : Flt) (w : World), RefV w hs lo rx s idx es ta cb nv lv qs → FltV w w.heap.size d v f → FSm 1000 f →
    Calls Tryz.prog 19 #[.pointer (some ⟨rx,0,none⟩),v] w (RetC w (refCand s idx es f)):=by
 intro d
 induction d using Nat.strongRecOn with
 |_ d ih=>
 intro v f w hI hv hsm
 have hks:=hsm.kids
 have hkl:=hks.len
 obtain ⟨o1,o2,_,_⟩:=fOk_own hsm.2
 obtain ⟨Ap,cp,Ak,ck,rfl,hp,hk⟩:=hv.shape
 have kF:=fun W (hW:Below w.heap.size w W)=>r11_Find_any (hI.keep hW) hbd (B f.name) (B f.value) (by rw[Idn.size_B];omega) (by rw[Idn.size_B];omega)
 have kR1:=fun W (hW:Below w.heap.size w W)=>r11_Range_any (hI.keep hW) hbd (B f.name) (B f.value) ⟨#[]⟩ (by rw[Idn.size_B];omega) (by rw[Idn.size_B];omega) (by decide)
 have kR2:=fun W (hW:Below w.heap.size w W)=>r11_Range_any (hI.keep hW) hbd (B f.name) ⟨#[]⟩ (B f.value) (by rw[Idn.size_B];omega) (by decide) (by rw[Idn.size_B];omega)
 have kI:=fun W (hW:Below w.heap.size w W)=>r11_indexed_any (hI.keep hW) (B f.name) (by rw[Idn.size_B];omega) hbd.ixl
 have kP:=fun W (hW:Below w.heap.size w W)=>r11_present_any (hI.keep hW) hbd (B f.name) (by rw[Idn.size_B];omega)
 have kC:=fun W (hW:Below w.heap.size w W) (hd:0<d) g (hg:g∈f.kids) V vg (hV:Below W.heap.size W V) (hvg:FltV V V.heap.size (d-1) vg g)=>ih (d-1) (by omega) vg g V (hI.keep (hW.trans (hV.mono hW.size))) hvg (hks.mem hg)
 have kA:=fun W (hW:Below w.heap.size w W)=>r11_both_any (refCand s idx es) rx d _ f.kids W (FltsV.on hk hW) (by omega) (kC W hW)
 have kS:=fun W (hW:Below w.heap.size w W)=>r11_either_any (refCand s idx es) es hok hbd.len hbd.nam rx d _ f.kids W (FltsV.on hk hW) (by omega) (fun g _=>refC_ok hok g) (kC W hW)
 have hze:L ⟨#[]⟩=[]:=rfl
 simp only[Idn.L_B,hze]at kF kR1 kR2 kI kP
 have hte:(B f.value).toList.isEmpty=f.value.isEmpty:=by rw[toList_L,Idn.L_B]
 have hr:=refCand_unf s idx es f
 have c4:=hI.c4
 generalize refCand s idx es f=r at *
 generalize refFind s idx es f.name f.value=r1 at *
 generalize refRange s idx es f.name f.value []=r2 at *
 generalize refRange s idx es f.name [] f.value=r6 at *
 generalize ixPres idx es f.name=r3 at *
 generalize bestC (f.kids.map (refCand s idx es)) ([],false)=r4 at *
 generalize refEither (f.kids.map (refCand s idx es)) []=r5 at *
 generalize idx.contains (Idn.lower f.name)=ic at *
 have HR:=Lib.hid hr
 clear hr hze
 generalize f.kind=kd at *
 clear kC hI hv hsm hks ih hp hk hbd o1 o2
 go_enter Tryz.func19,Tryz.ntmps19
 go_upto_region 1 with fail
 with_reducible refine gen1 (R:=fun W=>Code.wp Tryz.prog _ _ _ W) ?_
 intro W hb hszW hc _
 have b0:W.cell? ⟨w.heap.size,0,none⟩=some (.int .i64 kd):=hc 0 _ rfl
 have b1:W.cell? ⟨w.heap.size,1,none⟩=some (.string (B f.name)):=hc 1 _ rfl
 have b2:W.cell? ⟨w.heap.size,2,none⟩=some (.string (B f.value)):=hc 2 _ rfl
 have b3:W.cell? ⟨w.heap.size,3,none⟩=some (.slice Ap f.parts.length cp):=hc 3 _ rfl
 have b4:W.cell? ⟨w.heap.size,4,none⟩=some (.slice Ak f.kids.length ck):=hc 4 _ rfl
 replace c4:=cell_later hb c4
 replace kF:=kF W hb
 replace kR1:=kR1 W hb
 replace kR2:=kR2 W hb
 replace kI:=kI W hb
 replace kP:=kP W hb
 replace kA:=kA W hb
 replace kS:=kS W hb
 clear hc hszW
 by_cases h1:kd=1
 ·subst h1
  have HF:Hid (r=r4):=HR.out
  clear HR kF kR1 kR2 kI kP kS
  go_wp2_with fail
  refine kA.mono ?_
  rintro e w2 ⟨u,rfl,hown,hb2⟩
  go_wp2_with fail
  go_ret2
  rw[HF.out]
  exact ⟨u,rfl,own_lower hown hb.size,hb.trans (hb2.mono hb.size)⟩
 by_cases h2:kd=2
 ·subst h2
  have HF:Hid (r=r5):=HR.out
  clear HR kF kR1 kR2 kI kP kA h1
  go_wp2_with fail
  refine kS.mono ?_
  rintro e w2 ⟨u,rfl,hown,hb2⟩
  go_wp2_with fail
  go_ret2
  rw[HF.out]
  exact ⟨u,rfl,own_lower hown hb.size,hb.trans (hb2.mono hb.size)⟩
 by_cases h4:kd=4
 ·subst h4
  have HF:Hid (r=r1):=HR.out
  clear HR kR1 kR2 kI kP kA kS h1 h2
  go_wp2_with fail
  refine kF.mono ?_
  rintro e w2 ⟨u,rfl,hown,hb2⟩
  go_wp2_with fail
  go_ret2
  rw[HF.out]
  exact ⟨u,rfl,own_lower hown hb.size,hb.trans (hb2.mono hb.size)⟩
 by_cases h7:kd=7
 ·subst h7
  have HF:Hid (r=r3):=HR.out
  clear HR kF kR1 kR2 kI kA kS h1 h2 h4
  go_wp2_with fail
  refine kP.mono ?_
  rintro e w2 ⟨u,rfl,hown,hb2⟩
  go_wp2_with fail
  go_ret2
  rw[HF.out]
  exact ⟨u,rfl,own_lower hown hb.size,hb.trans (hb2.mono hb.size)⟩
 by_cases h5:kd=5
 ·subst h5
  have HF:Hid (r=if f.value.isEmpty then ([],ic)else r2):=HR.out
  clear HR kF kP kA kS h1 h2 h4 h7
  generalize f.value.isEmpty=ve at *
  cases ve with
  |true=>
   have HG:Hid (r=([],ic)):=HF.out
   clear HF kR1 kR2
   go_wp2_with fail
   refine kI.mono ?_
   rintro e w2 ⟨rfl,hb2⟩
   go_wp2_with fail
   go_ret2
   rw[HG.out]
   exact RetC.nil (hb.trans (hb2.mono hb.size))
  |false=>
   have HG:Hid (r=r2):=HF.out
   clear HF kI
   go_wp2_with fail
   refine kR1.mono ?_
   rintro e w2 ⟨u,rfl,hown,hb2⟩
   go_wp2_with fail
   go_ret2
   rw[HG.out]
   exact ⟨u,rfl,own_lower hown hb.size,hb.trans (hb2.mono hb.size)⟩
 by_cases h6:kd=6
 ·subst h6
  have HF:Hid (r=if f.value.isEmpty then ([],ic)else r6):=HR.out
  clear HR kF kP kA kS h1 h2 h4 h5 h7
  generalize f.value.isEmpty=ve at *
  cases ve with
  |true=>
   have HG:Hid (r=([],ic)):=HF.out
   clear HF kR1 kR2
   go_wp2_with fail
   refine kI.mono ?_
   rintro e w2 ⟨rfl,hb2⟩
   go_wp2_with fail
   go_ret2
   rw[HG.out]
   exact RetC.nil (hb.trans (hb2.mono hb.size))
  |false=>
   have HG:Hid (r=r6):=HF.out
   clear HF kI
   go_wp2_with fail
   refine kR2.mono ?_
   rintro e w2 ⟨u,rfl,hown,hb2⟩
   go_wp2_with fail
   go_ret2
   rw[HG.out]
   exact ⟨u,rfl,own_lower hown hb.size,hb.trans (hb2.mono hb.size)⟩
 have HF:Hid (r=([],false)):=by show _=_;rw[HR.out,if_neg h1,if_neg h2,if_neg h4,if_neg h7,if_neg h5,if_neg h6]
 have e1:(kd==1)=false:=beq_eq_false_iff_ne.2 h1
 have e2:(kd==2)=false:=beq_eq_false_iff_ne.2 h2
 have e4:(kd==4)=false:=beq_eq_false_iff_ne.2 h4
 have e5:(kd==5)=false:=beq_eq_false_iff_ne.2 h5
 have e6:(kd==6)=false:=beq_eq_false_iff_ne.2 h6
 have e7:(kd==7)=false:=beq_eq_false_iff_ne.2 h7
 clear HR kF kR1 kR2 kI kP kA kS
 go_wp2_with fail
 go_ret2
 rw[HF.out]
 exact RetC.nil hb
end
end Go.Proofs.YtbkkchhimhlhcaaGreatDoor
/- law11: IndexCandidates. -/
namespace Go.Proofs.YtbkkchhimhlhcaaGreatDoor
open Go.RowKit Go.Sort
open Idn (L B Bs drop_L take_L size_L)
theorem indexCandidates_any (sv0 : Value) (s : Idn.Sch) (nv : Value) (ns : List Bs) (ev pv kv : Value) (es : List EntP) (d : Nat) (f : Flt) (w : World) (hS : SchV w w.heap.size sv0 s) (hg : GSch s 1048576) (hN : StrsV w w.heap.size nv ns) (hgn : GS ns 1048576) (hV : EntsV w w.heap.size ev es) (hel : es.length ≤ 1048576) (hee : ∀ e ∈ es, GE e 1048576) (hF : FltV w w.heap.size d (.agg #[.int .i64 f.kind, .string (B f.name), .string (B f.value), pv, kv]) f) (hfg : fG 1048576 f) (hE : Env w) (hU : EnvU w) :
    Calls Tryz.prog 3 #[sv0,nv,.agg #[ev,.int .i64 f.kind,.string (B f.name),.string (B f.value),pv,kv]] w fun e w'=>e=.returned (.bool true)∧Below w.heap.size w w':=by
 have hEv:∀W,Below w.heap.size w W→Env W∧EnvU W:=fun W hW=>⟨hE.keep hW,hU.keep hW⟩
 have hssm:SSm s:=hg.ssm (by decide)
 have kb:=fun W (hW:Below w.heap.size w W)=>brief11_any sv0 s W (SchV.mono (SchV.keep hS hW) hW.size) ⟨by have:=hg.1.1;omega,by have:=hg.2.1;omega⟩
 have ks:=fun W (hW:Below w.heap.size w W)=>short11_any nv ns W (SlV.mono (SlV.keep hN hW) hW.size) (by have:=hgn.1;omega)
 have kr:=fun W (hW:Below w.heap.size w W)=>ready11_any ev pv kv es d f W (EntsV.mono (EntsV.keep hV hW) hW.size) (ge_elen hel hee) (hF.on hW) (fG_len (by omega) f hfg)
 have ka:=fun W (hW:Below w.heap.size w W)=>alive11_any W (hE.keep hW) (hU.keep hW)
 have kn:=fun (hbs:BriefS s) (hsh:ShortL ns) W (hW:Below w.heap.size w W)=>ixNew_any sv0 nv s ns W (SchV.mono (SchV.keep hS hW) hW.size) hssm (by have:=hbs.1.1;omega) (by have:=hbs.2.1;omega) (fun c hc=>by obtain ⟨_,_,q1,q2⟩:=hg.2.2 c hc;exact ⟨by have:=q1.1;omega,by have:=q2.1;omega⟩) (SlV.mono (SlV.keep hN hW) hW.size) (by have:=hsh.1;omega) (fun n hn=>by have:=hsh.2 n hn;omega)
 have krn:=fun (hsh:ShortL ns) W (hW:Below w.heap.size w W)=>r11_New_any sv0 nv s ns W (SchV.mono (SchV.keep hS hW) hW.size) hssm (SlV.mono (SlV.keep hN hW) hW.size) (by have:=hsh.1;omega) (fun n hn=>by have:=hsh.2 n hn;omega)
 have kC:=fun (hf:FSm 1000 f) {hs lo px eb vb:Nat} {ek:List IxE} {ta cb:Value} {g:Bs→Value} {ts:List (Bs×Nat)} {G:Bs→Bs→Option Nat} (hG:GdI s ns ek) W (hI:IxV W hs lo px s ns ek ta cb eb vb g ts G) (hW:Below w.heap.size w W)=>cand_any hG d _ f W hI (fun V hV=>hEv V (hW.trans (hV.mono hW.size))) (hF.on hW) hf
 have kD:=fun (hf:FSm 1000 f) {hs lo rx:Nat} {ek:List IxE} {ta cb nv lv:Value} {qs:List (EntP×Value)} (hbd:BdR s (ns.map Idn.lower) ek) (hok:OkE ek) W (hI:RefV W hs lo rx s (ns.map Idn.lower) ek ta cb nv lv qs) (hW:Below w.heap.size w W)=>r11_cand_any hbd hok d _ f W hI (hF.on hW) hf
 obtain ⟨sa,sb,rfl,hT,hC⟩:=hS
 obtain ⟨A1,c1,rfl,_⟩:=SlV.shape hT
 obtain ⟨A2,c2,rfl,_⟩:=SlV.shape hC
 obtain ⟨A0,cn,rfl,_⟩:=SlV.shape hN
 obtain ⟨A3,c3,rfl,_⟩:=SlV.shape hV
 obtain ⟨Ap,cp,Ak,ck,hsh,_,_⟩:=hF.shape
 obtain ⟨rfl,rfl⟩:pv=.slice Ap f.parts.length cp∧kv=.slice Ak f.kids.length ck:=by injection hsh with h;simp at h;exact h
 have hfs:=fun (hr:ReadyC es f)=>ready_fsm hr hfg
 clear hsh hT hC hN hF hfg hg hee
 go_enter Tryz.func3,Tryz.ntmps3
 go_upto_region 1 with fail
 with_reducible refine gen2 (R:=fun W=>Code.wp Tryz.prog _ _ _ W) ?_
 intro W hbW _ hc1 hc2
 have s0:W.cell? ⟨w.heap.size,0,none⟩=some (.slice A1 s.types.length c1):=hc1 0 _ rfl
 have s1:W.cell? ⟨w.heap.size,1,none⟩=some (.slice A2 s.classes.length c2):=hc1 1 _ rfl
 have b0:W.cell? ⟨w.heap.size+1,0,none⟩=some (.slice A3 es.length c3):=hc2 0 _ rfl
 have b1:W.cell? ⟨w.heap.size+1,1,none⟩=some (.int .i64 f.kind):=hc2 1 _ rfl
 have b2:W.cell? ⟨w.heap.size+1,2,none⟩=some (.string (B f.name)):=hc2 2 _ rfl
 have b3:W.cell? ⟨w.heap.size+1,3,none⟩=some (.string (B f.value)):=hc2 3 _ rfl
 have b4:W.cell? ⟨w.heap.size+1,4,none⟩=some (.slice Ap f.parts.length cp):=hc2 4 _ rfl
 have b5:W.cell? ⟨w.heap.size+1,5,none⟩=some (.slice Ak f.kids.length ck):=hc2 5 _ rfl
 clear hc1 hc2
 go_wp2_with fail
 refine (kb W hbW).mono ?_
 rintro e w1 ⟨r1,rfl,hr1,hb1⟩
 have hl1:=Cls.of_below hb1
 replace s0:=hl1.cell s0
 replace s1:=hl1.cell s1
 replace b0:=hl1.cell b0
 replace b1:=hl1.cell b1
 replace b2:=hl1.cell b2
 replace b3:=hl1.cell b3
 replace b4:=hl1.cell b4
 replace b5:=hl1.cell b5
 have hbw1:=hbW.trans (hb1.mono hbW.size)
 have H1:=Lib.hid hr1
 clear kb hb1 hr1 hbW hl1
 cases r1
 case false=>
  clear ks kr kn krn kC kD H1 s0 s1 b0 b1 b2 b3 b4 b5
  go_wp2_with fail
  refine (ka w1 hbw1).mono ?_
  rintro e w99 ⟨rfl,hb99⟩
  go_wp2_with fail
  go_ret
  exact ⟨rfl,hbw1.trans (hb99.mono hbw1.size)⟩
 have G1:=Lib.hid (H1.out rfl)
 clear H1
 go_wp2_with fail
 refine (ks w1 hbw1).mono ?_
 rintro e w2 ⟨r2,rfl,hr2,hb2⟩
 have hl2:=Cls.of_below hb2
 replace s0:=hl2.cell s0
 replace s1:=hl2.cell s1
 replace b0:=hl2.cell b0
 replace b1:=hl2.cell b1
 replace b2:=hl2.cell b2
 replace b3:=hl2.cell b3
 replace b4:=hl2.cell b4
 replace b5:=hl2.cell b5
 have hbw2:=hbw1.trans (hb2.mono hbw1.size)
 have H2:=Lib.hid hr2
 clear ks hb2 hr2 hbw1 hl2
 cases r2
 case false=>
  clear kr kn krn kC kD H2 G1 s0 s1 b0 b1 b2 b3 b4 b5
  go_wp2_with fail
  refine (ka w2 hbw2).mono ?_
  rintro e w99 ⟨rfl,hb99⟩
  go_wp2_with fail
  go_ret
  exact ⟨rfl,hbw2.trans (hb99.mono hbw2.size)⟩
 have G2:=Lib.hid (H2.out rfl)
 clear H2
 go_wp2_with fail
 refine (kr w2 hbw2).mono ?_
 rintro e w3 ⟨r3,rfl,hr3,hb3⟩
 have hl3:=Cls.of_below hb3
 replace s0:=hl3.cell s0
 replace s1:=hl3.cell s1
 replace b0:=hl3.cell b0
 replace b1:=hl3.cell b1
 replace b2:=hl3.cell b2
 replace b3:=hl3.cell b3
 replace b4:=hl3.cell b4
 replace b5:=hl3.cell b5
 have hbw3:=hbw2.trans (hb3.mono hbw2.size)
 have H3:=Lib.hid hr3
 clear kr hb3 hr3 hbw2 hl3
 cases r3
 case false=>
  clear kn krn kC kD H3 G1 G2 s0 s1 b0 b1 b2 b3 b4 b5
  go_wp2_with fail
  refine (ka w3 hbw3).mono ?_
  rintro e w99 ⟨rfl,hb99⟩
  go_wp2_with fail
  go_ret
  exact ⟨rfl,hbw3.trans (hb99.mono hbw3.size)⟩
 have G3:=Lib.hid (H3.out rfl)
 clear H3
 have hfsm:=hfs G3.out
 replace kC:=@kC hfsm
 replace kD:=@kD hfsm
 replace kn:=kn G1.out G2.out
 replace krn:=krn G2.out
 have hl10:=Lib.hid G3.out.1.1
 have hnl:ns.length≤1000000000:=by have:=G2.out.1;omega
 have hlE:∀(k:Nat) (hk:k<es.length),LightE (B es[k].1) es[k].2:=fun k hk=>G3.out.1.2 _ (List.getElem_mem hk)
 clear hfsm hfs G1 G2 G3
 -- New twice
 have hGz:=fun h=>Lib.hid (nwE_zero (s:=s) (ns:=ns) hssm h)
 generalize hnw:nwE s ns=ec at *
 have hnw':=Lib.hid hnw
 clear hnw
 go_wp2_with fail
 refine (kn w3 hbw3).mono ?_
 rintro e w5 ⟨hb5,⟨hz,px,eb,vb,hs,ta,cb,ts,rfl,hhs,hI⟩|⟨hz,rfl⟩⟩
 case inr=>
  have hbw5:=hbw3.trans (hb5.mono hbw3.size)
  have ht:(ec==ec)=true:=beq_self_eq_true ec
  clear hGz
  replace s0:=(Cls.of_below hb5).cell s0
  replace s1:=(Cls.of_below hb5).cell s1
  clear kn hb5 kC kD b0 b1 b2 b3 b4 b5
  go_wp2_with fail
  refine (krn w5 hbw5).mono ?_
  rintro e w6 ⟨hb6,⟨hz2,_⟩|⟨_,rfl⟩⟩
  ·exact absurd hz2 hz
  have hbw6:=hbw5.trans (hb6.mono hbw5.size)
  clear krn s0 s1 hb6 hbw5 hnw'
  go_wp2_with fail
  refine (ka w6 hbw6).mono ?_
  rintro e w99 ⟨rfl,hb99⟩
  go_wp2_with fail
  go_ret
  exact ⟨rfl,hbw6.trans (hb99.mono hbw6.size)⟩
 subst hz
 have hG0:=hGz rfl
 have hhw:w.heap.size≤hs:=Nat.le_trans hbw3.size hhs
 have hwb:w.heap.size+1<hs:=Nat.lt_of_lt_of_le (World.block_lt_of_cell? _ _ b0) hhs
 have hbw5:=hbw3.trans (hb5.mono hbw3.size)
 replace s0:=(Cls.of_below hb5).cell s0
 replace s1:=(Cls.of_below hb5).cell s1
 replace b0:=(Cls.of_below hb5).cell b0
 replace b1:=(Cls.of_below hb5).cell b1
 replace b2:=(Cls.of_below hb5).cell b2
 replace b3:=(Cls.of_below hb5).cell b3
 replace b4:=(Cls.of_below hb5).cell b4
 replace b5:=(Cls.of_below hb5).cell b5
 clear kn hb5 hhs hbw3
 have hpx:px<w5.heap.size:=World.block_lt_of_cell? _ _ hI.c0
 have hhs5:hs≤w5.heap.size:=hI.hsz
 go_wp2_with fail
 refine (krn w5 hbw5).mono ?_
 rintro e w6 ⟨hb6,⟨_,rx,lo',ta',cb',nv',rfl,hrx,hJ⟩|⟨hz2,_⟩⟩
 case inr=>exact absurd rfl hz2
 have hbw6:=hbw5.trans (hb6.mono hbw5.size)
 replace hI:=(hI.keep hb6).raise (Nat.le_refl _)
 have hrx6:rx<w6.heap.size:=World.block_lt_of_cell? _ _ hJ.c0
 replace s0:=(Cls.of_below hb6).cell s0
 replace s1:=(Cls.of_below hb6).cell s1
 replace b0:=(Cls.of_below hb6).cell b0
 replace b1:=(Cls.of_below hb6).cell b1
 replace b2:=(Cls.of_below hb6).cell b2
 replace b3:=(Cls.of_below hb6).cell b3
 replace b4:=(Cls.of_below hb6).cell b4
 replace b5:=(Cls.of_below hb6).cell b5
 have hV6:=EntsV.keep hV hbw6
 have hwx:w.heap.size≤rx:=Nat.le_trans hbw5.size hrx
 have hnp:rx≠px:=by omega
 have hsr:hs≤rx:=by omega
 have hel9:=hl10.out
 clear krn hb6 hbw5 hGz hnw' hV
 -- the puts
 go_wp2_with fail
 go_loopw [11] (fun i wr=>∃(k:Nat) (ek:List IxE) (g:Bs→Value) (G:Bs→Bs→Option Nat) (lv:Value) (qs:List (EntP×Value)),k≤es.length∧i=.int .i64 k∧IxV wr hs w6.heap.size px s ns ek ta cb eb vb g ts G∧RefV wr w5.heap.size lo' rx s (ns.map Idn.lower) ek ta' cb' nv' lv qs∧Hid (GdI s ns ek)∧ek.length≤k∧Below w.heap.size w wr∧Hid (∀b i u,b<hs→w6.cell? ⟨b,i,none⟩=some u→wr.cell? ⟨b,i,none⟩=some u)) (fun i _=>es.length-(intOf i).toNat)
 case atStart=>exact ⟨0,[],_,_,_,_,Nat.zero_le _,rfl,hI,hJ,hG0,Nat.le_refl _,hbw6,fun _ _ _ _ h=>h⟩
 case round=>
  obtain ⟨k,ek,g,G,lv,qs,hk,rfl,hIk,hJk,hGk,hekl,hbk,hkp⟩:=hrel
  clear hI hJ hG0
  replace b0:=hkp.out _ _ _ hwb b0
  by_cases hlt:k<es.length
  ·have hltI:(k:Int)<(es.length:Int):=by omega
   obtain ⟨b,off,va,hAd,hbl,d0,d1,hva⟩:=EntsV.cell (EntsV.keepP hV6 fun b off u hb hc=>hkp.out b off u (Nat.lt_of_lt_of_le hb hhw) hc) hlt
   subst hAd
   obtain ⟨Av,cv,rfl,_⟩:=SlV.shape hva
   have hli:=hlE k hlt
   have hnl1:es[k].1.length≤1000000:=by have:=hli.1;rw[Idn.size_B]at this;omega
   have hvs:∀W',wr.heap.size≤W'.heap.size→(∀b i u,b<hs→wr.cell? ⟨b,i,none⟩=some u→W'.cell? ⟨b,i,none⟩=some u)→AttsV W' W'.heap.size (.slice Av es[k].2.length cv) es[k].2:=fun W' h1 h2=>AttsV.mono (AttsV.keepC hva fun b off u hb hc=>h2 b off u (Nat.lt_of_lt_of_le hb hhw) hc) (by have:=hbk.size;omega)
   have hel2:(ixPut ek es[k].1 es[k].2).2.length≤k+1:=Nat.le_trans (put_len hGk.out.ok _ _) (by omega)
   have hG9:Hid (GdI s ns (ixPut ek es[k].1 es[k].2).2):=hGk.out.put hnl1 (by omega)
   have hput:∀W',Below wr.heap.size wr W'→Calls Tryz.prog 16 #[.pointer (some ⟨px,0,none⟩),.agg #[.string (B es[k].1),.slice Av es[k].2.length cv]] W' fun e w8=>e=.returned (.int .i64 (ixPut ek es[k].1 es[k].2).1)∧∃g8 G8,IxV w8 hs w6.heap.size px s ns (ixPut ek es[k].1 es[k].2).2 ta cb eb vb g8 ts G8∧RefV w8 w5.heap.size lo' rx s (ns.map Idn.lower) ek ta' cb' nv' lv qs∧Below w.heap.size w w8∧wr.heap.size≤w8.heap.size∧Hid (∀b i u,b<hs→wr.cell? ⟨b,i,none⟩=some u→w8.cell? ⟨b,i,none⟩=some u):=fun W' hW=>by
    refine (put11_any (hIk.keep hW) hGk.out (by omega) hhw w (hbk.trans (hW.mono hbk.size)) hEv es[k].1 hnl1 _ es[k].2 (hvs W' hW.size fun _ _ _ _ hc=>cell_later hW hc) (light_asm7 hli)).mono ?_
    rintro e w8 ⟨h1,g8,G8,h2,_,h4,_,h6,h7⟩
    exact ⟨h1,g8,G8,h2,(hJk.keep hW).mv h4 (hIk.keep hW).allMap,h6,Nat.le_trans hW.size h7.2,fun _ _ _ _ hc=>h7.cell (cell_later hW hc)⟩
   have hputR : ∀ (w8 : World) (g8 : Bs → Value) (G8 : Bs → Bs → Option Nat), IxV w8 hs w6.heap.size px s ns (ixPut ek es[k].1 es[k].2).2 ta cb eb vb g8 ts G8 → RefV w8 w5.heap.size lo' rx s (ns.map Idn.lower) ek ta' cb' nv' lv qs → Below w.heap.size w w8 → wr.heap.size ≤ w8.heap.size → (∀ b i u, b < hs → wr.cell? ⟨b, i, none⟩ = some u → w8.cell? ⟨b, i, none⟩ = some u) → ∀ W', Below w8.heap.size w8 W' →
       Calls Tryz.prog 17 #[.pointer (some ⟨rx,0,none⟩),.agg #[.string (B es[k].1),.slice Av es[k].2.length cv]] W' fun e w9=>e=.returned (.int .i64 (ixPut ek es[k].1 es[k].2).1)∧∃lv9 qs9,RefV w9 w5.heap.size lo' rx s (ns.map Idn.lower) (ixPut ek es[k].1 es[k].2).2 ta' cb' nv' lv9 qs9∧IxV w9 hs w6.heap.size px s ns (ixPut ek es[k].1 es[k].2).2 ta cb eb vb g8 ts G8∧Below w.heap.size w w9∧Hid (∀b i u,b<hs→wr.cell? ⟨b,i,none⟩=some u→w9.cell? ⟨b,i,none⟩=some u):=fun w8 g8 G8 hI8 hJ8 hb8 hz8 hp8 W' hW=>by
    refine (r11_Put_any (hJ8.keep hW) hGk.out.ok hGk.out.len hGk.out.nam es[k].1 hnl1 _ es[k].2 (hvs W' (Nat.le_trans hz8 hW.size) fun b i u hb hc=>cell_later hW (hp8 b i u hb hc)) (light_asm7 hli)).mono ?_
    rintro e w9 ⟨h1,lv9,qs9,h2,h3⟩
    exact ⟨h1,lv9,qs9,h2,(hI8.keep hW).ref (hJ8.keep hW) h3 hnp hsr hrx6,below_ref (hb8.trans (hW.mono hb8.size)) h3 hwx (hb8.trans (hW.mono hb8.size)).size,fun b i u hb hc=>cell_off h3 (fun e=>by have e:b=rx:=e;omega) (cell_later hW (hp8 b i u hb hc))⟩
   have hzz:∀w8,Below w.heap.size w w8→True:=fun _ _=>trivial
   clear hzz hva hli hvs
   generalize ixPut ek es[k].1 es[k].2=r at *
   obtain ⟨ri,re⟩:=r
   dsimp only at hput hputR hel2 hG9
   generalize es[k]=x at *
   obtain ⟨xn,xa⟩:=x
   dsimp only at d0 d1 hput hputR hnl1
   have hbh:b<hs:=Nat.lt_of_lt_of_le hbl hhw
   have hSt:∀W':World,(∀b i u,b<hs→wr.cell? ⟨b,i,none⟩=some u→W'.cell? ⟨b,i,none⟩=some u)→W'.cell? ⟨w.heap.size+1,0,none⟩=some (.slice (some ⟨b,off,none⟩) es.length c3)∧W'.cell? ⟨b,off+k*2,none⟩=some (.string (B xn))∧W'.cell? ⟨b,off+k*2+1,none⟩=some (.slice Av xa.length cv):=fun W' h=>⟨h _ _ _ hwb b0,h _ _ _ hbh d0,h _ _ _ hbh d1⟩
   have kp0:∀(b i:Nat) (u:Value),b<hs→wr.cell? ⟨b,i,none⟩=some u→wr.cell? ⟨b,i,none⟩=some u:=fun _ _ _ _ h=>h
   have hrr:(ri==ri)=true:=beq_self_eq_true ri
   have hzr:=hIk.hsz
   clear hGk hIk hJk kC kD hbk
   go_upto_region 12 with fail
   go_region_held3 (fun W'=>W'.cell? ⟨w.heap.size+1,0,none⟩=some (.slice (some ⟨b,off,none⟩) es.length c3)∧W'.cell? ⟨b,off+k*2,none⟩=some (.string (B xn))∧W'.cell? ⟨b,off+k*2+1,none⟩=some (.slice Av xa.length cv))
    (first|exact hSt _ kp0|exact hSt _ hp8.out|exact hSt _ hp9.out)
    (first
     |(go_at_call 16;refine (hput _ (by repeat (first|with_reducible exact Below.refl _ _|with_reducible apply Below.drew))).mono ?_;rintro e w8 ⟨rfl,g8,G8,hI8,hJ8,hb8,hz8,hp8⟩)
     |(go_at_call 17;refine (hputR w8 g8 G8 hI8 hJ8 hb8 hz8 hp8.out _ (by repeat (first|with_reducible exact Below.refl _ _|with_reducible apply Below.drew))).mono ?_;rintro e w9 ⟨rfl,lv9,qs9,hJ9,hI9,hb9,hp9⟩))
   go_wp2_with fail
   go_roundw
   case rel=>exact ⟨k+1,re,g8,G8,lv9,qs9,by omega,by go_num,hI9,hJ9,hG9,hel2,hb9,fun b i u hb hc=>hp9.out b i u hb (hkp.out b i u hb hc)⟩
   case measure=>simp[intOf];omega
  ·have hltI:¬(k:Int)<(es.length:Int):=by omega
   have hbd:=hGk.out.bdr hnl
   have hrl:(ixCand s (ns.map Idn.lower) ek f).1.length≤1000000000000:=by
    have:=(cand_ok (s:=s) (idx:=ns.map Idn.lower) hGk.out.ok f).len hGk.out.ok
    exact Nat.le_trans this (by omega)
   have kC1:=kC hGk.out wr hIk hbk
   have kD1:=fun W (hW:Below wr.heap.size wr W)=>kD hbd hGk.out.ok W (hJk.keep hW) (hbk.trans (hW.mono hbk.size))
   simp only[refCand_eq hGk.out.ok]at kD1
   replace b1:=hkp.out _ _ _ hwb b1
   replace b2:=hkp.out _ _ _ hwb b2
   replace b3:=hkp.out _ _ _ hwb b3
   replace b4:=hkp.out _ _ _ hwb b4
   replace b5:=hkp.out _ _ _ hwb b5
   clear kC kD hbd hGk hkp hIk hJk hlE hV6 s0 s1
   generalize ixCand s (ns.map Idn.lower) ek f=r at *
   obtain ⟨rl,ro⟩:=r
   dsimp only at hrl
   go_wp2_with fail
   refine kC1.mono ?_
   intro e w8 hret
   obtain ⟨A8,c8,rfl,S8,hb8⟩:=hret.open_
   dsimp only at S8
   replace b1:=cell_later hb8 b1
   replace b2:=cell_later hb8 b2
   replace b3:=cell_later hb8 b3
   replace b4:=cell_later hb8 b4
   replace b5:=cell_later hb8 b5
   clear hret kC1
   go_wp2_with fail
   refine (kD1 w8 hb8).mono ?_
   intro e w9 hret
   obtain ⟨A9,c9,rfl,S9,hb9⟩:=hret.open_
   dsimp only at S9
   have hLs:=r_lists_any _ _ _ _ w9 (SlV.mono (SlV.keep S8 hb9) hb9.size) S9 hrl hrl
   rw[decide_eq_true rfl]at hLs
   have hoo:(ro==ro)=true:=beq_self_eq_true ro
   have hbw9:=hbk.trans ((Below.on hb8 hb9).mono hbk.size)
   clear hret kD1 S8 S9 b1 b2 b3 b4 b5
   go_wp2_with fail
   refine hLs.mono ?_
   rintro e w10 ⟨rfl,hb10⟩
   have hbw10:=hbw9.trans (hb10.mono hbw9.size)
   clear hLs
   go_wp2_with fail
   refine (ka w10 hbw10).mono ?_
   rintro e w99 ⟨rfl,hb99⟩
   go_wp2_with fail
   go_ret
   exact ⟨rfl,hbw10.trans (hb99.mono hbw10.size)⟩
end Go.Proofs.YtbkkchhimhlhcaaGreatDoor
/- IndexCandidates: the contract as the row asks it, the statement, the card. -/
namespace Go.Proofs.YtbkkchhimhlhcaaGreatDoor
open Go.RowKit Go.Sort Go.Shelf Go.ChangeShapes Go.WideShapes Go.ChangeAt Go.ChangeMaps
theorem laid_eqIK:Rows.indexCandidatesUptoRow.laid=laidL:=by
 unfold laidL
 rw[←pow_eq,←acc_eq,←first_eq,←case_eq]
 rfl
theorem cIK_contract (F : Stop.Interp) (H : Type) (enc : TypeId × Value → H) (W : World) (base : Nat) (args : Array Value) (ds gs : List (DataW H)) (before : List MemPlace)
  (hval:∀(j:Nat) t v,Tryz.f3.params[j]?=some t→args[j]?=some v→Value.okWide Tryz.prog W .any base t v)
  (hW:DataW.Whole enc Tryz.prog Tryz.f3.params.toList Rows.indexCandidatesSpec.vars false W args.toList ds gs before) (hL:laidMet Tryz.prog laidL W) (hsh:W.ShapedOpen Tryz.prog) (hk:Rows.uptoSmall H (ds++gs)=true) :
  Calls Tryz.prog 3 args W fun e W'=>∃v,e=.returned v∧((Rows.OpenSpec.upto Rows.indexCandidatesSpec).at F).post enc Tryz.prog Tryz.f3 false true false false W args v W':=by
 have hW':=hW
 obtain ⟨p,q,hA0,hV0,rfl,_,_⟩:=hW
 have hA:DataW.TrodAll enc Tryz.prog W 0 (fun _=>true) true Tryz.f3.params.toList args.toList ds p:=hA0
 rw[Tryz.params3]at hA hval
 obtain ⟨v0,v1,v2,d0,d1,d2,p0,p1,p2,rfl,rfl,rfl,h0,h1,h2⟩:=trodAll_three hA
 obtain ⟨rfl,rfl⟩:=trodVars_none hV0
 have hB:=bk_bound hk
 have hb0:=hB d0 (by simp)
 have hb1:=hB d1 (by simp)
 have hb2:=hB d2 (by simp)
 obtain ⟨s0,hS0,hg0⟩:=schema_openB (hval 0 25 v0 rfl rfl) h0
 obtain ⟨l1,hL1,hg1⟩:=strings_openB (hval 1 26 v1 rfl rfl) h1
 obtain ⟨ev2,pv2,kv2,es2,m2,f2,rfl,hL2,hc2,hF2,hf2⟩:=case_openB (hval 2 33 v2 rfl rfl) h2
 clear hA0 hV0 hval
 simp only[List.append_nil,List.append_assoc]at hW'
 have hlt:∀x∈p0++(p1++p2),x.block<W.heap.size:=fun x hx=>by simpa using hW'.lt x (by simpa using hx)
 obtain ⟨hE,hU⟩:=env_of hL hsh
 refine (indexCandidates_any v0 s0 v1 l1 ev2 pv2 kv2 es2 m2 f2 W hS0 (hg0.mono hb0) hL1 (hg1.mono hb1) hL2 (Nat.le_trans hc2.1 hb2) (fun e he=>(hc2.2 e he).mono hb2) hF2 (fG_mono hb2 f2 hf2) hE hU).mono ?_
 rintro e W' ⟨rfl,bel⟩
 have e1:((Rows.OpenSpec.upto Rows.indexCandidatesSpec).at F).fn H ([d0,d1,d2]++[])={ results:=[.lit (.bool true)],args:=[d0,d1,d2] }:=rfl
 refine ⟨_,rfl,_,_,_,[],(p0++(p1++p2)),[],hW',?_,?_,?_,bel.frame _,fun h=>by cases h⟩
 ·rw[e1];exact trodAll_mk1 (shut_bool Tryz.underlying4 _)
 ·rw[e1];exact trodAll_mk3 (Below.trod laidOut (by kernel_rfl) (of_decide_eq_true (by kernel_rfl)) h0 bel (fun x hx=>hlt x (List.mem_append_left _ hx))) (Below.trod laidOut (by kernel_rfl) (of_decide_eq_true (by kernel_rfl)) h1 bel (fun x hx=>hlt x (List.mem_append_right _ (List.mem_append_left _ hx)))) (Below.trod laidOut (by kernel_rfl) (of_decide_eq_true (by kernel_rfl)) h2 bel (fun x hx=>hlt x (List.mem_append_right _ (List.mem_append_right _ hx))))
 ·rw[e1];rfl
theorem noHandleIK {W:World} (h:laidMetH Tryz.prog Rows.indexCandidatesUptoRow.laid W):laidMet Tryz.prog laidL W:=by
 have e:(Rows.indexCandidatesUptoRow.laid.filter fun x=>x.2.handleName?.isSome)=[]:=by kernel_rfl
 unfold laidMetH at h
 rw[e]at h
 rw[←laid_eqIK]
 exact h
theorem laid_metIK (os:Os) (args:Array Value):laidMet Tryz.prog Rows.indexCandidatesUptoRow.laid ((laidWorld os).forCall (fun _ _=>0) ⟨#[],args,[]⟩).memory:=by
 rw[laid_eqIK]
 exact laid_metW os args
theorem witness_rowIK (os : Os) {H : Type} (enc : TypeId × Value → H) :
  (Rows.OpenSpec.upto Rows.indexCandidatesSpec).preRow enc Tryz.prog Tryz.f3 Rows.indexCandidatesUptoRow.domain false Rows.indexCandidatesUptoRow.laid ((laidWorld os).forCall (fun _ _=>0) ⟨#[],#[.agg #[.slice none 0 0,.slice none 0 0],.slice none 0 0,.agg #[.slice none 0 0,.int .i64 0,.string ⟨#[]⟩,.string ⟨#[]⟩,.slice none 0 0,.slice none 0 0]],[]⟩).memory #[.agg #[.slice none 0 0,.slice none 0 0],.slice none 0 0,.agg #[.slice none 0 0,.int .i64 0,.string ⟨#[]⟩,.string ⟨#[]⟩,.slice none 0 0,.slice none 0 0]]:=by
 have hw : (DataW.whole enc Tryz.prog ((laidWorld os).forCall (fun _ _ => 0) ⟨#[], #[.agg #[.slice none 0 0, .slice none 0 0], .slice none 0 0, .agg #[.slice none 0 0, .int .i64 0, .string ⟨#[]⟩, .string ⟨#[]⟩, .slice none 0 0, .slice none 0 0]], []⟩).memory Tryz.f3.params.toList (Rows.OpenSpec.upto Rows.indexCandidatesSpec).vars false #[Value.agg #[.slice none 0 0, .slice none 0 0], .slice none 0 0, .agg #[.slice none 0 0, .int .i64 0, .string ⟨#[]⟩, .string ⟨#[]⟩, .slice none 0 0, .slice none 0 0]].toList 8).map (fun x => (x.1, x.2.1)) =
   some ([.agg [.nil,.nil],.nil,.agg [.nil,.agg [.lit (.int .i64 0),.lit (.string []),.lit (.string []),.nil,.nil]]],[]):=by kernel_rfl
 obtain ⟨⟨x1,x2,x3⟩,hx,hx1⟩:=Option.map_eq_some_iff.1 hw
 simp only[Prod.mk.injEq]at hx1
 obtain ⟨rfl,rfl⟩:=hx1
 exact OpenSpec.preRow_of_cond 8 hx (by kernel_rfl) (fun k hk=>by cases hk;kernel_rfl) (by kernel_rfl) (laid_metIK os _)
theorem liftedIK (os : Os) (started : os.Started) (H : Type) (enc : TypeId × Value → H) (F : Stop.Interp) :
  ReturnsInHanded {} Tryz.checked os 3 .any ((Rows.OpenSpec.upto Rows.indexCandidatesSpec).preRow enc Tryz.prog Tryz.f3 Rows.indexCandidatesUptoRow.domain false Rows.indexCandidatesUptoRow.laid) (((Rows.OpenSpec.upto Rows.indexCandidatesSpec).at F).post enc Tryz.prog Tryz.f3 false true false false):=by
 refine returnsInHanded_of_row (C:=Tryz.checked) (s:=(Rows.OpenSpec.upto Rows.indexCandidatesSpec)) own started (by kernel_rfl) Tryz.func3
  (witness_row_atRef (enc:=enc) (C:=Tryz.checked) false (laidWorld os) #[.agg #[.slice none 0 0,.slice none 0 0],.slice none 0 0,.agg #[.slice none 0 0,.int .i64 0,.string ⟨#[]⟩,.string ⟨#[]⟩,.slice none 0 0,.slice none 0 0]] rfl (by kernel_rfl) (by kernel_rfl) (by kernel_rfl) (witness_rowIK os enc)) ?_
 intro W base args ds gs before hval hW _ hcond _ hL hsh _
 exact cIK_contract F H enc W base args ds gs before hval hW (noHandleIK hL) hsh (hcond _ rfl)
end Go.Proofs.YtbkkchhimhlhcaaGreatDoor
/- IndexCandidates: the statement. -/
namespace Go.Proofs.YtbkkchhimhlhcaaGreatDoor
open Go.RowKit Go.Sort Go.Shelf Go.ChangeShapes Go.WideShapes Go.ChangeAt Go.ChangeMaps
theorem closedIK:joinedFacts Tryz.pinned.checked.prog 3 Tryz.f3 (Rows.OpenSpec.upto Rows.indexCandidatesSpec).bare Rows.indexCandidatesUptoRow=true:=by
 unfold joinedFacts
 simp only[Bool.and_eq_true]
 repeat' with_reducible apply And.intro
 all_goals (as_aux_lemma=>kernel_rfl)
theorem saidIK:Rows.IndexCandidatesUptoSaid:=
 OpenClaim.holds_of_cond 3 Tryz.f3 rfl rfl rfl rfl rfl rfl rfl ⟨rfl,rfl,rfl,rfl,rfl⟩ rfl rfl rfl rfl rfl (by kernel_rfl) Tryz.func3 closedIK
  (of_decide_eq_true (by kernel_rfl)) (by unfold Func.isWrapper;first|(rw[if_pos (by decide +kernel)];kernel_rfl)|(rw[if_neg (by decide +kernel)];exact ⟨rfl,rfl⟩))
  (fun os started H enc _ F=>by rw[OpenClaim.pre_eq_preRow];exact liftedIK os started H enc F)
end Go.Proofs.YtbkkchhimhlhcaaGreatDoor
/- IndexCandidates: the card. -/
namespace Go.Proofs.YtbkkchhimhlhcaaGreatDoor
open Go.RowKit Go.Sort Go.Shelf Go.ChangeShapes Go.WideShapes Go.ChangeAt Go.ChangeMaps
theorem goes_no {P:Program} (h:P.funcs.any Func.goes=false) (f:FuncId):P.goes f=false:=by
 have h1:((P.closure f).any fun g=>(P.funcs[g]?).any Func.goes)=false:=by
  rw[List.any_eq_false]
  intro g _
  cases hg:P.funcs[g]? with
  |none=>simp
  |some fn=>
   rw[Array.any_eq_false]at h
   obtain ⟨hl,rfl⟩:=Array.getElem?_eq_some_iff.1 hg
   simpa using h g hl
 unfold Program.goes
 rw[h1,h,Bool.and_false];rfl
theorem goesBy_no {P:Program} (c:OpenClaim) (h:P.funcs.any Func.goes=false):false=c.goesBy P:=by
 unfold OpenClaim.goesBy Program.goesAt Program.goesFrom
 have h1:∀o:Option FuncId,o.any P.goes=false:=fun o=>by cases o<;>simp[goes_no h]
 have h2:P.inits.toList.any P.goes=false:=by rw[List.any_eq_false];intro g _;simp[goes_no h]
 rw[h1,h2]
 cases c.start<;>rfl
theorem plainIK (f : FuncId) (fn : Func) (hf : Tryz.pinned.checked.prog.funcNamed "identity/identitylaw11.IndexCandidates" = some f) (hfn : Tryz.pinned.checked.prog.funcs[f]? = some fn) :
  true=Tryz.pinned.checked.prog.looks []∧∀(j:Nat) t,fn.params[j]?=some t→Tryz.pinned.checked.prog.wantsStandIn t=false:=by
 obtain rfl : f = 3 := Option.some.inj ((show Tryz.prog.funcNamed "identity/identitylaw11.IndexCandidates" = some 3 by kernel_rfl).symm.trans hf) |>.symm
 obtain rfl:fn=Tryz.f3:=(Option.some.inj (Tryz.func3.symm.trans hfn)).symm
 refine ⟨by kernel_rfl,fun j t ht=>?_⟩
 rw[Tryz.params3]at ht
 have hm:=Array.mem_of_getElem? ht
 simp at hm
 rcases hm with rfl|rfl|rfl
 ·exact (show Tryz.prog.wantsStandIn 25=false by kernel_rfl)
 ·exact (show Tryz.prog.wantsStandIn 26=false by kernel_rfl)
 ·exact (show Tryz.prog.wantsStandIn 33=false by kernel_rfl)
theorem indexCandidates_card:Rows.IndexCandidatesUptoCardSaid:=
 Claim7.holds_tied_plain_at .later [] _ _ _ _ saidIK (fun _ h=>by cases h) (by kernel_rfl) (fun _ h=>by cases h) indexCandidatesUpto_row_tie rfl ⟨rfl,rfl⟩ (by kernel_rfl) rfl plainIK (goesBy_no _ (by kernel_rfl))
#print axioms indexCandidates_card
end Go.Proofs.YtbkkchhimhlhcaaGreatDoor
