/- Part 48 of the proof that identitylaw12.SearchChecks returns true for every data that it may be called with: proof: the package variables hold what the program lays; nothing else is asked. -/
import Derived.Test.YtbkkchhimhlhcaaGreatDoorSrk47
set_option linter.unusedVariables false
set_option linter.unusedSimpArgs false
set_option maxRecDepth 100000
set_option maxHeartbeats 16000000
/- name: Parent, Depth, last, Under; slices.Equal at components. -/
namespace Go.Proofs.YtbkkchhimhlhcaaGreatDoor
open Go.RowKit Go.Sort
open Idn (L B Bs drop_L take_L size_L)
theorem normal_psm (s:Bs):∀p∈(Idn.normal s).1,p.1.length≤256∧p.2.length≤256:=by
 unfold Idn.normal
 split
 ·simp
 ·exact (parse_sm s).2
theorem run_size_pr (W:World):(sizeOf (Tryz.prog.elem 152)).run Tryz.prog W=.ok 2 W:=by
 obtain ⟨i,hi,_,h1,_⟩:=info_parts info_pair
 have e:Tryz.prog.elem 152=156:=by kernel_rfl
 rw[e]
 simp[sizeOf,typeInfo,hi,h1]
theorem dropP_run {w : World} {hi n c : Nat} {l : List Idn.Pr} {A : Option Addr} (h : PairsV w hi (.slice A n c) l) {j : Nat} (hj : j ≤ l.length) :
  ∃A' c',(∀W:World,(Instr.slice 152 (.slice A n c) (some (.int .i64 (j:Int))) none none).run Tryz.prog W=.ok (.slice A' (n-j) c') W)∧PairsV w hi (.slice A' (n-j) c') (l.drop j):=by
 have hn:=SlV.len h
 refine ⟨_,_,fun W=>?_,SlV.cutFrom h j hj⟩
 rw[run_slice_l W 152 A n c (by kernel_rfl) .i64 (j:Int) (by omega) (by omega),run_size_pr]
 simp only[Result.andThen_ok,sliced,Int.toNat_natCast]
theorem nm_parent_any (s : ByteArray) (w : World) (hs : s.size ≤ 1000000000) :
    Calls Tryz.prog 85 #[.string s] w fun e w'=>e=.returned (.tuple #[.string (B (nmPar (L s)).1),.bool (nmPar (L s)).2])∧Below w.heap.size w w':=by
 have hN:=nm_normal_any s w hs
 have h8:=normal_sm (L s)
 have hsm:=normal_psm (L s)
 have HR:Hid (nmPar (L s)=if (Idn.normal (L s)).2&&!(Idn.normal (L s)).1.isEmpty then ((Idn.format (Idn.normal (L s)).1.tail).1,true)else ([],false)):=rfl
 generalize nmPar (L s)=r at *
 generalize Idn.normal (L s)=nn at *
 obtain ⟨l,d⟩:=nn
 dsimp only at HR h8 hsm
 by_cases h0:d=true∧0<l.length
 ·obtain ⟨rfl,hp⟩:=h0
  have HF:Hid (r=((Idn.format (l.drop 1)).1,true)):=by
   show _=_
   rw[HR.out]
   cases l with
   |nil=>simp at hp
   |cons p l=>rfl
  have hF:=fun v W (hv:PairsV W W.heap.size v (l.drop 1))=>nm_format_any v (l.drop 1) W hv (fun p hp=>by have:=hsm p (List.mem_of_mem_drop hp);omega) (by rw[List.length_drop];omega)
  have hpI:((l.length:Int)==0)=false:=beq_eq_false_iff_ne.2 (by omega)
  clear HR hsm
  go_enter Tryz.func85,Tryz.ntmps85
  go_wp2_with fail
  refine hN.mono ?_
  rintro e w1 ⟨v,rfl,hown,hb⟩
  clear hN
  obtain ⟨A,c,hv⟩:=own_shape hown
  subst hv
  dsimp only at hown
  obtain ⟨A',c',hrun,hP⟩:=dropP_run (PairsV.of_own hown) (j:=1) (by omega)
  have hrun:∀W:World,(Instr.slice 152 (.slice A l.length c) (some (.int .i64 1)) none none).run Tryz.prog W=.ok (.slice A' (l.length-1) c') W:=hrun
  have hF1:=hF _ w1 hP
  generalize Idn.format (l.drop 1)=fm at *
  obtain ⟨t,x⟩:=fm
  clear hF hP
  go_wp2_with (go_at_call 163;refine hF1.mono ?_;rintro e w2 ⟨rfl,hb2⟩)
  go_ret2
  exact ⟨by rw[HF.out];rfl,hb.trans (hb2.mono hb.size)⟩
 ·have HF : Hid (r = ([], false)) := by
    show _=_
    rw[HR.out]
    cases d with
    |false=>rfl
    |true=>
     cases l with
     |nil=>rfl
     |cons p l=>exact absurd ⟨rfl,by simp⟩ h0
  clear HR hsm
  cases d with
  |false=>
   go_enter Tryz.func85,Tryz.ntmps85
   go_wp2_with fail
   refine hN.mono ?_
   rintro e w1 ⟨v,rfl,hown,hb⟩
   obtain ⟨A,c,hv⟩:=own_shape hown
   subst hv
   clear hN
   go_wp2
   go_ret2
   exact ⟨by rw[HF.out];rfl,hb⟩
  |true=>
   have hl:l.length=0:=by
    rcases Nat.eq_zero_or_pos l.length with h|h
    ·exact h
    ·exact absurd ⟨rfl,h⟩ h0
   clear h0
   go_enter Tryz.func85,Tryz.ntmps85
   go_wp2_with fail
   refine hN.mono ?_
   rintro e w1 ⟨v,rfl,hown,hb⟩
   obtain ⟨A,c,hv⟩:=own_shape hown
   subst hv
   clear hN
   dsimp only at *
   rw[hl]
   go_wp2
   go_ret2
   exact ⟨by rw[HF.out];rfl,hb⟩
theorem nm_depth_any (s : ByteArray) (w : World) (hs : s.size ≤ 1000000000) :
  Calls Tryz.prog 92 #[.string s] w fun e w'=>e=.returned (.int .i64 (nmDep (L s):Int))∧Below w.heap.size w w':=by
 have hN:=nm_normal_any s w hs
 have HR:Hid (nmDep (L s)=if (Idn.normal (L s)).2 then (Idn.normal (L s)).1.length else 0):=rfl
 generalize nmDep (L s)=r at *
 generalize Idn.normal (L s)=nn at *
 obtain ⟨l,d⟩:=nn
 dsimp only at HR
 cases d
 all_goals
  have HF:=HR.out
  simp only[if_true,if_false,Bool.false_eq_true]at HF
  subst HF
  clear HR
  go_enter Tryz.func92,Tryz.ntmps92
  go_wp2_with fail
  refine hN.mono ?_
  rintro e w1 ⟨v,rfl,hown,hb⟩
  obtain ⟨A,c,hv⟩:=own_shape hown
  subst hv
  clear hN
  go_wp2
  go_ret
  exact ⟨rfl,hb⟩
end Go.Proofs.YtbkkchhimhlhcaaGreatDoor
/- name: last, Under; slices.Equal at components. -/
namespace Go.Proofs.YtbkkchhimhlhcaaGreatDoor
open Go.RowKit Go.Sort
open Idn (L B Bs drop_L take_L size_L)
theorem neqPr_run (W:World) (a b c d:ByteArray):(binOp .neq 156 (.agg #[.string a,.string b]) (.agg #[.string c,.string d])).run Tryz.prog W=.ok (.bool (!((a.toList==c.toList)&&(b.toList==d.toList)))) W:=by
 have hs:=Tryz.underlying9
 have hS:Tryz.prog.underlying 156=some (.struct (Tryz.prog.fieldsOf 156)):=by kernel_rfl
 have hp:Tryz.prog.stoodInHeld 156=false:=by kernel_rfl
 rw[run_neq_struct,show (10000:Nat)=9999+1 from rfl,run_equalIn_agg W 9999 156 _ _ hS hp]
 simp only[Program.fieldsOf,Tryz.underlying156]
 have z9:=Tryz.sizeOf9
 go_simp
 by_cases h1:a.toList=c.toList<;>by_cases h2:b.toList=d.toList<;>simp[h1,h2]
theorem eqP_any (v u : Value) (a b : List Idn.Pr) (r : Bool) (hr : r = true ↔ a = b) (w : World) (hv : PairsV w w.heap.size v a) (hu : PairsV w w.heap.size u b) (ha : a.length ≤ 1000000000) (hb : b.length ≤ 1000000000) :
  Calls Tryz.prog 221 #[v,u] w fun e w'=>e=.returned (.bool r)∧Below w.heap.size w w':=by
 obtain ⟨A,c,rfl,_⟩:=SlV.shape hv
 obtain ⟨A2,c2,rfl,_⟩:=SlV.shape hu
 have hnq:=neqPr_run
 go_enter Tryz.func221,Tryz.ntmps221
 by_cases h0:a.length=b.length
 ·have h0I:((a.length:Int) !=(b.length:Int))=false:=by rw[h0];simp
  have H0:=Lib.hid h0
  have HRR:=Lib.hid hr
  clear h0 hr
  go_wp2_with fail
  go_loopw [13] (fun i wr=>∃(k:Nat),k≤a.length∧i=.int .i64 k∧Below w.heap.size w wr∧Hid (a.take k=b.take k)) (fun i _=>a.length-(intOf i).toNat)
  case atStart=>exact ⟨0,Nat.zero_le _,rfl,Below.refl _ _,rfl⟩
  case round=>
   obtain ⟨k,hk,rfl,hbw,hinv⟩:=hrel
   by_cases hlt:k<a.length
   ·have hlt':k<b.length:=by have:=H0.out;omega
    obtain ⟨b1,o1,hA,hb1,d0,d1⟩:=PairsV.cell (SlV.keep hv hbw) hlt
    obtain ⟨b2,o2,hA2,hb2,e0,e1⟩:=PairsV.cell (SlV.keep hu hbw) hlt'
    subst hA hA2
    have hltI:(k:Int)<(a.length:Int):=by omega
    have hltJ:(k:Int)<(b.length:Int):=by omega
    have ht1:=B_beq a[k].1 b[k].1
    have ht2:=B_beq a[k].2 b[k].2
    have hpe:a[k]=b[k]↔(a[k].1=b[k].1∧a[k].2=b[k].2):=⟨fun h=>by rw[h];exact ⟨rfl,rfl⟩,fun h=>Prod.ext h.1 h.2⟩
    by_cases he:a[k]=b[k]
    ·have HF:=Lib.hid (take_ext hinv.out hlt hlt' he)
     rw[decide_eq_true (hpe.1 he).1]at ht1
     rw[decide_eq_true (hpe.1 he).2]at ht2
     clear hinv he hpe
     generalize B a[k].1=x at *
     generalize B b[k].1=y at *
     generalize B a[k].2=x' at *
     generalize B b[k].2=y' at *
     have hq:∀W,(binOp .neq 156 (.agg #[.string x,.string x']) (.agg #[.string y,.string y'])).run Tryz.prog W=.ok (.bool false) W:=fun W=>by rw[hnq,ht1,ht2];rfl
     clear hnq
     go_wp2
     go_quiet (fail)
     go_wp2
     go_roundw
     case rel=>exact ⟨k+1,by omega,by go_num,hbw.trans ((Go.Proofs.below_drewN _ _).mono hbw.size),HF⟩
     case measure=>simp[intOf];omega
    ·have HF:=Lib.hid (no_true HRR.out (get_ne hlt hlt' he))
     have hq0:(((B a[k].1).toList==(B b[k].1).toList)&&((B a[k].2).toList==(B b[k].2).toList))=false:=by
      rw[ht1,ht2,←Bool.not_eq_true,Bool.and_eq_true,decide_eq_true_eq,decide_eq_true_eq]
      exact fun h=>he (hpe.2 h)
     clear hinv he hpe ht1 ht2
     generalize B a[k].1=x at *
     generalize B b[k].1=y at *
     generalize B a[k].2=x' at *
     generalize B b[k].2=y' at *
     have hq:∀W,(binOp .neq 156 (.agg #[.string x,.string x']) (.agg #[.string y,.string y'])).run Tryz.prog W=.ok (.bool true) W:=fun W=>by rw[hnq,hq0];rfl
     clear hnq hq0
     go_wp2
     go_quiet (fail)
     go_wp2
     go_ret
     exact ⟨ret_bool HF.out.symm,hbw.trans ((Go.Proofs.below_drewN _ _).mono hbw.size)⟩
   ·have hltI:¬(k:Int)<(a.length:Int):=by omega
    have hltJ:¬(k:Int)<(b.length:Int):=by have:=H0.out;omega
    have HF:Hid (r=true):=HRR.out.2 (by
     have h1:=hinv.out
     have h2:=H0.out
     rwa[List.take_of_length_le (by omega),List.take_of_length_le (by omega)]at h1)
    clear hinv
    go_wp2
    go_ret
    exact ⟨ret_bool HF.out.symm,hbw⟩
 ·have h0I:((a.length:Int) !=(b.length:Int))=true:=by rw[bne_iff_ne];omega
  have HF:=Lib.hid (no_true hr fun h=>h0 (by rw[h]))
  go_wp2_with fail
  go_ret
  exact ⟨ret_bool HF.out.symm,Below.refl _ _⟩
theorem nm_last_any (v u : Value) (l m : List Idn.Pr) (w : World) (hv : PairsV w w.heap.size v l) (hu : PairsV w w.heap.size u m) (hl : l.length ≤ 1000) (hm : m.length ≤ 1000) :
  Calls Tryz.prog 164 #[v,u] w fun e w'=>e=.returned (.bool (lastP l m))∧Below w.heap.size w w':=by
 obtain ⟨A,c,rfl,_⟩:=SlV.shape hv
 obtain ⟨A2,c2,rfl,_⟩:=SlV.shape hu
 by_cases h0:m.length≤l.length
 ·obtain ⟨A',c',hrun,hP⟩:=dropP_run hv (j:=l.length-m.length) (by omega)
  have hE:=eqP_any _ _ _ m (lastP l m) (by unfold lastP;rw[decide_eq_true_eq];exact ⟨fun h=>h.2,fun h=>⟨h0,h⟩⟩) w hP hu (by rw[List.length_drop];omega) (by omega)
  have hsb:((l.length-m.length:Nat):Int)=(l.length:Int)-(m.length:Int):=by omega
  rw[hsb]at hrun
  have hw:wrap64 ((l.length:Int)-(m.length:Int))=(l.length:Int)-(m.length:Int):=by unfold wrap64;omega
  have hge:(0:Int)≤(l.length:Int)-(m.length:Int):=by omega
  rw[show l.length-(l.length-m.length)=m.length by omega]at hrun hE
  generalize lastP l m=r at *
  clear hP hv hu
  go_enter Tryz.func164,Tryz.ntmps164
  go_upto_region 2 with fail
  generalize (l.length:Int)-(m.length:Int)=dd at *
  go_wp2_with (go_at_call 221;refine hE.mono ?_;rintro e w1 ⟨rfl,hb1⟩)
  go_ret
  exact ⟨rfl,hb1⟩
 ·have hF : lastP l m = false := by
   unfold lastP
   rw[decide_eq_false_iff_not]
   exact fun h=>h0 h.1
  have hw:wrap64 ((l.length:Int)-(m.length:Int))=(l.length:Int)-(m.length:Int):=by unfold wrap64;omega
  have hge:¬(0:Int)≤(l.length:Int)-(m.length:Int):=by omega
  rw[hF]
  clear hv hu
  go_enter Tryz.func164,Tryz.ntmps164
  go_upto_region 2 with fail
  generalize (l.length:Int)-(m.length:Int)=dd at *
  go_wp2
  go_ret
  exact ⟨rfl,Below.refl _ _⟩
theorem nm_under_any (s b : ByteArray) (w : World) (hs : s.size ≤ 1000000000) (hb : b.size ≤ 1000000000) :
  Calls Tryz.prog 86 #[.string s,.string b] w fun e w'=>e=.returned (.bool (nmUnd (L s) (L b)))∧Below w.heap.size w w':=by
 have h1:=nm_normal_any s w hs
 have h2:=fun W=>nm_normal_any b W hb
 have hls:=normal_sm (L s)
 have hlb:=normal_sm (L b)
 have HR:Hid (nmUnd (L s) (L b)=((Idn.normal (L s)).2&&((Idn.normal (L b)).2&&lastP (Idn.normal (L s)).1 (Idn.normal (L b)).1))):=rfl
 generalize nmUnd (L s) (L b)=r at *
 generalize Idn.normal (L s)=nn at *
 generalize Idn.normal (L b)=mm at *
 obtain ⟨l,d⟩:=nn
 obtain ⟨m,k⟩:=mm
 dsimp only at HR hls hlb
 go_enter Tryz.func86,Tryz.ntmps86
 go_wp2_with fail
 refine h1.mono ?_
 rintro e w1 ⟨v1,rfl,ho1,hb1⟩
 obtain ⟨A1,c1,hsh⟩:=own_shape ho1
 subst hsh
 clear h1
 dsimp only at *
 go_wp2_with fail
 refine (h2 w1).mono ?_
 rintro e w2 ⟨v2,rfl,ho2,hb2⟩
 obtain ⟨A2,c2,hsh⟩:=own_shape ho2
 subst hsh
 have hP1:=PairsV.of_own (own_below ho1 hb2)
 have hP2:=PairsV.of_own ho2
 have hbw:=hb1.trans (hb2.mono hb1.size)
 clear h2 ho1 ho2 hb1 hb2
 dsimp only at *
 have hE:=nm_last_any _ _ l m w2 hP1 hP2 (by omega) (by omega)
 clear hP1 hP2
 generalize lastP l m=q at *
 cases d
 ·go_wp2
  go_ret
  exact ⟨by rw[HR.out];rfl,hbw⟩
 cases k
 ·go_wp2
  go_ret
  exact ⟨by rw[HR.out];rfl,hbw⟩
 go_wp2_with (go_at_call 164;refine hE.mono ?_;rintro e w3 ⟨rfl,hb3⟩)
 go_ret
 exact ⟨by rw[HR.out];rfl,hbw.trans (hb3.mono hbw.size)⟩
end Go.Proofs.YtbkkchhimhlhcaaGreatDoor
/- The program's tree: made, has, parented, Add, copied, Get, Delete of a name that no entry bears. -/
namespace Go.Proofs.YtbkkchhimhlhcaaGreatDoor
open Go.RowKit Go.Sort
open Idn (L B Bs drop_L take_L size_L)
theorem neq_mapT (o:Option Nat) (w:World):(binOp .neq 137 (.map o) (.map none)).run Tryz.prog w=.ok (.bool o.isSome) w:=by
 rw[run_neq_map_nil w 137 _ _ o Tryz.underlying137]
 cases o<;>rfl
theorem zeroAs (w:World):(zeroValue 46).run Tryz.prog w=.ok (.slice none 0 0) w:=by kernel_rfl
theorem treF_dom {es:List IxE} {g:Bs→Value} {n:Bs}:(treF es g n).isSome=hasE es n:=by
 unfold treF
 cases hasE es n<;>rfl
theorem valid_len {s:Bs} (h:validN s=true):s.length≤5000:=by
 unfold validN at h
 rw[Bool.and_eq_true,beq_iff_eq,beq_iff_eq]at h
 have:=cleanN_len s
 rw[h.2]at this
 exact this
theorem par_valid {s:Bs} (h:(nmPar s).2=true):validN (nmPar s).1=true:=by
 have hv:validN s=true:=by
  rw[←normal_valid]
  unfold nmPar at h
  cases e:(Idn.normal s).2 with
  |true=>rfl
  |false=>rw[e]at h;cases h
 exact (par_law s hv h).1
section
variable {w w':World} {hs lo pt:Nat} {es es':List IxE} {mb:Nat} {g g':Bs→Value}
theorem TrV.allMap (h:TrV w hs lo pt es mb g):AllMap w (·=mb):=fun k hk=>by
 have e:k=mb:=hk
 rw[e];exact h.mapb
theorem TrV.turn (h:TrV w hs lo pt es mb g) (hm:MapF w' mb (treF es' g')) (hv:Mv (·=mb) w w') (ha:∀e∈es',∃ps,AttOwn w' lo (g' e.1) ps∧ps.map (·.1)=e.2):TrV w' hs lo pt es' mb g' where
 c0:=hv.cell h.allMap h.c0
 ent:=hm
 att:=ha
 hsz:=Nat.le_trans h.hsz hv.size
 hsp:=h.hsp
 hsm:=h.hsm
 loz:=Nat.le_trans h.loz hv.size
theorem trMade_any (c0:w.cell? ⟨pt,0,none⟩=some (.map (some mb))):Calls Tryz.prog 94 #[.pointer (some ⟨pt,0,none⟩)] w fun e w'=>e=.returned (.bool true)∧w=w':=by
 have hq:=neq_mapT (some mb) w
 go_enter Tryz.func94,Tryz.ntmps94
 go_wp2
 go_ret
 exact ⟨rfl,rfl⟩
theorem trHas_any (h : TrV w hs lo pt es mb g) (n : Bs) (hn : n.length ≤ 1000000000) :
  Calls Tryz.prog 93 #[.pointer (some ⟨pt,0,none⟩),.string (B n)] w fun e w'=>e=.returned (.bool (hasE es n))∧w=w':=by
 have c0:=h.c0
 have hent:=h.ent
 rw[←treF_dom (g:=g)]
 generalize treF es g=f at *
 clear h
 go_enter Tryz.func93,Tryz.ntmps93
 go_wp2_with (at_lookup;refine wpList_lookF w rfl _ _ 137 rfl Tryz.underlying137 (zeroAs w) rfl hent n rfl (by unfold maxLen;omega) ?_)
 go_ret
 exact ⟨rfl,rfl⟩
theorem trPar_any (h : TrV w hs lo pt es mb g) (n : Bs) (hn : n.length ≤ 1000000) :
    Calls Tryz.prog 95 #[.pointer (some ⟨pt,0,none⟩),.string (B n)] w fun e w'=>e=.returned (.bool (trPar es n))∧Below w.heap.size w w':=by
 have hP:=nm_parent_any (B n) w (by rw[Idn.size_B];omega)
 rw[Idn.L_B]at hP
 have hpl:(nmPar n).2=true→(nmPar n).1.length≤5000:=fun h=>valid_len (par_valid h)
 have hH:=fun W (hW:Below w.heap.size w W) hl=>trHas_any (h.keep hW) (nmPar n).1 hl
 have HR:Hid (trPar es n=((nmPar n).2&&hasE es (nmPar n).1)):=rfl
 generalize trPar es n=r at *
 generalize nmPar n=pp at *
 obtain ⟨p,d⟩:=pp
 dsimp only at hP hpl hH HR
 cases d with
 |false=>
  go_enter Tryz.func95,Tryz.ntmps95
  go_wp2_with (go_at_call 85;refine hP.mono ?_;rintro e w1 ⟨rfl,hb⟩)
  go_ret
  exact ⟨by rw[HR.out];rfl,hb⟩
 |true=>
  have hl:=hpl rfl
  go_enter Tryz.func95,Tryz.ntmps95
  go_wp2_with (first
   |(go_at_call 85;refine hP.mono ?_;rintro e w1 ⟨rfl,hb⟩)
   |(go_at_call 93;refine (hH _ hb (by omega)).mono ?_;rintro e w2 ⟨rfl,rfl⟩))
  go_ret
  exact ⟨by rw[HR.out];rfl,hb⟩
theorem trCopied_any (h : TrV w hs lo pt es mb g) (hG : GdT es) {n : Bs} {A : List Idn.Att} (hA : (n, A) ∈ es) :
    Calls Tryz.prog 108 #[.pointer (some ⟨pt,0,none⟩),.string (B n)] w fun e w'=>∃k c ps,e=.returned (.agg #[.string (B n),.slice k A.length c])∧AttOwn w' w.heap.size (.slice k A.length c) ps∧ps.map (·.1)=A∧Below w.heap.size w w':=by
 have hn:=hG.nam _ hA
 have hat:=h.entry hA
 have hsm:=hG.sm hA
 have hsr:=hG.srt hA
 dsimp only at hn hsm hsr
 have hr:(treF es g n).getD (.slice none 0 0)=g n:=by rw[treF_mem hA];rfl
 obtain ⟨Ag,cg,hgn,_⟩:=SlV.shape hat
 rw[hgn]at hat hr
 have c0:=h.c0
 have hent:=h.ent
 go_enter Tryz.func108,Tryz.ntmps108
 go_upto_region 1 with fail
 with_reducible refine gen1 (R:=fun W=>Code.wp Tryz.prog _ _ _ W) ?_
 intro W hbW hszW hc hfz
 have z0:W.cell? ⟨w.heap.size,0,none⟩=some (.string ⟨#[]⟩):=hc 0 _ rfl
 have z1:W.cell? ⟨w.heap.size,1,none⟩=some (.slice none 0 0):=hc 1 _ rfl
 have g0:=hfz 0
 have g1:=hfz 1
 replace c0:=cell_later hbW c0
 have hentW:=hent.keep hbW
 have hS:=sortedG_any _ A W (AttsV.mono (AttsV.keep hat hbW) hbW.size) hsm
 have hzW:w.heap.size<W.heap.size:=by omega
 rw[hsr]at hS
 clear hc hfz hszW hgn hent
 go_wp2_with (first
  |(at_lookup;refine wpList_look1F W rfl _ _ 137 rfl Tryz.underlying137 (zeroAs W) rfl hentW n rfl (by unfold maxLen;omega) ?_;rw[hr])
  |(go_at_call 61;refine hS.mono ?_;rintro e w1 ⟨v,ps,rfl,hao,hps,hb1⟩;obtain ⟨k1,cc1,hsh,_⟩:=SlV.shape (hao.atts hps);subst hsh;replace z0:=cell_later hb1 z0;replace z1:=cell_later hb1 z1;replace g0:=(hb1.frozen (p:=⟨w.heap.size,0,none⟩) hzW).trans g0;replace g1:=(hb1.frozen (p:=⟨w.heap.size,1,none⟩) hzW).trans g1))
 have hbw:=hbW.trans (hb1.mono hbW.size)
 exact bodyPost_ret (v:=.agg #[.string (B n),.slice k1 A.length cc1]) (by simp[results,Tryz.results108,go_sem,z0,z1,g0,g1]) rfl ⟨k1,cc1,ps,rfl,((hao.setB (a:=⟨w.heap.size,0,none⟩) hzW _).setB (a:=⟨w.heap.size,1,none⟩) hzW _).lower hbW.size,hps,(hbw.setCell (p:=⟨w.heap.size,0,none⟩) (Nat.le_refl _) _).setCell (p:=⟨w.heap.size,1,none⟩) (Nat.le_refl _) _⟩
theorem trGet_any (h : TrV w hs lo pt es mb g) (hG : GdT es) (n : Bs) (hn : n.length ≤ 1000000) :
    Calls Tryz.prog 173 #[.pointer (some ⟨pt,0,none⟩),.string (B n)] w fun e w'=>∃s k l c,e=.returned (.tuple #[.agg #[.string s,.slice k l c],.bool (hasE es n)])∧Below w.heap.size w w':=by
 have c0:=h.c0
 have hM:=fun W (hW:Below w.heap.size w W)=>trMade_any (cell_later hW c0)
 have hH:=fun W (hW:Below w.heap.size w W)=>trHas_any (h.keep hW) n (by omega)
 have hC:=fun A (hA:(n,A)∈es) W (hW:Below w.heap.size w W)=>trCopied_any (h.keep hW) hG hA
 cases hh:hasE es n with
 |false=>
  rw[hh]at hH
  go_enter Tryz.func173,Tryz.ntmps173
  go_upto_region 1 with fail
  with_reducible refine gen1 (R:=fun W=>Code.wp Tryz.prog _ _ _ W) ?_
  intro W hbW hszW hc hfz
  have z0:W.cell? ⟨w.heap.size,0,none⟩=some (.string ⟨#[]⟩):=hc 0 _ rfl
  have z1:W.cell? ⟨w.heap.size,1,none⟩=some (.slice none 0 0):=hc 1 _ rfl
  have g0:=hfz 0
  have g1:=hfz 1
  clear hc hfz hszW
  go_wp2_with (first
   |(go_at_call 94;refine (hM _ hbW).mono ?_;rintro e w1 ⟨rfl,rfl⟩)
   |(go_at_call 93;refine (hH _ hbW).mono ?_;rintro e w2 ⟨rfl,rfl⟩))
  exact bodyPost_ret (v:=.tuple #[.agg #[.string ⟨#[]⟩,.slice none 0 0],.bool false]) (by simp[results,Tryz.results173,go_sem,z0,z1,g0,g1]) rfl ⟨_,_,_,_,rfl,(hbW.setCell (p:=⟨w.heap.size,0,none⟩) (Nat.le_refl _) _).setCell (p:=⟨w.heap.size,1,none⟩) (Nat.le_refl _) _⟩
 |true=>
  obtain ⟨A,hA⟩:=hasE_iff.1 hh
  rw[hh]at hH
  replace hC:=hC A hA
  go_enter Tryz.func173,Tryz.ntmps173
  go_upto_region 1 with fail
  with_reducible refine gen1 (R:=fun W=>Code.wp Tryz.prog _ _ _ W) ?_
  intro W hbW hszW hc hfz
  have z0:W.cell? ⟨w.heap.size,0,none⟩=some (.string ⟨#[]⟩):=hc 0 _ rfl
  have z1:W.cell? ⟨w.heap.size,1,none⟩=some (.slice none 0 0):=hc 1 _ rfl
  have g0:=hfz 0
  have g1:=hfz 1
  have hzW:w.heap.size<W.heap.size:=by omega
  clear hc hfz hszW
  go_wp2_with (first
   |(go_at_call 94;refine (hM _ hbW).mono ?_;rintro e w1 ⟨rfl,rfl⟩)
   |(go_at_call 93;refine (hH _ hbW).mono ?_;rintro e w2 ⟨rfl,rfl⟩)
   |(go_at_call 108;refine (hC _ hbW).mono ?_;rintro e w3 ⟨k3,c3,ps,rfl,_,_,hb3⟩;replace z0:=cell_later hb3 z0;replace z1:=cell_later hb3 z1;replace g0:=(hb3.frozen (p:=⟨w.heap.size,0,none⟩) hzW).trans g0;replace g1:=(hb3.frozen (p:=⟨w.heap.size,1,none⟩) hzW).trans g1))
  have hbw:=hbW.trans (hb3.mono hbW.size)
  exact bodyPost_ret (v:=.tuple #[.agg #[.string (B n),.slice k3 A.length c3],.bool true]) (by simp[results,Tryz.results173,go_sem,z0,z1,g0,g1]) rfl ⟨_,_,_,_,rfl,(hbw.setCell (p:=⟨w.heap.size,0,none⟩) (Nat.le_refl _) _).setCell (p:=⟨w.heap.size,1,none⟩) (Nat.le_refl _) _⟩
theorem bang_no (hG:GdT es):hasE es [33]=false:=by
 cases hh:hasE es [33]with
 |false=>rfl
 |true=>
  obtain ⟨A,hA⟩:=hasE_iff.1 hh
  have:=hG.ok.val _ hA
  rw[show validN ([33]:Bs)=false from by kernel_rfl]at this
  cases this
theorem trDelB_any (h : TrV w hs lo pt es mb g) (hG : GdT es) :
    Calls Tryz.prog 172 #[.pointer (some ⟨pt,0,none⟩),.string ⟨#[33]⟩] w fun e w'=>e=.returned (.int .i64 6)∧w=w':=by
 have hM:=trMade_any h.c0
 have hH:=trHas_any h [33] (by decide)
 rw[bang_no hG]at hH
 have hH':Calls Tryz.prog 93 #[.pointer (some ⟨pt,0,none⟩),.string ⟨#[33]⟩] w fun e w'=>e=.returned (.bool false)∧w=w':=hH
 clear hH
 go_enter Tryz.func172,Tryz.ntmps172
 go_wp2_with (first
  |(go_at_call 94;refine hM.mono ?_;rintro e w1 ⟨rfl,rfl⟩)
  |(go_at_call 93;refine hH'.mono ?_;rintro e w2 ⟨rfl,rfl⟩))
 go_ret
 exact ⟨rfl,rfl⟩
end
end Go.Proofs.YtbkkchhimhlhcaaGreatDoor
/- The program's tree: Add. -/
namespace Go.Proofs.YtbkkchhimhlhcaaGreatDoor
open Go.RowKit Go.Sort
open Idn (L B Bs drop_L take_L size_L)
section
variable {w w':World} {hs lo pt:Nat} {es es':List IxE} {mb:Nat} {g g':Bs→Value}
theorem trAdd_any (h : TrV w hs lo pt es mb g) (hG : GdT es) (n : Bs) (hn : n.length ≤ 1000000) (av : Value) (A : List Idn.Att) (hatv : AttsV w w.heap.size av A) (hA7 : Idn.ASm7 A) :
    Calls Tryz.prog 30 #[.pointer (some ⟨pt,0,none⟩),.agg #[.string (B n),av]] w fun e w'=>e=.returned (.int .i64 (trAdd es n A).1)∧∃g',TrV w' hs lo pt (trAdd es n A).2 mb g'∧Mv (·=mb) w w':=by
 have hnm:n.length≤1000000000:=by omega
 obtain ⟨Ag,cg,rfl,_⟩:=SlV.shape hatv
 have hR:trAdd es n A=if n.isEmpty||!validN n then (5,es)else if hasE es n then (7,es)else if !trPar es n then (6,es)else if 256≤es.length then (3,es)else (0,insE n (Idn.rSorted A) es):=rfl
 have HR:=Lib.hid hR
 clear hR
 have hkeep:∀W',Below w.heap.size w W'→∃g',TrV W' hs lo pt es mb g'∧Mv (·=mb) w W':=fun W' hW=>⟨g,h.keep hW,Mv.of_below hW _⟩
 have hVn:=fun W=>nm_valid_any (B n) W (by rw[Idn.size_B];omega)
 have hHn:=fun W (hW:Below w.heap.size w W)=>trHas_any (h.keep hW) n hnm
 have hPn:=fun W (hW:Below w.heap.size w W)=>trPar_any (h.keep hW) n hn
 simp only[Idn.L_B]at hVn
 have c0:=h.c0
 go_enter Tryz.func30,Tryz.ntmps30
 go_upto_region 1 with fail
 with_reducible refine gen1 (R:=fun W=>Code.wp Tryz.prog _ _ _ W) ?_
 intro W hb hszW hc _
 have q0:W.cell? ⟨w.heap.size,0,none⟩=some (.string (B n)):=hc 0 _ rfl
 have q1:W.cell? ⟨w.heap.size,1,none⟩=some (.slice Ag A.length cg):=hc 1 _ rfl
 replace c0:=cell_later hb c0
 clear hc hszW
 go_upto_region 3 with (go_at_call 94;refine (trMade_any c0).mono ?_;rintro e w0 ⟨rfl,rfl⟩)
 by_cases h0:n=[]
 ·have hbe:(B n).toList.isEmpty=true:=by rw[toList_L,Idn.L_B,h0];rfl
  have HF:Hid (trAdd es n A=(5,es)):=by show _=_;rw[HR.out,h0];rfl
  clear h0 HR hVn hHn hPn
  go_wp2
  go_ret
  rw[HF.out]
  exact ⟨rfl,hkeep _ hb⟩
 have hbe:(B n).toList.isEmpty=false:=by rw[toList_L,Idn.L_B];cases n<;>simp_all
 have hie:n.isEmpty=false:=by cases n<;>simp_all
 cases hvn:validN n with
 |false=>
  have HF:Hid (trAdd es n A=(5,es)):=by show _=_;rw[HR.out,hie,hvn];rfl
  rw[hvn]at hVn
  clear h0 HR hvn hie hHn hPn
  go_wp2_with (go_at_call 58;refine (hVn _).mono ?_;rintro e w1 ⟨rfl,hb1⟩)
  go_ret
  rw[HF.out]
  exact ⟨rfl,hkeep _ (hb.trans (hb1.mono hb.size))⟩
 |true=>
 rw[hvn]at hVn
 have HR2:Hid (trAdd es n A=if hasE es n then (7,es)else if !trPar es n then (6,es)else if 256≤es.length then (3,es)else (0,insE n (Idn.rSorted A) es)):=by show _=_;rw[HR.out,hie,hvn];rfl
 clear HR h0 hie
 go_upto_region 5 with (go_at_call 58;refine (hVn _).mono ?_;rintro e w1 ⟨rfl,hb1⟩)
 have hbw1:=hb.trans (hb1.mono hb.size)
 replace q0:=cell_later hb1 q0
 replace q1:=cell_later hb1 q1
 replace c0:=cell_later hb1 c0
 have hHn1:=hHn w1 hbw1
 have hPn1:=hPn w1 hbw1
 clear hb hb1 hVn hHn hPn hbe
 cases hh:hasE es n with
 |true=>
  have HF:Hid (trAdd es n A=(7,es)):=by show _=_;rw[HR2.out,hh];rfl
  rw[hh]at hHn1
  clear HR2 hPn1
  go_wp2_with (go_at_call 93;refine hHn1.mono ?_;rintro e w2 ⟨rfl,rfl⟩)
  go_ret
  rw[HF.out]
  exact ⟨rfl,hkeep _ hbw1⟩
 |false=>
 rw[hh]at hHn1
 have HR3:Hid (trAdd es n A=if !trPar es n then (6,es)else if 256≤es.length then (3,es)else (0,insE n (Idn.rSorted A) es)):=by show _=_;rw[HR2.out,hh];rfl
 clear HR2
 go_upto_region 7 with (go_at_call 93;refine hHn1.mono ?_;rintro e w2 ⟨rfl,rfl⟩)
 cases hpp:trPar es n with
 |false=>
  have HF:Hid (trAdd es n A=(6,es)):=by show _=_;rw[HR3.out,hpp];rfl
  rw[hpp]at hPn1
  clear HR3 hHn1
  go_wp2_with (go_at_call 95;refine hPn1.mono ?_;rintro e w2 ⟨rfl,hb2⟩)
  go_ret
  rw[HF.out]
  exact ⟨rfl,hkeep _ (hbw1.trans (hb2.mono hbw1.size))⟩
 |true=>
 rw[hpp]at hPn1
 have HR4:Hid (trAdd es n A=if 256≤es.length then (3,es)else (0,insE n (Idn.rSorted A) es)):=by show _=_;rw[HR3.out,hpp];rfl
 clear HR3 hHn1
 go_upto_region 9 with (go_at_call 95;refine hPn1.mono ?_;rintro e w2 ⟨rfl,hb2⟩)
 have hbw2:=hbw1.trans (hb2.mono hbw1.size)
 replace q0:=cell_later hb2 q0
 replace q1:=cell_later hb2 q1
 replace c0:=cell_later hb2 c0
 have h2:=h.keep hbw2
 have hm2:=h2.ent
 have hlen:∀ks:List Bs,ks.Nodup→(∀x,x∈ks↔treF es g x≠none)→ks.length=es.length:=fun ks h1 h3=>len_names hG.ok h1 fun x=>by rw[h3,treF_some,mem_names]
 clear hPn1 hb2 hbw1
 by_cases hfl:256≤es.length
 ·have HF:Hid (trAdd es n A=(3,es)):=by show _=_;rw[HR4.out,if_pos hfl]
  have hflI:(256:Int)≤(es.length:Int):=by omega
  clear HR4
  go_wp2_with (at_len;refine wpList_lenF _ rfl _ 137 rfl Tryz.underlying137 rfl hm2 ?_;intro ks hnd hks;rw[hlen ks hnd hks])
  go_ret
  rw[HF.out]
  exact ⟨rfl,hkeep _ hbw2⟩
 have HF:Hid (trAdd es n A=(0,insE n (Idn.rSorted A) es)):=by show _=_;rw[HR4.out,if_neg hfl]
 have hflI:¬(256:Int)≤(es.length:Int):=by omega
 clear HR4
 go_upto_region 11 with (at_len;refine wpList_lenF _ rfl _ 137 rfl Tryz.underlying137 rfl hm2 ?_;intro ks hnd hks;rw[hlen ks hnd hks])
 have k0:w2.drew.cell? ⟨w.heap.size,0,none⟩=some (.string (B n)):=q0
 have k1:w2.drew.cell? ⟨w.heap.size,1,none⟩=some (.slice Ag A.length cg):=q1
 have kc:w2.drew.cell? ⟨pt,0,none⟩=some (.map (some mb)):=c0
 have hd:=h2.keep (Below.refl _ w2).drew
 have hbd:Below w.heap.size w w2.drew:=hbw2.drew
 have hatd:AttsV w2.drew w2.drew.heap.size (.slice Ag A.length cg) A:=AttsV.mono (AttsV.keep hatv hbd) hbd.size
 have hall:=hd.allMap
 clear q0 q1 c0 hm2 h2
 refine wp_region_held_drew (S:=fun W'=>Mv (·=mb) w2.drew W') (by kernel_rfl) (Mv.refl _ _) (fun hHeld=>?_)
 refine wpAnyH_take (i:=0) (oi:=⟨_,_,_,_,_,_⟩) (v:=?x1v) rfl (by kernel_rfl) (by kernel_rfl) (by kernel_rfl) (fun _ _ _ h=>h) (Or.inl ⟨by rfl,?x1h⟩) (by assumption) ?x1r
 rotate_left 1
 ·(intro w hSw;(try dsimp only at hSw);go_simp;(try with_reducible rfl))
 try simp only[Act.put,List.setIfInBounds_toArray,List.set_cons_zero,List.set_cons_succ]
 refine wpAnyH_take (i:=1) (oi:=⟨_,_,_,_,_,_⟩) (v:=?x2v) rfl (by kernel_rfl) (by kernel_rfl) (by kernel_rfl) (fun _ _ _ h=>h) (Or.inl ⟨by rfl,?x2h⟩) (by assumption) ?x2r
 rotate_left 1
 ·(intro w hSw;(try dsimp only at hSw);go_simp;(try with_reducible rfl))
 try simp only[Act.put,List.setIfInBounds_toArray,List.set_cons_zero,List.set_cons_succ]
 refine wpAnyH_take (i:=2) (oi:=⟨_,_,_,_,_,_⟩) (v:=?x3v) rfl (by kernel_rfl) (by kernel_rfl) (by kernel_rfl) (fun _ _ _ h=>h) (Or.inl ⟨by rfl,?x3h⟩) (by assumption) ?x3r
 rotate_left 1
 ·(intro w hSw;(try dsimp only at hSw);go_simp;(try with_reducible rfl))
 try simp only[Act.put,List.setIfInBounds_toArray,List.set_cons_zero,List.set_cons_succ]
 refine wpAnyH_take (i:=3) (oi:=⟨_,_,_,_,_,_⟩) (v:=?x4v) rfl (by kernel_rfl) (by kernel_rfl) (by kernel_rfl) (fun _ _ _ h=>h) (Or.inl ⟨by rfl,?x4h⟩) (by assumption) ?x4r
 rotate_left 1
 ·(intro w hSw;(try dsimp only at hSw);have f3:=hSw.cell hall kc;go_simp;(try with_reducible rfl))
 try simp only[Act.put,List.setIfInBounds_toArray,List.set_cons_zero,List.set_cons_succ]
 refine wpAnyH_take (i:=4) (oi:=⟨_,_,_,_,_,_⟩) (v:=?x5v) rfl (by kernel_rfl) (by kernel_rfl) (by kernel_rfl) (fun _ _ _ h=>h) (Or.inl ⟨by rfl,?x5h⟩) (by assumption) ?x5r
 rotate_left 1
 ·(intro w hSw;(try dsimp only at hSw);go_simp;(try with_reducible rfl))
 try simp only[Act.put,List.setIfInBounds_toArray,List.set_cons_zero,List.set_cons_succ]
 refine wpAnyH_take (i:=5) (oi:=⟨_,_,_,_,_,_⟩) (v:=?x6v) rfl (by kernel_rfl) (by kernel_rfl) (by kernel_rfl) (fun _ _ _ h=>h) (Or.inl ⟨by rfl,?x6h⟩) (by assumption) ?x6r
 rotate_left 1
 ·(intro w hSw;(try dsimp only at hSw);have f5:=hSw.cell hall k0;go_simp;(try with_reducible rfl))
 try simp only[Act.put,List.setIfInBounds_toArray,List.set_cons_zero,List.set_cons_succ]
 refine wpAnyH_take (i:=6) (oi:=⟨_,_,_,_,_,_⟩) (v:=?x7v) rfl (by kernel_rfl) (by kernel_rfl) (by kernel_rfl) (fun _ _ _ h=>h) (Or.inl ⟨by rfl,?x7h⟩) (by assumption) ?x7r
 rotate_left 1
 ·(intro w hSw;(try dsimp only at hSw);go_simp;(try with_reducible rfl))
 try simp only[Act.put,List.setIfInBounds_toArray,List.set_cons_zero,List.set_cons_succ]
 refine wpAnyH_take (i:=7) (oi:=⟨_,_,_,_,_,_⟩) (v:=?x8v) rfl (by kernel_rfl) (by kernel_rfl) (by kernel_rfl) (fun _ _ _ h=>h) (Or.inl ⟨by rfl,?x8h⟩) (by assumption) ?x8r
 rotate_left 1
 ·(intro w hSw;(try dsimp only at hSw);have f7:=hSw.cell hall k1;go_simp;(try with_reducible rfl))
 try simp only[Act.put,List.setIfInBounds_toArray,List.set_cons_zero,List.set_cons_succ]
 have hSo:=sortedG_any _ A w2.drew hatd hA7
 refine wpAnyH_ready (rs:=[8]) (by kernel_rfl) (by simp) ?_
 refine AllReadyH.cons (o:=⟨_,_,_,_,_,_⟩) rfl (fun K hK=>?_) AllReadyH.nil
 go_simp
 go_at_call 61
 refine hSo.mono ?_
 rintro e w5 ⟨v5,ps,rfl,hao,hps,hb5⟩
 obtain ⟨A5,c5,hsh,_⟩:=SlV.shape (hao.atts hps)
 subst hsh
 try go_wp2_with fail
 refine hK.out _ _ ?_ (fun hHeld=>?_)
 ·exact Mv.of_below hb5 _
 clear hK K hSo
 try simp only[Act.put,List.setIfInBounds_toArray,List.set_cons_zero,List.set_cons_succ]
 have h5:=hd.keep hb5
 obtain ⟨w9,hrun,hm9,hv9,hs9⟩:=h5.ent.run_put Tryz.underlying137 (l:=namesE es) (fun y hy=>treF_some.1 hy) (by have:=hG.len;unfold namesE;rw[List.length_map];omega) (k:=n) (by unfold maxLen;omega) (.slice A5 (Idn.rSorted A).length c5)
 refine wpAnyH_ready (rs:=[9]) (by kernel_rfl) (by simp) ?_
 refine AllReadyH.cons (o:=⟨_,_,_,_,_,_⟩) rfl (fun K hK=>?_) AllReadyH.nil
 go_simp
 refine hK.out _ _ ?_ (fun hHeld=>?_)
 ·exact (Mv.of_below hb5 _).trans hv9 fun j hj=>.inl hj
 clear hK K
 try simp only[Act.put,List.setIfInBounds_toArray,List.set_cons_zero,List.set_cons_succ]
 refine wpAnyH_done (by kernel_rfl) ?_ _
 rw[treF_put hG.ok hvn (Idn.rSorted A) _]at hm9
 have hfin:TrV w9 hs lo pt (insE n (Idn.rSorted A) es) mb fun y=>if y=n then .slice A5 (Idn.rSorted A).length c5 else g y:=by
  refine h5.turn hm9 hv9 fun e he=>?_
  rcases (insE_mem hvn hG.ok e).1 he with rfl|⟨h1,hne⟩
  ·refine ⟨ps,?_,hps⟩
   simp only[if_true]
   exact (hao.mv hv9 fun k hk=>.inr (h5.allMap k hk)).lower hd.loz
  ·obtain ⟨qs,h3,h4⟩:=h5.att e h1
   refine ⟨qs,?_,h4⟩
   simp only[if_neg hne]
   exact h3.mv hv9 fun k hk=>.inr (h5.allMap k hk)
 have hmv:Mv (·=mb) w w9:=(Mv.of_below hbd _).trans ((Mv.of_below hb5 _).trans hv9 fun j hj=>.inl hj) fun j hj=>.inl hj
 have HX:Hid (∃g',TrV w9 hs lo pt (insE n (Idn.rSorted A) es) mb g'∧Mv (·=mb) w w9):=⟨_,hfin,hmv⟩
 clear hfin hmv h5 hd hao hHeld hm9 hv9 hrun
 go_wp2
 go_ret
 rw[HF.out]
 exact ⟨rfl,HX.out⟩
end
end Go.Proofs.YtbkkchhimhlhcaaGreatDoor
/- search: Check, Within. -/
namespace Go.Proofs.YtbkkchhimhlhcaaGreatDoor
open Go.RowKit Go.Sort
open Idn (L B Bs drop_L take_L size_L)
theorem all_takeS {p:Bs→Bool} {l:List Bs} {k:Nat} (h:(l.take k).all p=true) (hk:k<l.length) (hp:p l[k]=true):(l.take (k+1)).all p=true:=by
 rw[List.take_succ_eq_append_getElem hk,List.all_append,h]
 simp[hp]
theorem all_no {p:Bs→Bool} {l:List Bs} {k:Nat} (hk:k<l.length) (hp:p l[k]=false):l.all p=false:=by
 rw[List.all_eq_false]
 exact ⟨l[k],List.getElem_mem hk,by rw[hp];decide⟩
section
variable {w:World} {d:Nat} {v:Value} {q:Qry}
theorem seCheck_any (hq : QryV w w.heap.size d v q) (hs : QSm q) :
  Calls Tryz.prog 23 #[v] w fun e w'=>e=.returned (.int .i64 (qChk q))∧Below w.heap.size w w':=by
 obtain ⟨Ap,cp,Ak,ck,An,cn,rfl,hF,hN⟩:=hq.shape
 have hVn:=fun W=>nm_valid_any (B q.base) W (by have:=hs.base;rw[Idn.size_B];omega)
 have hCk:=fun W (hW:Below w.heap.size w W)=>fCheck_any d _ q.flt W (hF.on hW) hs.flt
 have hNm:=fun (k:Nat) (hk:k<q.names.length) W=>name_any (B q.names[k]) W (by have:=hs.nam _ (List.getElem_mem hk);rw[Idn.size_B];omega)
 have hnl:=hs.len
 simp only[Idn.L_B]at hVn hNm
 have HR:Hid (qChk q=if !validN q.base then 5 else if q.scope<1∨3<q.scope then 2 else if fCheck q.flt≠0 then fCheck q.flt else if 32<q.names.length then 3 else if !q.names.all Idn.name then 5 else if q.limit<1∨256<q.limit then 27 else 0):=rfl
 generalize qChk q=r at *
 clear hs hq
 obtain ⟨base,scope,flt,names,limit⟩:=q
 dsimp only at *
 go_enter Tryz.func23,Tryz.ntmps23
 go_upto_region 1 with fail
 with_reducible refine gen1 (R:=fun W=>Code.wp Tryz.prog _ _ _ W) ?_
 intro W hbW hszW hc _
 have b0:W.cell? ⟨w.heap.size,0,none⟩=some (.string (B base)):=hc 0 _ rfl
 have b1:W.cell? ⟨w.heap.size,1,none⟩=some (.int .i64 scope):=hc 1 _ rfl
 have b2:W.cell? ⟨w.heap.size,2,none⟩=some (.int .i64 flt.kind):=hc 2 _ rfl
 have b3:W.cell? ⟨w.heap.size,3,none⟩=some (.string (B flt.name)):=hc 3 _ rfl
 have b4:W.cell? ⟨w.heap.size,4,none⟩=some (.string (B flt.value)):=hc 4 _ rfl
 have b5:W.cell? ⟨w.heap.size,5,none⟩=some (.slice Ap flt.parts.length cp):=hc 5 _ rfl
 have b6:W.cell? ⟨w.heap.size,6,none⟩=some (.slice Ak flt.kids.length ck):=hc 6 _ rfl
 have b7:W.cell? ⟨w.heap.size,7,none⟩=some (.slice An names.length cn):=hc 7 _ rfl
 have b8:W.cell? ⟨w.heap.size,8,none⟩=some (.int .i64 limit):=hc 8 _ rfl
 clear hc hszW hF
 cases hv:validN base
 case false=>
  have HF:Hid (r=5):=by show _=_;rw[HR.out,hv];rfl
  rw[hv]at hVn
  clear HR hCk hNm hN
  go_wp2_with (go_at_call 58;refine (hVn _).mono ?_;rintro e w1 ⟨rfl,hb1⟩)
  go_ret
  exact ⟨ret_int HF.out.symm,hbW.trans (hb1.mono hbW.size)⟩
 rw[hv]at hVn
 have HR1:Hid (r=if scope<1∨3<scope then 2 else if fCheck flt≠0 then fCheck flt else if 32<names.length then 3 else if !names.all Idn.name then 5 else if limit<1∨256<limit then 27 else 0):=by show _=_;rw[HR.out,hv];rfl
 clear HR hv
 go_upto_region 3 with (go_at_call 58;refine (hVn _).mono ?_;rintro e w1 ⟨rfl,hb1⟩)
 have hbw1:=hbW.trans (hb1.mono hbW.size)
 replace b1:=cell_later hb1 b1
 replace b2:=cell_later hb1 b2
 replace b3:=cell_later hb1 b3
 replace b4:=cell_later hb1 b4
 replace b5:=cell_later hb1 b5
 replace b6:=cell_later hb1 b6
 replace b7:=cell_later hb1 b7
 replace b8:=cell_later hb1 b8
 clear b0 hVn hb1 hbW
 by_cases h1:scope<1
 ·have HF:Hid (r=2):=by show _=_;rw[HR1.out,if_pos (.inl h1)]
  clear HR1 hCk hNm hN
  go_wp2
  go_ret
  exact ⟨ret_int HF.out.symm,hbw1⟩
 by_cases h2:3<scope
 ·have HF:Hid (r=2):=by show _=_;rw[HR1.out,if_pos (.inr h2)]
  clear HR1 hCk hNm hN
  go_wp2
  go_ret
  exact ⟨ret_int HF.out.symm,hbw1⟩
 have HR2:Hid (r=if fCheck flt≠0 then fCheck flt else if 32<names.length then 3 else if !names.all Idn.name then 5 else if limit<1∨256<limit then 27 else 0):=by show _=_;rw[HR1.out,if_neg (by omega)]
 clear HR1
 replace hCk:=hCk w1 hbw1
 generalize fCheck flt=fc at *
 go_upto_region 6 with (go_at_call 81;refine hCk.mono ?_;rintro e w2 ⟨rfl,hb2⟩)
 have hbw2:=hbw1.trans (hb2.mono hbw1.size)
 replace b7:=cell_later hb2 b7
 replace b8:=cell_later hb2 b8
 clear b1 b2 b3 b4 b5 b6 hCk hb2 hbw1
 by_cases h3:fc=0
 case neg=>
  have hI:(fc !=0)=true:=by simpa using h3
  have HF:Hid (r=fc):=by show _=_;rw[HR2.out,if_pos h3]
  clear HR2 hNm hN
  go_wp2
  go_ret
  exact ⟨ret_int HF.out.symm,hbw2⟩
 subst h3
 have HR3:Hid (r=if 32<names.length then 3 else if !names.all Idn.name then 5 else if limit<1∨256<limit then 27 else 0):=HR2.out
 clear HR2
 by_cases h4:32<names.length
 ·have hI:(32:Int)<(names.length:Int):=by omega
  have HF:Hid (r=3):=by show _=_;rw[HR3.out,if_pos h4]
  clear HR3 hNm hN
  go_wp2
  go_ret
  exact ⟨ret_int HF.out.symm,hbw2⟩
 have hI4:¬(32:Int)<(names.length:Int):=by omega
 have HR4:Hid (r=if !names.all Idn.name then 5 else if limit<1∨256<limit then 27 else 0):=by show _=_;rw[HR3.out,if_neg h4]
 clear HR3
 go_wp2_with fail
 go_loopw [31] (fun i wr=>∃k:Nat,k≤names.length∧i=.int .i64 k∧Below w2.heap.size w2 wr∧Hid ((names.take k).all Idn.name=true)) (fun i _=>names.length-(intOf i).toNat)
 case atStart=>exact ⟨0,Nat.zero_le _,rfl,Below.refl _ _,rfl⟩
 case round=>
  obtain ⟨k,hk,rfl,hb,hinv⟩:=hrel
  replace b8:=cell_later hb b8
  have hbw:=hbw2.trans (hb.mono hbw2.size)
  by_cases hlt:k<names.length
  ·have hltI:(k:Int)<(names.length:Int):=by omega
   obtain ⟨b,off,rfl,_,c0⟩:=StrsV.cell (SlV.keep hN hbw) hlt
   have hC:=hNm k hlt wr
   cases hnm:Idn.name names[k]
   ·have HF:Hid (r=5):=by show _=_;rw[HR4.out,all_no hlt hnm];rfl
    rw[hnm]at hC
    clear hinv hNm hnm HR4
    go_wp2_with (go_at_call 82;refine hC.mono ?_;rintro e w3 ⟨rfl,rfl⟩)
    go_ret
    exact ⟨ret_int HF.out.symm,hbw⟩
   ·have HF:=Lib.hid (all_takeS hinv.out hlt hnm)
    rw[hnm]at hC
    clear hinv hNm hnm HR4
    go_wp2_with (go_at_call 82;refine hC.mono ?_;rintro e w3 ⟨rfl,rfl⟩)
    go_roundw
    case rel=>exact ⟨k+1,by omega,by go_num,hb,HF⟩
    case measure=>simp[intOf];omega
  ·have hltI:¬(k:Int)<(names.length:Int):=by omega
   have hall:names.all Idn.name=true:=by
    have:=hinv.out
    rwa[List.take_of_length_le (by omega)]at this
   have HR5:Hid (r=if limit<1∨256<limit then 27 else 0):=by show _=_;rw[HR4.out,hall];rfl
   clear hinv HR4 hall hNm hN
   by_cases h5:limit<1
   ·have HF:Hid (r=27):=by show _=_;rw[HR5.out,if_pos (.inl h5)]
    clear HR5
    go_wp2
    go_ret
    exact ⟨ret_int HF.out.symm,hbw⟩
   by_cases h6:256<limit
   ·have HF:Hid (r=27):=by show _=_;rw[HR5.out,if_pos (.inr h6)]
    clear HR5
    go_wp2
    go_ret
    exact ⟨ret_int HF.out.symm,hbw⟩
   have HF:Hid (r=0):=by show _=_;rw[HR5.out,if_neg (by omega)]
   clear HR5
   go_wp2
   go_ret
   exact ⟨ret_int HF.out.symm,hbw⟩
theorem seIn_any (hq : QryV w w.heap.size d v q) (hb0 : q.base.length ≤ 1000000) (n : Bs) (hn : n.length ≤ 1000000) :
    Calls Tryz.prog 25 #[v,.string (B n)] w fun e w'=>e=.returned (.bool (qIn q n))∧Below w.heap.size w w':=by
 obtain ⟨Ap,cp,Ak,ck,An,cn,rfl,_,_⟩:=hq.shape
 have hVb:=fun W=>nm_valid_any (B q.base) W (by rw[Idn.size_B];omega)
 have hVn:=fun W=>nm_valid_any (B n) W (by rw[Idn.size_B];omega)
 have hPn:=fun W=>nm_parent_any (B n) W (by rw[Idn.size_B];omega)
 have hUn:=fun W=>nm_under_any (B n) (B q.base) W (by rw[Idn.size_B];omega) (by rw[Idn.size_B];omega)
 simp only[Idn.L_B]at hVb hVn hPn hUn
 have HR:Hid (qIn q n=(validN q.base&&(validN n&&(if q.scope=1 then n==q.base else if q.scope=2 then (nmPar n).2&&(nmPar n).1==q.base else if q.scope=3 then nmUnd n q.base else false)))):=rfl
 generalize qIn q n=r at *
 clear hq
 obtain ⟨base,scope,flt,names,limit⟩:=q
 dsimp only at *
 have ht:((B n).toList==(B base).toList)=(n==base):=by rw[toList_L,toList_L,Idn.L_B,Idn.L_B]
 have ht2:((B (nmPar n).1).toList==(B base).toList)=((nmPar n).1==base):=by rw[toList_L,toList_L,Idn.L_B,Idn.L_B]
 generalize validN base=vb at *
 generalize validN n=vn at *
 generalize nmUnd n base=un at *
 generalize nmPar n=pp at *
 obtain ⟨pn,pd⟩:=pp
 dsimp only at *
 generalize (n==base)=e1 at *
 generalize (pn==base)=e2 at *
 go_enter Tryz.func25,Tryz.ntmps25
 go_upto_region 1 with fail
 with_reducible refine gen1 (R:=fun W=>Code.wp Tryz.prog _ _ _ W) ?_
 intro W hbW hszW hc _
 have b0:W.cell? ⟨w.heap.size,0,none⟩=some (.string (B base)):=hc 0 _ rfl
 have b1:W.cell? ⟨w.heap.size,1,none⟩=some (.int .i64 scope):=hc 1 _ rfl
 clear hc hszW
 cases vn
 ·have HF:Hid (r=false):=by show _=_;rw[HR.out];simp
  clear HR hVb hPn hUn
  go_wp2_with (go_at_call 58;with_reducible refine (hVn _).mono ?_;rintro e w1 ⟨rfl,hb1⟩)
  go_ret
  exact ⟨ret_bool HF.out.symm,hbW.trans (hb1.mono hbW.size)⟩
 cases vb
 ·have HF:Hid (r=false):=by show _=_;rw[HR.out];simp
  clear HR hPn hUn
  go_wp2_with (first
   |(go_at_call 58;with_reducible refine (hVn _).mono ?_;rintro e w1 ⟨rfl,hb1⟩;replace b0:=cell_later hb1 b0;replace b1:=cell_later hb1 b1)
   |(go_at_call 58;with_reducible refine (hVb _).mono ?_;rintro e w2 ⟨rfl,hb2⟩))
  go_ret
  exact ⟨ret_bool HF.out.symm,(hbW.trans (hb1.mono hbW.size)).trans (hb2.mono (hbW.trans (hb1.mono hbW.size)).size)⟩
 have HR1:Hid (r=if scope=1 then e1 else if scope=2 then pd&&e2 else if scope=3 then un else false):=by show _=_;rw[HR.out];rfl
 clear HR
 go_upto_region 3 with (first
  |(go_at_call 58;with_reducible refine (hVn _).mono ?_;rintro e w1 ⟨rfl,hb1⟩;replace b0:=cell_later hb1 b0;replace b1:=cell_later hb1 b1)
  |(go_at_call 58;with_reducible refine (hVb _).mono ?_;rintro e w2 ⟨rfl,hb2⟩))
 have hbw1:=hbW.trans (hb1.mono hbW.size)
 have hbw:=hbw1.trans (hb2.mono hbw1.size)
 replace b0:=cell_later hb2 b0
 replace b1:=cell_later hb2 b1
 clear hVn hVb hb1 hb2 hbw1 hbW
 by_cases h1:scope=1
 ·subst h1
  have HF:Hid (r=e1):=HR1.out
  clear HR1 hPn hUn
  go_wp2
  go_ret
  exact ⟨ret_bool HF.out.symm,hbw⟩
 by_cases h2:scope=2
 ·subst h2
  have HF:Hid (r=(pd&&e2)):=HR1.out
  clear HR1 hUn
  cases pd
  ·go_wp2_with (go_at_call 85;refine (hPn _).mono ?_;rintro e w3 ⟨rfl,hb3⟩)
   go_ret
   exact ⟨ret_bool (by rw[HF.out];rfl),hbw.trans (hb3.mono hbw.size)⟩
  ·go_wp2_with (go_at_call 85;refine (hPn _).mono ?_;rintro e w3 ⟨rfl,hb3⟩;replace b0:=cell_later hb3 b0)
   go_ret
   exact ⟨ret_bool (by rw[HF.out];rfl),hbw.trans (hb3.mono hbw.size)⟩
 by_cases h3:scope=3
 ·subst h3
  have HF:Hid (r=un):=HR1.out
  clear HR1 hPn
  go_wp2_with (go_at_call 86;refine (hUn _).mono ?_;rintro e w3 ⟨rfl,hb3⟩)
  go_ret
  exact ⟨ret_bool HF.out.symm,hbw.trans (hb3.mono hbw.size)⟩
 have HF:Hid (r=false):=by show _=_;rw[HR1.out,if_neg h1,if_neg h2,if_neg h3]
 clear HR1 hPn hUn
 go_wp2
 go_ret
 exact ⟨ret_bool HF.out.symm,hbw⟩
end
end Go.Proofs.YtbkkchhimhlhcaaGreatDoor
/- identityref05: Parent, Depth, Under. -/
namespace Go.Proofs.YtbkkchhimhlhcaaGreatDoor
open Go.RowKit Go.Sort
open Idn (L B Bs drop_L take_L size_L)
theorem parts_smU (s:Bs):(partsN s).1.length≤8∧∀p∈(partsN s).1,p.1.length≤256∧p.2.length≤256:=by
 unfold partsN
 split
 ·exact parse_sm s
 ·simp
theorem nmPar_parts (s:Bs):nmPar s=if (partsN s).2&&!(partsN s).1.isEmpty then ((Idn.format (partsN s).1.tail).1,true)else ([],false):=by
 cases h:validN s with
 |true=>rw[parts_normal h];rfl
 |false=>
  rw[parts_none h]
  unfold nmPar
  rw[normal_none h];rfl
theorem nmUnd_parts (s b:Bs):nmUnd s b=((partsN s).2&&((partsN b).2&&(decide ((partsN b).1.length≤(partsN s).1.length)&&(Idn.format ((partsN s).1.drop ((partsN s).1.length-(partsN b).1.length))).1==b))):=by
 cases hs:validN s with
 |false=>
  rw[parts_none hs]
  unfold nmUnd
  rw[normal_none hs];rfl
 |true=>
  cases hb:validN b with
  |false=>
   rw[parts_none hb]
   unfold nmUnd
   rw[normal_none hb];simp
  |true=>
   rw[parts_normal hs,parts_normal hb,normal_valid,normal_valid,hs,hb,Bool.true_and,Bool.true_and]
   by_cases hl:(Idn.normal b).1.length≤(Idn.normal s).1.length
   ·rw[under_law hs hb hl,decide_eq_true hl,Bool.true_and]
   ·rw[decide_eq_false hl,Bool.false_and]
    unfold nmUnd lastP
    rw[decide_eq_false (fun h=>hl h.1)]
    simp
theorem fmt_check {l:List Idn.Pr} (h:(Idn.format l).2=0):Idn.check l=0∧Idn.format l=(Idn.fmtJ l,0):=by
 have h0:Idn.check l=0:=by
  unfold Idn.format at h
  split at h
  ·exact h
  ·rename_i e;simpa using e
 refine ⟨h0,?_⟩
 unfold Idn.format
 rw[if_neg (by rw[h0];decide)]
theorem parts_drop {s:Bs} (h:(partsN s).2=true) (k:Nat):Idn.check ((partsN s).1.drop k)=0∧Idn.format ((partsN s).1.drop k)=(Idn.fmtJ ((partsN s).1.drop k),0):=by
 have hv:validN s=true:=by
  cases e:validN s with
  |true=>rfl
  |false=>rw[parts_none e]at h;cases h
 obtain ⟨l,h1,h2,h3⟩:=valid_form hv
 rw[parts_normal hv,h3]
 dsimp only
 rw[←List.map_drop]
 exact fmt_check (by rw[Idn.format_nrm (check_drop k h1)])
theorem r5_parent_any (s : ByteArray) (w : World) (hs : s.size ≤ 1000000000) :
    Calls Tryz.prog 87 #[.string s] w fun e w'=>e=.returned (.tuple #[.string (B (nmPar (L s)).1),.bool (nmPar (L s)).2])∧Below w.heap.size w w':=by
 have hN:=r5_parts_any s w hs
 obtain ⟨h8,hsm⟩:=parts_smU (L s)
 have HR:=Lib.hid (nmPar_parts (L s))
 have hck:=fun h=>parts_drop (s:=L s) h 1
 generalize nmPar (L s)=r at *
 generalize partsN (L s)=nn at *
 obtain ⟨l,d⟩:=nn
 dsimp only at HR h8 hsm hck
 by_cases h0:d=true∧0<l.length
 ·obtain ⟨rfl,hp⟩:=h0
  obtain ⟨hc0,hc1⟩:=hck rfl
  have HF:Hid (r=(Idn.fmtJ (l.drop 1),true)):=by
   show _=_
   rw[HR.out]
   cases l with
   |nil=>simp at hp
   |cons p l=>
    have e:(Idn.format l).1=Idn.fmtJ l:=congrArg (·.1) hc1
    show ((Idn.format l).1,true)=_
    rw[e];rfl
  have hF:=fun v W (hv:PairsV W W.heap.size v (l.drop 1))=>r5_format_any v (l.drop 1) W hv hc0
  clear hc0 hc1 hck
  have hpI:((l.length:Int)==0)=false:=beq_eq_false_iff_ne.2 (by omega)
  clear HR hsm
  go_enter Tryz.func87,Tryz.ntmps87
  go_wp2_with fail
  refine hN.mono ?_
  rintro e w1 ⟨v,rfl,hown,hb⟩
  clear hN
  obtain ⟨A,c,hv⟩:=own_shape hown
  subst hv
  dsimp only at hown
  obtain ⟨A',c',hrun,hP⟩:=dropP_run (PairsV.of_own hown) (j:=1) (by omega)
  have hrun:∀W:World,(Instr.slice 152 (.slice A l.length c) (some (.int .i64 1)) none none).run Tryz.prog W=.ok (.slice A' (l.length-1) c') W:=hrun
  have hF1:=hF _ w1 hP
  generalize Idn.fmtJ (l.drop 1)=fm at *
  clear hF hP
  go_wp2_with (go_at_call 165;refine hF1.mono ?_;rintro e w2 ⟨rfl,hb2⟩)
  go_ret2
  exact ⟨by rw[HF.out];rfl,hb.trans (hb2.mono hb.size)⟩
 ·have HF : Hid (r = ([], false)) := by
    show _=_
    rw[HR.out]
    cases d with
    |false=>rfl
    |true=>
     cases l with
     |nil=>rfl
     |cons p l=>exact absurd ⟨rfl,by simp⟩ h0
  clear HR hsm
  cases d with
  |false=>
   go_enter Tryz.func87,Tryz.ntmps87
   go_wp2_with fail
   refine hN.mono ?_
   rintro e w1 ⟨v,rfl,hown,hb⟩
   obtain ⟨A,c,hv⟩:=own_shape hown
   subst hv
   clear hN
   go_wp2
   go_ret2
   exact ⟨by rw[HF.out];rfl,hb⟩
  |true=>
   have hl:l.length=0:=by
    rcases Nat.eq_zero_or_pos l.length with h|h
    ·exact h
    ·exact absurd ⟨rfl,h⟩ h0
   clear h0
   go_enter Tryz.func87,Tryz.ntmps87
   go_wp2_with fail
   refine hN.mono ?_
   rintro e w1 ⟨v,rfl,hown,hb⟩
   obtain ⟨A,c,hv⟩:=own_shape hown
   subst hv
   clear hN
   dsimp only at *
   rw[hl]
   go_wp2
   go_ret2
   exact ⟨by rw[HF.out];rfl,hb⟩
theorem r5_under_any (s b : ByteArray) (w : World) (hs : s.size ≤ 1000000000) (hb : b.size ≤ 1000000000) :
  Calls Tryz.prog 88 #[.string s,.string b] w fun e w'=>e=.returned (.bool (nmUnd (L s) (L b)))∧Below w.heap.size w w':=by
 have h1:=r5_parts_any s w hs
 have h2:=fun W=>r5_parts_any b W hb
 obtain ⟨hls,_⟩:=parts_smU (L s)
 obtain ⟨hlb,_⟩:=parts_smU (L b)
 have HR:=Lib.hid (nmUnd_parts (L s) (L b))
 have hck:=fun h k=>parts_drop (s:=L s) h k
 have hbl:=Idn.B_L b
 generalize nmUnd (L s) (L b)=r at *
 generalize partsN (L s)=nn at *
 generalize partsN (L b)=mm at *
 obtain ⟨l,d⟩:=nn
 obtain ⟨m,k⟩:=mm
 dsimp only at HR hls hlb hck
 go_enter Tryz.func88,Tryz.ntmps88
 go_wp2_with fail
 refine h1.mono ?_
 rintro e w1 ⟨v1,rfl,ho1,hb1⟩
 obtain ⟨A1,c1,hsh⟩:=own_shape ho1
 subst hsh
 clear h1
 dsimp only at *
 go_wp2_with fail
 refine (h2 w1).mono ?_
 rintro e w2 ⟨v2,rfl,ho2,hb2⟩
 obtain ⟨A2,c2,hsh⟩:=own_shape ho2
 subst hsh
 have hP1:=PairsV.of_own (own_below ho1 hb2)
 have hbw:=hb1.trans (hb2.mono hb1.size)
 clear h2 ho1 ho2 hb1 hb2
 dsimp only at *
 cases d
 ·have HF:Hid (r=false):=by show _=_;rw[HR.out];rfl
  clear HR hck hP1
  go_wp2
  go_ret
  exact ⟨ret_bool HF.out.symm,hbw⟩
 cases k
 ·have HF:Hid (r=false):=by show _=_;rw[HR.out];rfl
  clear HR hck hP1
  go_wp2
  go_ret
  exact ⟨ret_bool HF.out.symm,hbw⟩
 by_cases hlt:l.length<m.length
 ·have HF:Hid (r=false):=by show _=_;rw[HR.out,decide_eq_false (by omega)];rfl
  have hI:(l.length:Int)<(m.length:Int):=by omega
  clear HR hck hP1
  go_wp2
  go_ret
  exact ⟨ret_bool HF.out.symm,hbw⟩
 obtain ⟨hc0,hc1⟩:=hck rfl (l.length-m.length)
 have HF:Hid (r=(Idn.fmtJ (l.drop (l.length-m.length))==L b)):=by
  show _=_
  rw[HR.out,decide_eq_true (by omega),hc1];rfl
 obtain ⟨A',c',hrun,hP⟩:=dropP_run hP1 (j:=l.length-m.length) (by omega)
 have hF:=r5_format_any _ _ w2 hP hc0
 have hsb:((l.length-m.length:Nat):Int)=(l.length:Int)-(m.length:Int):=by omega
 rw[hsb]at hrun
 have hw:wrap64 ((l.length:Int)-(m.length:Int))=(l.length:Int)-(m.length:Int):=by unfold wrap64;omega
 have hI:¬(l.length:Int)<(m.length:Int):=by omega
 have ht:((B (Idn.fmtJ (l.drop (l.length-m.length)))).toList==b.toList)=(Idn.fmtJ (l.drop (l.length-m.length))==L b):=by rw[toList_L,toList_L,Idn.L_B]
 rw[show l.length-(l.length-m.length)=m.length by omega]at hrun hF
 clear HR hck hP1 hc0 hc1 hP
 generalize Idn.fmtJ (l.drop (l.length-m.length))=fm at *
 generalize (fm==L b)=q at *
 go_wp2_with (go_at_call 165;refine hF.mono ?_;rintro e w3 ⟨rfl,hb3⟩)
 go_ret
 exact ⟨ret_bool HF.out.symm,hbw.trans (hb3.mono hbw.size)⟩
end Go.Proofs.YtbkkchhimhlhcaaGreatDoor
/- identityref12: Check, Within. -/
namespace Go.Proofs.YtbkkchhimhlhcaaGreatDoor
open Go.RowKit Go.Sort
open Idn (L B Bs drop_L take_L size_L)
section
variable {w:World} {d:Nat} {v:Value} {q:Qry}
theorem r12_Check_any (hq : QryV w w.heap.size d v q) (hs : QSm q) :
  Calls Tryz.prog 24 #[v] w fun e w'=>e=.returned (.int .i64 (qChk q))∧Below w.heap.size w w':=by
 obtain ⟨Ap,cp,Ak,ck,An,cn,rfl,hF,hN⟩:=hq.shape
 have hVn:=fun W=>r5_Valid_any (B q.base) W (by have:=hs.base;rw[Idn.size_B];omega)
 have hCk:=fun W (hW:Below w.heap.size w W)=>r9_Check_any d _ q.flt W (hF.on hW) hs.flt
 have hNm:=fun (k:Nat) (hk:k<q.names.length) W=>r_name_any (B q.names[k]) W (by have:=hs.nam _ (List.getElem_mem hk);rw[Idn.size_B];omega)
 have hnl:=hs.len
 simp only[Idn.L_B]at hVn hNm
 have HR:Hid (qChk q=if !validN q.base then 5 else if q.scope<1∨3<q.scope then 2 else if fCheck q.flt≠0 then fCheck q.flt else if 32<q.names.length then 3 else if !q.names.all Idn.name then 5 else if q.limit<1∨256<q.limit then 27 else 0):=rfl
 generalize qChk q=r at *
 clear hs hq
 obtain ⟨base,scope,flt,names,limit⟩:=q
 dsimp only at *
 go_enter Tryz.func24,Tryz.ntmps24
 go_upto_region 1 with fail
 with_reducible refine gen1 (R:=fun W=>Code.wp Tryz.prog _ _ _ W) ?_
 intro W hbW hszW hc _
 have b0:W.cell? ⟨w.heap.size,0,none⟩=some (.string (B base)):=hc 0 _ rfl
 have b1:W.cell? ⟨w.heap.size,1,none⟩=some (.int .i64 scope):=hc 1 _ rfl
 have b2:W.cell? ⟨w.heap.size,2,none⟩=some (.int .i64 flt.kind):=hc 2 _ rfl
 have b3:W.cell? ⟨w.heap.size,3,none⟩=some (.string (B flt.name)):=hc 3 _ rfl
 have b4:W.cell? ⟨w.heap.size,4,none⟩=some (.string (B flt.value)):=hc 4 _ rfl
 have b5:W.cell? ⟨w.heap.size,5,none⟩=some (.slice Ap flt.parts.length cp):=hc 5 _ rfl
 have b6:W.cell? ⟨w.heap.size,6,none⟩=some (.slice Ak flt.kids.length ck):=hc 6 _ rfl
 have b7:W.cell? ⟨w.heap.size,7,none⟩=some (.slice An names.length cn):=hc 7 _ rfl
 have b8:W.cell? ⟨w.heap.size,8,none⟩=some (.int .i64 limit):=hc 8 _ rfl
 clear hc hszW hF
 cases hv:validN base
 case false=>
  have HF:Hid (r=5):=by show _=_;rw[HR.out,hv];rfl
  rw[hv]at hVn
  clear HR hCk hNm hN
  go_wp2_with (go_at_call 64;refine (hVn _).mono ?_;rintro e w1 ⟨rfl,hb1⟩)
  go_ret
  exact ⟨ret_int HF.out.symm,hbW.trans (hb1.mono hbW.size)⟩
 rw[hv]at hVn
 have HR1:Hid (r=if scope<1∨3<scope then 2 else if fCheck flt≠0 then fCheck flt else if 32<names.length then 3 else if !names.all Idn.name then 5 else if limit<1∨256<limit then 27 else 0):=by show _=_;rw[HR.out,hv];rfl
 clear HR hv
 go_upto_region 3 with (go_at_call 64;refine (hVn _).mono ?_;rintro e w1 ⟨rfl,hb1⟩)
 have hbw1:=hbW.trans (hb1.mono hbW.size)
 replace b1:=cell_later hb1 b1
 replace b2:=cell_later hb1 b2
 replace b3:=cell_later hb1 b3
 replace b4:=cell_later hb1 b4
 replace b5:=cell_later hb1 b5
 replace b6:=cell_later hb1 b6
 replace b7:=cell_later hb1 b7
 replace b8:=cell_later hb1 b8
 clear b0 hVn hb1 hbW
 by_cases h1:scope<1
 ·have HF:Hid (r=2):=by show _=_;rw[HR1.out,if_pos (.inl h1)]
  clear HR1 hCk hNm hN
  go_wp2
  go_ret
  exact ⟨ret_int HF.out.symm,hbw1⟩
 by_cases h2:3<scope
 ·have HF:Hid (r=2):=by show _=_;rw[HR1.out,if_pos (.inr h2)]
  clear HR1 hCk hNm hN
  go_wp2
  go_ret
  exact ⟨ret_int HF.out.symm,hbw1⟩
 have HR2:Hid (r=if fCheck flt≠0 then fCheck flt else if 32<names.length then 3 else if !names.all Idn.name then 5 else if limit<1∨256<limit then 27 else 0):=by show _=_;rw[HR1.out,if_neg (by omega)]
 clear HR1
 replace hCk:=hCk w1 hbw1
 generalize fCheck flt=fc at *
 go_upto_region 6 with (go_at_call 83;refine hCk.mono ?_;rintro e w2 ⟨rfl,hb2⟩)
 have hbw2:=hbw1.trans (hb2.mono hbw1.size)
 replace b7:=cell_later hb2 b7
 replace b8:=cell_later hb2 b8
 clear b1 b2 b3 b4 b5 b6 hCk hb2 hbw1
 by_cases h3:fc=0
 case neg=>
  have hI:(fc !=0)=true:=by simpa using h3
  have HF:Hid (r=fc):=by show _=_;rw[HR2.out,if_pos h3]
  clear HR2 hNm hN
  go_wp2
  go_ret
  exact ⟨ret_int HF.out.symm,hbw2⟩
 subst h3
 have HR3:Hid (r=if 32<names.length then 3 else if !names.all Idn.name then 5 else if limit<1∨256<limit then 27 else 0):=HR2.out
 clear HR2
 by_cases h4:32<names.length
 ·have hI:(32:Int)<(names.length:Int):=by omega
  have HF:Hid (r=3):=by show _=_;rw[HR3.out,if_pos h4]
  clear HR3 hNm hN
  go_wp2
  go_ret
  exact ⟨ret_int HF.out.symm,hbw2⟩
 have hI4:¬(32:Int)<(names.length:Int):=by omega
 have HR4:Hid (r=if !names.all Idn.name then 5 else if limit<1∨256<limit then 27 else 0):=by show _=_;rw[HR3.out,if_neg h4]
 clear HR3
 go_wp2_with fail
 go_loopw [4] (fun i wr=>∃k:Nat,k≤names.length∧i=.int .i64 k∧Below w2.heap.size w2 wr∧Hid ((names.take k).all Idn.name=true)) (fun i _=>names.length-(intOf i).toNat)
 case atStart=>exact ⟨0,Nat.zero_le _,rfl,Below.refl _ _,rfl⟩
 case round=>
  obtain ⟨k,hk,rfl,hb,hinv⟩:=hrel
  replace b8:=cell_later hb b8
  replace b7:=cell_later hb b7
  have hbw:=hbw2.trans (hb.mono hbw2.size)
  by_cases hlt:k<names.length
  ·have hltI:(k:Int)<(names.length:Int):=by omega
   obtain ⟨b,off,rfl,_,c0⟩:=StrsV.cell (SlV.keep hN hbw) hlt
   have hC:=hNm k hlt wr
   cases hnm:Idn.name names[k]
   ·have HF:Hid (r=5):=by show _=_;rw[HR4.out,all_no hlt hnm];rfl
    rw[hnm]at hC
    clear hinv hNm hnm HR4
    go_wp2_with (go_at_call 84;refine hC.mono ?_;rintro e w3 ⟨rfl,rfl⟩)
    go_ret
    exact ⟨ret_int HF.out.symm,hbw⟩
   ·have HF:=Lib.hid (all_takeS hinv.out hlt hnm)
    rw[hnm]at hC
    clear hinv hNm hnm HR4
    go_wp2_with (go_at_call 84;refine hC.mono ?_;rintro e w3 ⟨rfl,rfl⟩)
    go_roundw
    case rel=>exact ⟨k+1,by omega,by go_num,hb,HF⟩
    case measure=>simp[intOf];omega
  ·have hltI:¬(k:Int)<(names.length:Int):=by omega
   have hall:names.all Idn.name=true:=by
    have:=hinv.out
    rwa[List.take_of_length_le (by omega)]at this
   have HR5:Hid (r=if limit<1∨256<limit then 27 else 0):=by show _=_;rw[HR4.out,hall];rfl
   clear hinv HR4 hall hNm hN
   by_cases h5:limit<1
   ·have HF:Hid (r=27):=by show _=_;rw[HR5.out,if_pos (.inl h5)]
    clear HR5
    go_wp2
    go_ret
    exact ⟨ret_int HF.out.symm,hbw⟩
   by_cases h6:256<limit
   ·have HF:Hid (r=27):=by show _=_;rw[HR5.out,if_pos (.inr h6)]
    clear HR5
    go_wp2
    go_ret
    exact ⟨ret_int HF.out.symm,hbw⟩
   have HF:Hid (r=0):=by show _=_;rw[HR5.out,if_neg (by omega)]
   clear HR5
   go_wp2
   go_ret
   exact ⟨ret_int HF.out.symm,hbw⟩
theorem r12_In_any (hq : QryV w w.heap.size d v q) (hb0 : q.base.length ≤ 1000000) (n : Bs) (hn : n.length ≤ 1000000) :
    Calls Tryz.prog 26 #[v,.string (B n)] w fun e w'=>e=.returned (.bool (qIn q n))∧Below w.heap.size w w':=by
 obtain ⟨Ap,cp,Ak,ck,An,cn,rfl,_,_⟩:=hq.shape
 have hVb:=fun W=>r5_Valid_any (B q.base) W (by rw[Idn.size_B];omega)
 have hVn:=fun W=>r5_Valid_any (B n) W (by rw[Idn.size_B];omega)
 have hPn:=fun W=>r5_parent_any (B n) W (by rw[Idn.size_B];omega)
 have hUn:=fun W=>r5_under_any (B n) (B q.base) W (by rw[Idn.size_B];omega) (by rw[Idn.size_B];omega)
 simp only[Idn.L_B]at hVb hVn hPn hUn
 have HR:Hid (qIn q n=(validN q.base&&(validN n&&(if q.scope=1 then n==q.base else if q.scope=2 then (nmPar n).2&&(nmPar n).1==q.base else if q.scope=3 then nmUnd n q.base else false)))):=rfl
 generalize qIn q n=r at *
 clear hq
 obtain ⟨base,scope,flt,names,limit⟩:=q
 dsimp only at *
 have ht:((B n).toList==(B base).toList)=(n==base):=by rw[toList_L,toList_L,Idn.L_B,Idn.L_B]
 have ht2:((B (nmPar n).1).toList==(B base).toList)=((nmPar n).1==base):=by rw[toList_L,toList_L,Idn.L_B,Idn.L_B]
 generalize validN base=vb at *
 generalize validN n=vn at *
 generalize nmUnd n base=un at *
 generalize nmPar n=pp at *
 obtain ⟨pn,pd⟩:=pp
 dsimp only at *
 generalize (n==base)=e1 at *
 generalize (pn==base)=e2 at *
 go_enter Tryz.func26,Tryz.ntmps26
 go_upto_region 1 with fail
 with_reducible refine gen1 (R:=fun W=>Code.wp Tryz.prog _ _ _ W) ?_
 intro W hbW hszW hc _
 have b0:W.cell? ⟨w.heap.size,0,none⟩=some (.string (B base)):=hc 0 _ rfl
 have b1:W.cell? ⟨w.heap.size,1,none⟩=some (.int .i64 scope):=hc 1 _ rfl
 clear hc hszW
 cases vb
 ·have HF:Hid (r=false):=by show _=_;rw[HR.out];simp
  clear HR hVn hPn hUn
  go_wp2_with (go_at_call 64;with_reducible refine (hVb _).mono ?_;rintro e w1 ⟨rfl,hb1⟩)
  go_ret
  exact ⟨ret_bool HF.out.symm,hbW.trans (hb1.mono hbW.size)⟩
 cases vn
 ·have HF:Hid (r=false):=by show _=_;rw[HR.out];simp
  clear HR hPn hUn
  go_wp2_with (first
   |(go_at_call 64;with_reducible refine (hVb _).mono ?_;rintro e w1 ⟨rfl,hb1⟩;replace b0:=cell_later hb1 b0;replace b1:=cell_later hb1 b1)
   |(go_at_call 64;with_reducible refine (hVn _).mono ?_;rintro e w2 ⟨rfl,hb2⟩))
  go_ret
  exact ⟨ret_bool HF.out.symm,(hbW.trans (hb1.mono hbW.size)).trans (hb2.mono (hbW.trans (hb1.mono hbW.size)).size)⟩
 have HR1:Hid (r=if scope=1 then e1 else if scope=2 then pd&&e2 else if scope=3 then un else false):=by show _=_;rw[HR.out];rfl
 clear HR
 go_upto_region 3 with (first
  |(go_at_call 64;with_reducible refine (hVb _).mono ?_;rintro e w1 ⟨rfl,hb1⟩;replace b0:=cell_later hb1 b0;replace b1:=cell_later hb1 b1)
  |(go_at_call 64;with_reducible refine (hVn _).mono ?_;rintro e w2 ⟨rfl,hb2⟩))
 have hbw1:=hbW.trans (hb1.mono hbW.size)
 have hbw:=hbw1.trans (hb2.mono hbw1.size)
 replace b0:=cell_later hb2 b0
 replace b1:=cell_later hb2 b1
 clear hVn hVb hb1 hb2 hbw1 hbW
 by_cases h1:scope=1
 ·subst h1
  have HF:Hid (r=e1):=HR1.out
  clear HR1 hPn hUn
  go_wp2
  go_ret
  exact ⟨ret_bool HF.out.symm,hbw⟩
 by_cases h2:scope=2
 ·subst h2
  have HF:Hid (r=(pd&&e2)):=HR1.out
  clear HR1 hUn
  cases pd
  ·go_wp2_with (go_at_call 87;refine (hPn _).mono ?_;rintro e w3 ⟨rfl,hb3⟩)
   go_ret
   exact ⟨ret_bool (by rw[HF.out];rfl),hbw.trans (hb3.mono hbw.size)⟩
  ·go_wp2_with (go_at_call 87;refine (hPn _).mono ?_;rintro e w3 ⟨rfl,hb3⟩;replace b0:=cell_later hb3 b0)
   go_ret
   exact ⟨ret_bool (by rw[HF.out];rfl),hbw.trans (hb3.mono hbw.size)⟩
 by_cases h3:scope=3
 ·subst h3
  have HF:Hid (r=un):=HR1.out
  clear HR1 hPn
  go_wp2_with (go_at_call 88;refine (hUn _).mono ?_;rintro e w3 ⟨rfl,hb3⟩)
  go_ret
  exact ⟨ret_bool HF.out.symm,hbw.trans (hb3.mono hbw.size)⟩
 have HF:Hid (r=false):=by show _=_;rw[HR1.out,if_neg h1,if_neg h2,if_neg h3]
 clear HR1 hPn hUn
 go_wp2
 go_ret
 exact ⟨ret_bool HF.out.symm,hbw⟩
end
end Go.Proofs.YtbkkchhimhlhcaaGreatDoor
