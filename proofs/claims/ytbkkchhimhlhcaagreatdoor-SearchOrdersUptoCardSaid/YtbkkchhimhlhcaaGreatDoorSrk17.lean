/- Part 17 of the proof that identitylaw12.SearchChecks returns true for every data that it may be called with: proof: the package variables hold what the program lays; nothing else is asked. -/
import Derived.Test.YtbkkchhimhlhcaaGreatDoorSrk14
import Derived.Test.YtbkkchhimhlhcaaGreatDoorSrk16
import Derived.Deep.CutBlock
set_option linter.unusedVariables false
set_option linter.unusedSimpArgs false
set_option maxRecDepth 100000
set_option maxHeartbeats 16000000
/- name: value, trimmed, component. -/
namespace Go.Proofs.YtbkkchhimhlhcaaGreatDoor
open Go.RowKit Go.Sort
open Idn (L B Bs drop_L take_L size_L)
def valR (l:Bs):Bs×Bool:=match Idn.val l with|none=>([],false)|some v=>(v,true)
theorem valR_none {l:Bs} (h:Idn.val l=none):valR l=([],false):=by rw[valR,h]
theorem valR_some {l v:Bs} (h:Idn.val l=some v):valR l=(v,true):=by rw[valR,h]
theorem val_len:∀l v,Idn.val l=some v→v.length≤l.length:=by
 intro l
 induction l using Idn.val.induct with
 |case1=>intro v h;simp[Idn.val]at h;subst h;simp
 |case2 x hx=>intro v h;simp[Idn.val,hx]at h
 |case3 x hx=>intro v h;simp[Idn.val,hx]at h;subst h;simp
 |case4 x y l hx hy ih=>
  intro v h
  rw[Idn.val,if_pos hx,if_pos hy]at h
  obtain ⟨u,hu,rfl⟩:=Option.map_eq_some_iff.1 h
  have:=ih u hu;simp;omega
 |case5 x y l hx hy=>intro v h;rw[Idn.val,if_pos hx,if_neg hy]at h;cases h
 |case6 x y l hx hs=>intro v h;rw[Idn.val,if_neg hx,if_pos hs]at h;cases h
 |case7 x y l hx hs ih=>
  intro v h
  rw[Idn.val,if_neg hx,if_neg hs]at h
  obtain ⟨u,hu,rfl⟩:=Option.map_eq_some_iff.1 h
  have:=ih u hu;simp at this⊢;omega
theorem val_plain (s:ByteArray) (k:Nat) (hk:k<s.size) (h92:¬s[k]=92) (hs:Idn.special s[k]=false):Idn.val ((L s).drop k)=(Idn.val ((L s).drop (k+1))).map (s[k] :: ·):=by
 by_cases h2:k+1<s.size
 ·rw[drop_two s k h2,Idn.val,if_neg (by simpa using h92),if_neg (by simp[hs]),drop_L s (k+1) h2]
 ·rw[drop_last s k hk h2,drop_end s (k+1) h2]
  simp[Idn.val,hs]
theorem val_spec (s:ByteArray) (k:Nat) (hk:k<s.size) (h92:¬s[k]=92) (hs:Idn.special s[k]=true):Idn.val ((L s).drop k)=none:=by
 by_cases h2:k+1<s.size
 ·rw[drop_two s k h2,Idn.val,if_neg (by simpa using h92),if_pos hs]
 ·rw[drop_last s k hk h2];simp[Idn.val,hs]
theorem val_esc (s:ByteArray) (k:Nat) (h2:k+1<s.size) (h92:s[k]=92) (hs:Idn.special s[k+1]=true):Idn.val ((L s).drop k)=(Idn.val ((L s).drop (k+2))).map (s[k+1] :: ·):=by
 rw[drop_two s k h2,Idn.val,if_pos (by simpa using h92),if_pos hs]
theorem val_bad (s:ByteArray) (k:Nat) (h2:k+1<s.size) (h92:s[k]=92) (hs:Idn.special s[k+1]=false):Idn.val ((L s).drop k)=none:=by
 rw[drop_two s k h2,Idn.val,if_pos (by simpa using h92),if_neg (by simp[hs])]
theorem val_end (s:ByteArray) (k:Nat) (hk:k<s.size) (h2:¬k+1<s.size) (h92:s[k]=92):Idn.val ((L s).drop k)=none:=by
 rw[drop_last s k hk h2,h92];rfl
theorem map_app {a:Bs} {c:UInt8} {o:Option Bs}:(o.map (c :: ·)).map (a ++ ·)=o.map ((a++[c]) ++ ·):=by
 cases o<;>simp
theorem bytes_one (a:Bs) (c:UInt8):Lib.byteCells (a++[c])=Lib.byteCells a++[bc c]:=by rw[byteCells_app];rfl
theorem nm_value_any (s : ByteArray) (w : World) (hs : s.size ≤ 1000000000) :
  Calls Tryz.prog 285 #[.string s] w fun e w'=>e=.returned (.tuple #[.string (B (valR (L s)).1),.bool (valR (L s)).2])∧Below w.heap.size w w':=by
 have hB0:=Bld.new w
 generalize hr:valR (L s)=r
 have HR:=Lib.hid hr
 clear hr
 go_enter Tryz.func285,Tryz.ntmps285
 go_wp2
 go_loopw [5] (fun i wr=>∃(k:Nat) (acc:Bs),k≤s.size∧i=.int .i64 k∧Below w.heap.size w wr∧Bld w.heap.size w.heap.size (Lib.byteCells acc) wr∧Hid (Idn.val (L s)=(Idn.val ((L s).drop k)).map (acc ++ ·))∧acc.length≤k) (fun i _=>s.size-(intOf i).toNat)
 case atStart=>exact ⟨0,[],Nat.zero_le _,rfl,(Below.refl _ _).alloc (Nat.le_refl _) _,hB0,by show _=_;simp,Nat.le_refl _⟩
 case round=>
  obtain ⟨k,acc,hk,rfl,hb,hB,hinv,hal⟩:=hrel
  clear hB0
  have hWB:=fun c=>writeByte_any w.heap.size w.heap.size (Lib.byteCells acc) c wr hB (by rw[byteCells_len];omega) hb.size
  by_cases hlt:k<s.size
  ·by_cases h92:s[k]=92
   ·have e2:((s[k].toNat:Int)==92)=true:=by rw[h92];rfl
    by_cases h2:k+1<s.size
    ·have hne:(((k:Int)+1)==(s.size:Int))=false:=by rw[beq_eq_false_iff_ne];omega
     have hSp:=special_any s[k+1] wr
     cases hsp:Idn.special s[k+1]
     ·have hvb:=val_bad s k h2 h92 hsp
      rw[hsp]at hSp
      have HF:Hid (r=([],false)):=by show _=_;rw[←HR.out];exact valR_none (by rw[hinv.out,hvb];rfl)
      clear hvb hinv hsp h92
      go_wp2_with (go_at_call 219;refine hSp.mono ?_;rintro e w1 ⟨rfl,rfl⟩)
      go_ret2
      exact ⟨by rw[HF.out];rfl,hb⟩
     ·have hvb:=val_esc s k h2 h92 hsp
      rw[hsp]at hSp
      have HF:Hid (Idn.val (L s)=(Idn.val ((L s).drop (k+2))).map ((acc++[s[k+1]]) ++ ·)):=by show _=_;rw[hinv.out,hvb,map_app]
      have hW1:=hWB s[k+1]
      clear hvb hinv hsp h92 hWB hB
      go_wp2_with (first|(go_at_call 219;refine hSp.mono ?_;rintro e w1 ⟨rfl,rfl⟩)|(go_at_call 216;refine hW1.mono ?_;rintro e w1 ⟨rfl,hB1,hb1,_⟩))
      go_roundw
      case rel=>exact ⟨k+2,acc++[s[k+1]],by omega,by go_num,hb.trans hb1,by rw[bytes_one];exact hB1,HF,by simp;omega⟩
      case measure=>simp[intOf];omega
    ·have hne:(((k:Int)+1)==(s.size:Int))=true:=by rw[beq_iff_eq];omega
     have hvb:=val_end s k hlt h2 h92
     have HF:Hid (r=([],false)):=by show _=_;rw[←HR.out];exact valR_none (by rw[hinv.out,hvb];rfl)
     clear hvb hinv h92
     go_wp2
     go_ret2
     exact ⟨by rw[HF.out];rfl,hb⟩
   ·have e2:((s[k].toNat:Int)==92)=false:=byte_not (d:=92) h92
    have hSp:=special_any s[k] wr
    cases hsp:Idn.special s[k]
    ·have hvb:=val_plain s k hlt h92 hsp
     rw[hsp]at hSp
     have HF:Hid (Idn.val (L s)=(Idn.val ((L s).drop (k+1))).map ((acc++[s[k]]) ++ ·)):=by show _=_;rw[hinv.out,hvb,map_app]
     have hW1:=hWB s[k]
     clear hvb hinv hsp h92 hWB hB
     go_wp2_with (first|(go_at_call 219;refine hSp.mono ?_;rintro e w1 ⟨rfl,rfl⟩)|(go_at_call 216;refine hW1.mono ?_;rintro e w1 ⟨rfl,hB1,hb1,_⟩))
     go_roundw
     case rel=>exact ⟨k+1,acc++[s[k]],by omega,by go_num,hb.trans hb1,by rw[bytes_one];exact hB1,HF,by simp;omega⟩
     case measure=>simp[intOf];omega
    ·have hvb:=val_spec s k hlt h92 hsp
     rw[hsp]at hSp
     have HF:Hid (r=([],false)):=by show _=_;rw[←HR.out];exact valR_none (by rw[hinv.out,hvb];rfl)
     clear hvb hinv hsp h92
     go_wp2_with (go_at_call 219;refine hSp.mono ?_;rintro e w1 ⟨rfl,rfl⟩)
     go_ret2
     exact ⟨by rw[HF.out];rfl,hb⟩
  ·have hStr:=Tryz.Builder_String_any_k w.heap.size w.heap.size acc wr hB hb.size
   have HF:Hid (r=(acc,true)):=by show _=_;rw[←HR.out];exact valR_some (by rw[hinv.out,drop_end s k hlt];simp[Idn.val])
   clear hWB hinv
   go_wp2_with fail
   refine hStr.mono ?_
   rintro e w4 ⟨rfl,_,hb4,_⟩
   go_wp2
   go_ret2
   exact ⟨by rw[HF.out];rfl,hb.trans hb4⟩
theorem nm_trimmed_any (s : ByteArray) (w : World) (hs : s.size ≤ 1000000000) :
  Calls Tryz.prog 286 #[.string s] w fun e w'=>e=.returned (.string (B (Idn.trim (L s))))∧Below w.heap.size w w':=by
 have h:=fun W=>trim_any s W (by omega)
 go_enter Tryz.func286,Tryz.ntmps286
 go_wp2_with fail
 refine (h _).mono ?_
 rintro e w1 ⟨rfl,hb1⟩
 go_wp2
 go_ret
 exact ⟨rfl,hb1⟩
def prV (p:Bs×Bs):Value:=.agg #[.string (B p.1),.string (B p.2)]
theorem component_any (s : ByteArray) (w : World) (hs : s.size ≤ 1000000000) :
    Calls Tryz.prog 230 #[.string s] w fun e w'=>e=.returned (.tuple #[prV (Idn.component (L s)).1,.int .i64 (Idn.component (L s)).2])∧Below w.heap.size w w':=by
 generalize hr:Idn.component (L s)=r
 have HR:=Lib.hid hr
 clear hr
 have hI:=fun W=>index_any s 61 W (by omega)
 cases hx:Idn.idx 61 (L s)with
 |none=>
  rw[idxI_none hx]at hI
  have HF:Hid (r=(([],[]),4)):=by show _=_;rw[←HR.out,Idn.component,hx]
  clear hx
  go_enter Tryz.func230,Tryz.ntmps230
  go_wp2_with fail
  with_reducible refine gen1 (R:=fun W=>Calls Tryz.prog 284 _ W _) ?_
  intro W hbW hszW hc1 hf1
  have r0:=hc1 0 _ rfl
  have r1:=hc1 1 _ rfl
  have f0:=hf1 0
  have f1:=hf1 1
  clear hc1 hf1
  refine (hI W).mono ?_
  rintro e w1 ⟨rfl,rfl⟩
  clear hI
  go_wp2
  exact bodyPost_ret (v:=.tuple #[.agg #[.string ⟨#[]⟩,.string ⟨#[]⟩],.int .i64 4]) (by simp[results,Tryz.results230,go_sem,r0,r1,f0,f1]) rfl ⟨by rw[HF.out];rfl,(hbW.setCell (by simp) _).setCell (by simp) _⟩
 |some i=>
  rw[idxI_some hx]at hI
  have hi:=Idn.idx_lt _ _ _ hx
  rw[←size_L]at hi
  have hiI:¬((i:Int)<0):=by omega
  have HF:Hid (r=if (valR (Idn.trim ((L s).drop (i+1)))).2=false then (([],[]),4)else if Idn.name (Idn.trim ((L s).take i))=false then (([],[]),5)else if Idn.clean (valR (Idn.trim ((L s).drop (i+1)))).1=false then (([],[]),8)else ((Idn.trim ((L s).take i),(valR (Idn.trim ((L s).drop (i+1)))).1),0)):=by
   show _=_
   rw[←HR.out,Idn.component,hx]
   dsimp only
   unfold valR
   cases Idn.val (Idn.trim ((L s).drop (i+1)))with
   |none=>rfl
   |some v=>simp
  clear hx HR
  have hT1:=fun W=>nm_trimmed_any (s.extract (i+1) s.size) W (by simp;omega)
  rw[extract_drop,Idn.L_B]at hT1
  have hl1:=Idn.length_trim ((L s).drop (i+1))
  have hl2:=Idn.length_trim ((L s).take i)
  rw[List.length_drop]at hl1
  rw[List.length_take]at hl2
  rw[size_L]at hs
  have hV:=fun W=>nm_value_any (B (Idn.trim ((L s).drop (i+1)))) W (by rw[Idn.size_B];omega)
  rw[Idn.L_B]at hV
  have hT2:=fun W=>trim_any (s.extract 0 i) W (by simp;rw[size_L];omega)
  rw[extract_take,Idn.L_B]at hT2
  have hvl:(valR (Idn.trim ((L s).drop (i+1)))).1.length≤1000000000:=by
   unfold valR
   split
   ·simp
   ·rename_i v hv
    have:=val_len _ _ hv
    dsimp only;omega
  rw[←size_L]at hs
  have hN:=fun W=>name_any (B (Idn.trim ((L s).take i))) W (by rw[Idn.size_B];omega)
  rw[Idn.L_B]at hN
  generalize valR (Idn.trim ((L s).drop (i+1)))=vr at *
  obtain ⟨v,ok⟩:=vr
  dsimp only at hV HF hvl
  have hCl:=fun W=>clean_any (B v) W (by rw[Idn.size_B];omega)
  rw[Idn.L_B]at hCl
  generalize Idn.trim ((L s).take i)=ky at *
  generalize Idn.trim ((L s).drop (i+1))=tv at *
  generalize Idn.name ky=nb at *
  generalize Idn.clean v=cb at *
  clear hl1 hl2 hvl
  go_enter Tryz.func230,Tryz.ntmps230
  go_wp2_with fail
  with_reducible refine gen1 (R:=fun W=>Calls Tryz.prog 284 _ W _) ?_
  intro W hbW hszW hc1 hf1
  have r0:=hc1 0 _ rfl
  have r1:=hc1 1 _ rfl
  have f0:=hf1 0
  have f1:=hf1 1
  have hlt:w.heap.size<W.heap.size:=by omega
  clear hc1 hf1
  refine (hI W).mono ?_
  rintro e w1 ⟨rfl,rfl⟩
  clear hI
  go_wp2_with fail
  rw[extract_drop]
  refine (hT1 _).mono ?_
  rintro e w1 ⟨rfl,hb1⟩
  clear hT1
  go_wp2_with fail
  refine (hV _).mono ?_
  rintro e w2 ⟨rfl,hb2⟩
  clear hV
  go_wp2_with fail
  rw[extract_take]
  refine (hT2 _).mono ?_
  rintro e w3 ⟨rfl,hb3⟩
  clear hT2
  have hb13:=hb1.trans ((hb2.trans (hb3.mono hb2.size)).mono hb1.size)
  have hbw3:=hbW.trans (hb13.mono hbW.size)
  replace r0:=cell_later hb13 r0
  replace r1:=cell_later hb13 r1
  replace f0:=frozen_later hb13 f0 hlt
  replace f1:=frozen_later hb13 f1 hlt
  have hlt3:w.heap.size<w3.heap.size:=Nat.lt_of_lt_of_le hlt hb13.size
  go_upto_block 0 with fail
  with_reducible refine gen1 (R:=fun W=>Code.wp Tryz.prog _ _ _ W) ?_
  intro W4 hbW4 hszW4 hc4 _
  have p0:=hc4 0 _ rfl
  have p1:=hc4 1 _ rfl
  clear hc4
  have hbw4:=hbw3.trans (hbW4.mono hbw3.size)
  replace r0:=cell_later hbW4 r0
  replace r1:=cell_later hbW4 r1
  replace f0:=frozen_later hbW4 f0 hlt3
  replace f1:=frozen_later hbW4 f1 hlt3
  have hlt4:w.heap.size<W4.heap.size:=by omega
  cases ok
  ·have HG:Hid (r=(([],[]),4)):=by show _=_;rw[HF.out,if_pos rfl]
   clear HF
   go_wp2
   exact bodyPost_ret (v:=.tuple #[.agg #[.string ⟨#[]⟩,.string ⟨#[]⟩],.int .i64 4]) (by simp[results,Tryz.results230,go_sem,r0,r1,f0,f1]) rfl ⟨by rw[HG.out];rfl,(hbw4.setCell (by simp) _).setCell (by simp) _⟩
  ·go_wp2_with fail
   refine (hN W4).mono ?_
   rintro e w5 ⟨rfl,rfl⟩
   clear hN
   cases nb
   ·have HG:Hid (r=(([],[]),5)):=by show _=_;rw[HF.out,if_neg (by simp),if_pos rfl]
    clear HF
    go_wp2
    exact bodyPost_ret (v:=.tuple #[.agg #[.string ⟨#[]⟩,.string ⟨#[]⟩],.int .i64 5]) (by simp[results,Tryz.results230,go_sem,r0,r1,f0,f1]) rfl ⟨by rw[HG.out];rfl,(hbw4.setCell (by simp) _).setCell (by simp) _⟩
   ·go_wp2_with fail
    refine (hCl _).mono ?_
    rintro e w6 ⟨rfl,hb6⟩
    clear hCl
    have hbw6:=hbw4.trans (hb6.mono hbw4.size)
    replace r0:=cell_later hb6 r0
    replace r1:=cell_later hb6 r1
    replace f0:=frozen_later hb6 f0 hlt4
    replace f1:=frozen_later hb6 f1 hlt4
    replace p0:=cell_later hb6 p0
    replace p1:=cell_later hb6 p1
    cases cb
    ·have HG:Hid (r=(([],[]),8)):=by show _=_;rw[HF.out,if_neg (by simp),if_neg (by simp),if_pos rfl]
     clear HF
     go_wp2
     exact bodyPost_ret (v:=.tuple #[.agg #[.string ⟨#[]⟩,.string ⟨#[]⟩],.int .i64 8]) (by simp[results,Tryz.results230,go_sem,r0,r1,f0,f1]) rfl ⟨by rw[HG.out];rfl,(hbw6.setCell (by simp) _).setCell (by simp) _⟩
    ·have HG:Hid (r=((ky,v),0)):=by show _=_;rw[HF.out,if_neg (by simp),if_neg (by simp),if_neg (by simp)]
     clear HF
     go_wp2
     exact bodyPost_ret (v:=.tuple #[.agg #[.string (B ky),.string (B v)],.int .i64 0]) (by simp[results,Tryz.results230,go_sem,r0,r1,f0,f1]) rfl ⟨by rw[HG.out];rfl,(hbw6.setCell (by simp) _).setCell (by simp) _⟩
end Go.Proofs.YtbkkchhimhlhcaaGreatDoor
/- name: Parse. -/
namespace Go.Proofs.YtbkkchhimhlhcaaGreatDoor
open Go.RowKit Go.Sort
open Idn (L B Bs drop_L take_L size_L)
def prRow (l:List Idn.Pr):List Value:=l.flatMap fun p=>[sv p.1,sv p.2]
theorem prRow_at (l:List Idn.Pr):∀(i:Nat) (p:Idn.Pr),l[i]?=some p→(prRow l)[i*2]?=some (sv p.1)∧(prRow l)[i*2+1]?=some (sv p.2):=by
 induction l with
 |nil=>intro i p h;simp at h
 |cons q l ih=>
  intro i p h
  cases i with
  |zero=>simp at h;subst h;exact ⟨rfl,rfl⟩
  |succ i=>
   have h1:=ih i p (by simpa using h)
   have e:prRow (q :: l)=sv q.1 :: sv q.2 :: prRow l:=rfl
   rw[e]
   refine ⟨?_,?_⟩
   ·rw[show (i+1)*2=i*2+2 by omega];simpa using h1.1
   ·rw[show (i+1)*2+1=(i*2+1)+2 by omega];simpa using h1.2
theorem PairsV.of_own {w:World} {base:Nat} {v:Value} {l:List Idn.Pr} {e:TypeId} (h:w.ownsRow base e 2 v l.length (prRow l)):PairsV w w.heap.size v l:=
 SlV.own h fun i x hx=>⟨[sv x.1,sv x.2],rfl,rfl,fun j u hu=>by
  have h1:=prRow_at l i x hx
  match j,hu with
  |0,hu=>simp at hu;subst hu;exact h1.1
  |1,hu=>simp at hu;subst hu;exact h1.2⟩
def RetP (w:World) (r:List Idn.Pr×Int) (e:Ending) (w':World):Prop:=
 ∃v,e=.returned (.tuple #[v,.int .i64 r.2])∧w'.ownsRow w.heap.size 156 2 v r.1.length (prRow r.1)∧Below w.heap.size w w'
theorem info_pair:(Tryz.prog.info? 156).map (fun i=>(i.zero,i.size,i.bytes))=some (some (.agg #[.string ⟨#[]⟩,.string ⟨#[]⟩]),2,32):=by kernel_rfl
theorem pcs_len (l:Bs):(Idn.pcs l).length≤l.length+1∧∀x∈Idn.pcs l,x.length≤l.length:=by
 have hoh:∀(p:Bs) (m:List Bs) (k:Nat),m≠[]→(∀x∈m,x.length≤k)→(Idn.onHead p m).length≤m.length∧∀x∈Idn.onHead p m,x.length≤k+p.length:=by
  intro p m k hm h
  cases m with
  |nil=>exact absurd rfl hm
  |cons q m=>
   refine ⟨by simp[Idn.onHead],fun x hx=>?_⟩
   rcases List.mem_cons.1 hx with rfl|hx
   ·have:=h q List.mem_cons_self;simp;omega
   ·have:=h x (List.mem_cons_of_mem _ hx);omega
 have hne:∀l,Idn.pcs l≠[]:=by
  intro l
  rw[Idn.pcs_idx]
  split<;>simp
 induction l using Idn.pcs.induct with
 |case1=>simp[Idn.pcs]
 |case2 x hx=>simp[Idn.pcs,hx]
 |case3 x hx=>simp[Idn.pcs,hx]
 |case4 x y l hx ih=>
  rw[Idn.pcs,if_pos hx]
  refine ⟨by have:=ih.1;simp at this⊢;omega,fun z hz=>?_⟩
  rcases List.mem_cons.1 hz with rfl|hz
  ·simp
  ·have:=ih.2 z hz;simp at this⊢;omega
 |case5 x y l hx h92 ih=>
  rw[Idn.pcs,if_neg hx,if_pos h92]
  obtain ⟨h1,h2⟩:=hoh [x,y] (Idn.pcs l) l.length (hne l) ih.2
  exact ⟨by have:=ih.1;simp;omega,fun z hz=>by have:=h2 z hz;simp at this⊢;omega⟩
 |case6 x y l hx h92 ih=>
  rw[Idn.pcs,if_neg hx,if_neg h92]
  obtain ⟨h1,h2⟩:=hoh [x] (Idn.pcs (y :: l)) (y :: l).length (hne _) ih.2
  exact ⟨by have:=ih.1;simp at this⊢;omega,fun z hz=>by have:=h2 z hz;simp at this⊢;omega⟩
def compsK (ps:List Idn.Pr) (r:List Idn.Pr×Int):List Idn.Pr×Int:=if r.2 !=0 then ([],r.2)else (ps++r.1,0)
theorem comps_cons (x:Bs) (m:List Bs) (h:(Idn.component x).2=0):Idn.comps (x :: m)=compsK [(Idn.component x).1] (Idn.comps m):=by
 rw[Idn.comps,if_neg (by simp[h]),compsK];rfl
theorem compsK_app (ps:List Idn.Pr) (c:Idn.Pr) (r:List Idn.Pr×Int):compsK ps (compsK [c] r)=compsK (ps++[c]) r:=by
 unfold compsK
 by_cases h:r.2=0
 ·simp[h]
 ·simp[h]
theorem comps_err (x:Bs) (m:List Bs) (ps:List Idn.Pr) (h:(Idn.component x).2≠0):compsK ps (Idn.comps (x :: m))=([],(Idn.component x).2):=by
 rw[Idn.comps,if_pos (by simpa using h),compsK]
 simp[h]
theorem comps_zero (r:List Bs):compsK [] (Idn.comps r)=Idn.comps r:=by
 unfold compsK
 cases r with
 |nil=>rfl
 |cons x m=>
  by_cases h:(Idn.comps (x :: m)).2=0
  ·simp[h];rw[←h]
  ·rw[if_pos (by simpa using h)]
   by_cases h2:(Idn.component x).2=0
   ·rw[comps_cons x m h2]at h⊢
    unfold compsK at h⊢
    by_cases h3:(Idn.comps m).2=0
    ·simp[h3]at h
    ·simp[h3]
   ·rw[Idn.comps,if_pos (by simpa using h2)]
theorem nm_parse_any (s : ByteArray) (w : World) (hs : s.size ≤ 1000000000) :
  Calls Tryz.prog 181 #[.string s] w (RetP w (Idn.parse (L s))):=by
 generalize hr:Idn.parse (L s)=r
 have HR:=Lib.hid hr
 clear hr
 by_cases h0:L s=[]
 ·have e0:s.toList=[]:=by rw[toList_L];exact h0
  have HF:Hid (r=([],0)):=by show _=_;rw[←HR.out,Idn.parse,h0];rfl
  have he:(s.toList==([]:List UInt8))=true:=by rw[e0];rfl
  clear h0
  go_enter Tryz.func181,Tryz.ntmps181
  go_wp2
  go_ret2
  exact ⟨.slice none 0 0,by rw[HF.out];rfl,by rw[HF.out];exact World.ownsRow_nil _ _ _ _,Below.refl _ _⟩
 ·have e0:¬s.toList=[]:=by rw[toList_L];exact h0
  have he:(s.toList==([]:List UInt8))=false:=by rw[beq_eq_false_iff_ne];exact e0
  have HF:Hid (r=if (Idn.comps (Idn.pcs (L s))).2 !=0 then ([],(Idn.comps (Idn.pcs (L s))).2)else if (Idn.comps (Idn.pcs (L s))).1.length>8 then ([],3)else ((Idn.comps (Idn.pcs (L s))).1,0)):=by
   show _=_;rw[←HR.out,Idn.parse,if_neg (by simpa using h0)]
  have hP:=fun W=>pieces_any s W (by omega)
  obtain ⟨hl1,hl2⟩:=pcs_len (L s)
  rw[←size_L]at hl1 hl2
  generalize Idn.pcs (L s)=l at *
  clear h0 e0 HR
  go_enter Tryz.func181,Tryz.ntmps181
  go_wp2_with fail
  refine (hP _).mono ?_
  rintro e w1 ⟨v1,rfl,hown1,hb1⟩
  have hS:=StrsV.of_own hown1
  obtain ⟨A,c,rfl,hc⟩:=SlV.shape hS
  clear hP hown1
  go_wp2
  go_loopw [4,14] (fun u x wr=>∃(k:Nat) (ps:List Idn.Pr),k≤l.length∧x=.int .i64 k∧wr.ownsRow w1.heap.size 156 2 u ps.length (prRow ps)∧Below w1.heap.size w1 wr∧ps.length=k∧Hid (Idn.comps l=compsK ps (Idn.comps (l.drop k)))) (fun _ x _=>l.length-(intOf x).toNat)
  case atStart=>exact ⟨0,[],Nat.zero_le _,rfl,World.ownsRow_nil _ _ _ _,Below.refl _ _,rfl,by show _=_;rw[comps_zero];rfl⟩
  case round=>
   obtain ⟨k,ps,hk,rfl,hown,hb,hpk,hinv⟩:=hrel
   have HPK:=Lib.hid hpk
   clear hpk
   by_cases hlt:k<l.length
   ·obtain ⟨b,off,rfl,hbl,c0⟩:=StrsV.cell (SlV.keep hS hb) hlt
    have hxl:=hl2 l[k] (List.getElem_mem hlt)
    have hC:=component_any (B l[k]) wr (by rw[Idn.size_B];omega)
    rw[Idn.L_B]at hC
    have hd:=List.drop_eq_getElem_cons hlt
    have hltI:(k:Int)<(l.length:Int):=by omega
    by_cases h0:(Idn.component l[k]).2=0
    ·have HG : Hid (Idn.comps l = compsK (ps ++ [(Idn.component l[k]).1]) (Idn.comps (l.drop (k + 1)))) := by
      show _=_;rw[hinv.out,hd,comps_cons _ _ h0,compsK_app]
     rw[h0]at hC
     generalize (Idn.component l[k]).1=pr at *
     clear hd h0 hinv
     unfold prV at hC
     go_wp2_with fail
     refine hC.mono ?_
     rintro e w2 ⟨rfl,hb2⟩
     have hown2:=own_below hown hb2
     have hbw2:=hb.trans (hb2.mono hb.size)
     have ba:=(Below.refl w2.heap.size w2).alloc (Nat.le_refl _) (.cells #[.string (B pr.1),.string (B pr.2)] 156)
     have hown3:=own_below hown2 ba
     have hbw3:=hbw2.trans (ba.mono hbw2.size)
     have hs3:=hbw3.size
     have hsza:(w2.alloc (.cells #[.string (B pr.1),.string (B pr.2)] 156)).heap.size=w2.heap.size+1:=by simp
     have Hsza:=Lib.hid hsza
     have hpl:ps.length≤1000000001:=by have:=HPK.out;omega
     clear hC hown hown2 ba c0 hsza
     go_wp2_with (at_builtin;refine wpList_push (w2.alloc (.cells #[.string (B pr.1),.string (B pr.2)] 156)) rfl _ _ 152 rfl w1.heap.size 156 (.agg #[.string ⟨#[]⟩,.string ⟨#[]⟩]) 2 32 Tryz.underlying152 info_pair rfl (by decide) _ _ _ hown3 rfl [.string (B pr.1),.string (B pr.2)] (by rw[Hsza.out];rfl) rfl (by intro u hu;simp at hu;rcases hu with rfl|rfl<;>rfl) (by omega) hs3 ?_ rfl)
     intro v' w4 hown' _ _ hb' _
     clear hown3
     go_wp2
     go_roundw
     case rel=>
      refine ⟨k+1,ps++[pr],by omega,by go_num,?_,hbw3.trans hb',by simp[HPK.out],HG⟩
      have e:prRow (ps++[pr])=prRow ps++[.string (B pr.1),.string (B pr.2)]:=by unfold prRow;rw[List.flatMap_append];rfl
      rw[e,List.length_append]
      exact hown'
     case measure=>simp[intOf];omega
    ·have HG : Hid (r = ([], (Idn.component l[k]).2)) := by
      show _=_;rw[HF.out,hinv.out,hd,comps_err _ _ _ h0];simp[h0]
     generalize Idn.component l[k]=cr at *
     have h1:(cr.2 !=0)=true:=by simpa using h0
     have h2:(cr.2==0)=false:=by simpa using h0
     clear hd hinv h0
     unfold prV at hC
     go_wp2_with fail
     refine hC.mono ?_
     rintro e w2 ⟨rfl,hb2⟩
     have hbw2:=hb1.trans ((hb.trans (hb2.mono hb.size)).mono hb1.size)
     clear hC hown c0
     go_wp2
     go_ret2
     exact ⟨.slice none 0 0,by rw[HG.out];rfl,by rw[HG.out];exact World.ownsRow_nil _ _ _ _,hbw2.alloc hbw2.size _⟩
   ·have hkl:k=l.length:=by omega
    have hltI:¬(k:Int)<(l.length:Int):=by omega
    have HG:Hid (r=if 8<ps.length then ([],3)else (ps,0)):=by
     show _=_
     rw[HF.out,hinv.out,List.drop_eq_nil_of_le (by omega)]
     simp[Idn.comps,compsK]
    obtain ⟨A3,c3,hu⟩:=own_shape hown
    subst hu
    clear hinv
    by_cases h8:8<ps.length
    ·have h8':(8:Int)<(ps.length:Int):=by omega
     have HH:Hid (r=([],3)):=by show _=_;rw[HG.out,if_pos h8]
     clear h8
     go_wp2
     go_ret2
     exact ⟨.slice none 0 0,by rw[HH.out];rfl,by rw[HH.out];exact World.ownsRow_nil _ _ _ _,hb1.trans (hb.mono hb1.size)⟩
    ·have h8':(ps.length:Int)≤(8:Int):=by omega
     have HH:Hid (r=(ps,0)):=by show _=_;rw[HG.out,if_neg h8]
     clear h8
     go_wp2
     go_ret2
     exact ⟨.slice A3 ps.length c3,by rw[HH.out];rfl,by rw[HH.out];exact own_base hown hb1.size,hb1.trans (hb.mono hb1.size)⟩
end Go.Proofs.YtbkkchhimhlhcaaGreatDoor
/- name: Format, Clean. -/
namespace Go.Proofs.YtbkkchhimhlhcaaGreatDoor
open Go.RowKit Go.Sort
open Idn (L B Bs drop_L take_L size_L)
theorem fmtR_snoc (p:Idn.Pr):∀l:List Idn.Pr,Idn.fmtR (l++[p])=Idn.fmtR l++(44 :: Idn.fmt1 p)
 |[]=>by simp[Idn.fmtR]
 |q :: l=>by simp[Idn.fmtR,fmtR_snoc p l]
theorem fmtJ_snoc (p:Idn.Pr) (l:List Idn.Pr):Idn.fmtJ (l++[p])=Idn.fmtJ l++((if l.length=0 then []else [44])++Idn.fmt1 p):=by
 cases l with
 |nil=>simp[Idn.fmtJ,Idn.fmtR]
 |cons q l=>simp[Idn.fmtJ,fmtR_snoc]
def fmtK (l:List Idn.Pr) (k:Nat):Bs:=Idn.fmtJ (l.take k)
theorem fmtK_succ (l:List Idn.Pr) (k:Nat) (hk:k<l.length):fmtK l (k+1)=fmtK l k++((if k=0 then []else [44])++Idn.fmt1 l[k]):=by
 unfold fmtK
 rw[List.take_succ_eq_append_getElem hk,fmtJ_snoc,List.length_take,Nat.min_eq_left (Nat.le_of_lt hk)]
theorem escV_len (l:Bs):(Idn.escV l).length≤2*l.length:=by
 induction l with
 |nil=>simp[Idn.escV]
 |cons c l ih=>
  unfold Idn.escV at *
  rw[List.flatMap_cons,List.length_append,List.length_cons]
  have h3:((if Idn.special c then [92,c]else [c]):Bs).length≤2:=by split<;>simp
  omega
theorem escV_snoc (l:Bs) (c:UInt8):Idn.escV (l++[c])=Idn.escV l++(if Idn.special c then [92,c]else [c]):=by
 unfold Idn.escV;rw[List.flatMap_append];simp
theorem clean_len {l:Bs} (h:Idn.clean l=true):l.length≤256:=by
 unfold Idn.clean at h
 simp only[Bool.and_eq_true,decide_eq_true_eq]at h
 exact h.2.2.1
theorem name_len {l:Bs} (h:Idn.name l=true):l.length≤64:=by
 unfold Idn.name Idn.made at h
 simp only[Bool.and_eq_true,decide_eq_true_eq]at h
 exact h.1.2.2
theorem check1_all:∀l:List Idn.Pr,Idn.check1 l=0→∀p∈l,p.1.length≤64∧p.2.length≤256
 |[],_,p,hp=>by simp at hp
 |q :: l,h,p,hp=>by
  unfold Idn.check1 at h
  split at h
  ·cases h
  ·split at h
   ·cases h
   ·rename_i h1 h2
    rcases List.mem_cons.1 hp with rfl|hp
    ·exact ⟨name_len (by simpa using h1),clean_len (by simpa using h2)⟩
    ·exact check1_all l h p hp
theorem check_zero {l:List Idn.Pr} (h:Idn.check l=0):l.length≤8∧∀p∈l,p.1.length≤64∧p.2.length≤256:=by
 unfold Idn.check at h
 split at h
 ·rename_i h1;simp[h]at h1
 ·split at h
  ·cases h
  ·rename_i h1 h2
   exact ⟨by omega,check1_all l (by simpa using h1)⟩
theorem fmt1_len {p:Idn.Pr} (h:p.1.length≤64∧p.2.length≤256):(Idn.fmt1 p).length≤600:=by
 unfold Idn.fmt1
 have h1:=Idn.length_fold p.2
 have h2:=escV_len (Idn.fold p.2)
 simp only[List.length_append,List.length_cons,Idn.length_lower]
 omega
theorem fmtK_len {l:List Idn.Pr} (h:∀p∈l,p.1.length≤64∧p.2.length≤256):∀k,k≤l.length→(fmtK l k).length≤k*601
 |0,_=>by simp[fmtK,Idn.fmtJ]
 |k+1,hk=>by
  have ih:=fmtK_len h k (by omega)
  have h1:=fmt1_len (h l[k] (List.getElem_mem (by omega)))
  rw[fmtK_succ l k (by omega),List.length_append,List.length_append]
  split<;>simp<;>omega
theorem bytes_str (a:Bs) (s:ByteArray):Lib.byteCells a++Lib.strCells s=Lib.byteCells (a++L s):=by
 rw[byteCells_app,←strCells_B];rfl
theorem nm_format_any (v : Value) (l : List Idn.Pr) (w : World) (hv : PairsV w w.heap.size v l) (hs : PSm l) (hl : l.length ≤ 1000000000000) :
  Calls Tryz.prog 163 #[v] w fun e w'=>e=.returned (.tuple #[.string (B (Idn.format l).1),.int .i64 (Idn.format l).2])∧Below w.heap.size w w':=by
 have hC:=check_any v l w hv hs hl
 generalize hr:Idn.format l=r
 have HR:=Lib.hid hr
 clear hr
 obtain ⟨A,c,rfl,hc⟩:=SlV.shape hv
 by_cases h0:Idn.check l=0
 case neg=>
  have HF:Hid (r=([],Idn.check l)):=by show _=_;rw[←HR.out,Idn.format,if_pos (by simpa using h0)]
  generalize Idn.check l=x at *
  have h1:(x !=0)=true:=by simpa using h0
  have h2:(x==0)=false:=by simpa using h0
  clear h0
  go_enter Tryz.func163,Tryz.ntmps163
  go_wp2_with fail
  refine hC.mono ?_
  rintro e w1 ⟨rfl,hb1⟩
  clear hC
  go_wp2
  go_ret2
  exact ⟨by rw[HF.out];rfl,hb1⟩
 case pos=>
 have HF:Hid (r=(fmtK l l.length,0)):=by
  show _=_;rw[←HR.out,Idn.format,if_neg (by simp[h0]),fmtK,List.take_length]
 obtain ⟨hl8,hsm⟩:=check_zero h0
 have hkl:=fmtK_len hsm
 rw[h0]at hC
 clear h0 HR hs
 go_enter Tryz.func163,Tryz.ntmps163
 go_wp2_with fail
 refine hC.mono ?_
 rintro e w1 ⟨rfl,hb1⟩
 have hP:=SlV.keep hv hb1
 have hB0:=Bld.new w1
 clear hC hv
 go_wp2
 go_loopw [17] (fun x wr=>∃k:Nat,k≤l.length∧x=.int .i64 k∧Below w1.heap.size w1 wr∧Bld w1.heap.size w1.heap.size (Lib.byteCells (fmtK l k)) wr∧w1.heap.size<wr.heap.size) (fun x _=>l.length-(intOf x).toNat)
 case atStart=>exact ⟨0,Nat.zero_le _,rfl,(Below.refl _ _).alloc (Nat.le_refl _) _,hB0,by simp⟩
 case round=>
  obtain ⟨k,hk,rfl,hb,hB,hblt⟩:=hrel
  clear hB0
  by_cases hlt:k<l.length
  ·obtain ⟨b,off,rfl,hbl,c0,c1⟩:=PairsV.cell (SlV.keep hP (hb.mono hb1.size)) hlt
   have hk6:=hkl k hk
   have hpm:=hsm l[k] (List.getElem_mem hlt)
   have hf1:=fmt1_len hpm
   have hsuc:=fmtK_succ l k hlt
   have hLo:=fun W=>lower_any (B l[k].1) W (by rw[Idn.size_B];omega)
   have hFo:=fun W=>fold_any (B l[k].2) W (by rw[Idn.size_B];omega)
   rw[Idn.L_B]at hLo hFo
   have hfl:=Idn.length_fold l[k].2
   have hll:=Idn.length_lower l[k].1
   have hft:Idn.fmt1 l[k]=Idn.lower l[k].1++61 :: Idn.escV (Idn.fold l[k].2):=rfl
   have hltI:(k:Int)<(l.length:Int):=by omega
   have ba:=(Below.refl wr.heap.size wr).alloc (Nat.le_refl _) (.cells #[.string (B l[k].1),.string (B l[k].2)] 156)
   have hB1:=hB.keep ba
   have hba:=hb.trans (ba.mono hb.size)
   rw[hft]at hsuc
   have HS:=Lib.hid hsuc
   generalize Idn.lower l[k].1=lo at *
   generalize Idn.fold l[k].2=fo at *
   generalize hm:fmtK l k=m at *
   have hM:∃m2:Bs,m2=(if k=0 then m else m++[44]):=⟨_,rfl⟩
   obtain ⟨m2,hm2⟩:=hM
   have HM2:=Lib.hid hm2
   have HM:=Lib.hid hm
   have hm2l:m2.length≤k*601+1:=by
    rw[hm2]
    split
    ·omega
    ·rw[List.length_append];simp;omega
   have HL2:Hid (fmtK l (k+1)=(m2++lo)++61 :: Idn.escV fo):=by
    show _=_
    rw[HS.out,HM2.out]
    split<;>simp
   clear hsuc hm2 hm hft hB HF ba
   have hk8:k*601≤8*601:=Nat.mul_le_mul_right _ (by omega)
   obtain ⟨t,rfl⟩:∃t,fo=L t:=⟨B fo,rfl⟩
   rw[Idn.B_L]at hFo
   have hml:m.length≤8*601:=by omega
   have hm2l8:m2.length≤8*601+1:=by omega
   have hts:t.size≤256:=by rw[size_L];omega
   have hlo:lo.length≤64:=by omega
   clear hk6 hm2l hf1 hpm hfl hll
   go_upto_if 23 with fail
   go_cut [] (fun wx=>Below w1.heap.size w1 wx∧Bld w1.heap.size w1.heap.size (Lib.byteCells m2) wx∧wx.heap[wr.heap.size]?=some (.cells #[.string (B l[k].1),.string (B l[k].2)] 156 (0,0)))
   case first=>
    have pB:(wr.alloc (.cells #[.string (B l[k].1),.string (B l[k].2)] 156)).heap[wr.heap.size]?=some (.cells #[.string (B l[k].1),.string (B l[k].2)] 156 (0,0)):=heap_alloc_new wr _
    by_cases hk0:k=0
    ·have hkI:¬((0:Int)<(k:Int)):=by omega
     have HE:Hid (m2=m):=by show _=_;rw[HM2.out,if_pos hk0]
     clear hk0
     go_wp2
     go_meet
     exact ⟨hba,by rw[HE.out];exact hB1,pB⟩
    ·have hkI:(0:Int)<(k:Int):=by omega
     have HE:Hid (m2=m++[44]):=by show _=_;rw[HM2.out,if_neg hk0]
     have hWB:=writeByte_any w1.heap.size w1.heap.size (Lib.byteCells m) 44 _ hB1 (by rw[byteCells_len];omega) hba.size
     clear hk0
     have PB:=Lib.hid pB
     clear pB
     go_wp2_with fail
     refine hWB.mono ?_
     rintro e w2 ⟨rfl,hB2,hb2,hk2⟩
     clear hWB
     go_wp2
     go_meet
     exact ⟨hba.trans hb2,by rw[HE.out,bytes_one];exact hB2,hk2 _ _ PB.out (fun e=>by injection e with e;omega) (fun c fz e=>by injection e with _ e _;exact absurd e (by decide))⟩
   case rest=>
    obtain ⟨hbc,hBc,pB⟩:=hcut
    have p0:wc.cell? ⟨wr.heap.size,0,none⟩=some (.string (B l[k].1)):=by rw[Lib.cell_of_heap pB];rfl
    have PB:=Lib.hid pB
    clear hB1 hba pB
    go_wp2_with fail
    refine (hLo _).mono ?_
    rintro e w2 ⟨rfl,hb2⟩
    have hbw2:=hbc.trans (hb2.mono hbc.size)
    have hWS:=writeString_any w1.heap.size w1.heap.size (Lib.byteCells m2) (B lo) w2 (hBc.keep hb2) (by rw[byteCells_len,Idn.size_B];omega) hbw2.size
    rw[bytes_str,Idn.L_B]at hWS
    have PB2:=Lib.hid ((hb2.block _ (Array.getElem?_eq_some_iff.1 PB.out).1).trans PB.out)
    clear hLo hBc p0
    go_wp2_with fail
    refine hWS.mono ?_
    rintro e w3 ⟨rfl,hB3,hb3,hk3⟩
    have hbw3:=hbw2.trans hb3
    have PB3:=Lib.hid (hk3 _ _ PB2.out (fun e=>by injection e with e;omega) (fun c fz e=>by injection e with _ e _;exact absurd e (by decide)))
    have hWB:=writeByte_any w1.heap.size w1.heap.size (Lib.byteCells (m2++lo)) 61 w3 hB3 (by rw[byteCells_len,List.length_append];omega) hbw3.size
    clear hWS
    go_wp2_with fail
    refine hWB.mono ?_
    rintro e w4 ⟨rfl,hB4,hb4,hk4⟩
    have hbw4:=hbw3.trans hb4
    have PB4:=Lib.hid (hk4 _ _ PB3.out (fun e=>by injection e with e;omega) (fun c fz e=>by injection e with _ e _;exact absurd e (by decide)))
    have p1:w4.cell? ⟨wr.heap.size,1,none⟩=some (.string (B l[k].2)):=by rw[Lib.cell_of_heap PB4.out];rfl
    rw[←bytes_one]at hB4
    clear hWB
    go_wp2_with fail
    refine (hFo _).mono ?_
    rintro e w5 ⟨rfl,hb5⟩
    have hbw5:=hbw4.trans (hb5.mono hbw4.size)
    have hB5:=hB4.keep hb5
    have hw15:w1.heap.size<w5.heap.size:=by have:=(Array.getElem?_eq_some_iff.1 PB4.out).1;have:=hb5.size;omega
    clear hFo p1 hB3 hB4
    go_wp2
    go_loopw [35] (fun y wx=>∃j:Nat,j≤t.size∧y=.int .i64 j∧Below w1.heap.size w1 wx∧Bld w1.heap.size w1.heap.size (Lib.byteCells ((m2++lo++[61])++Idn.escV ((L t).take j))) wx∧w5.heap.size≤wx.heap.size) (fun y _=>t.size-(intOf y).toNat)
    case atStart=>exact ⟨0,Nat.zero_le _,rfl,hbw5,by simpa[Idn.escV]using hB5,Nat.le_refl _⟩
    case round=>
     obtain ⟨j,hj,rfl,hbj,hBj,hszj⟩:=hrel
     clear hB5
     have hel:=escV_len ((L t).take j)
     have htj:((L t).take j).length≤j:=List.length_take_le _ _
     have hl9:((m2++lo++[61])++Idn.escV ((L t).take j)).length≤10000:=by
      simp only[List.length_append,List.length_cons,List.length_nil];omega
     by_cases hjl:j<t.size
     ·have hSp:=fun W=>special_any t[j] W
      have HS2:Hid ((m2++lo++[61])++Idn.escV ((L t).take (j+1))=((m2++lo++[61])++Idn.escV ((L t).take j))++(if Idn.special t[j]then [92,t[j]]else [t[j]])):=by
       show _=_;rw[take_L t j hjl,escV_snoc];simp only[List.append_assoc]
      generalize (m2++lo++[61])++Idn.escV ((L t).take j)=acc at *
      have hjI:(j:Int)<(t.size:Int):=by omega
      have hWB:=fun c W h hs=>writeByte_any w1.heap.size w1.heap.size (Lib.byteCells acc) c W h (by rw[byteCells_len];omega) hs
      cases hsp:Idn.special t[j]
      ·have HS3:Hid ((m2++lo++[61])++Idn.escV ((L t).take (j+1))=acc++[t[j]]):=by show _=_;rw[HS2.out,hsp];rfl
       simp only[hsp]at hSp
       have hW1:=hWB t[j] _ hBj hbj.size
       clear hsp HS2 hWB
       go_wp2_with (first|(go_at_call 219;refine (hSp _).mono ?_;rintro e w6 ⟨rfl,rfl⟩)|(go_at_call 216;refine hW1.mono ?_;rintro e w7 ⟨rfl,hB7,hb7,_⟩))
       go_roundw
       case rel=>exact ⟨j+1,by omega,by go_num,hbj.trans hb7,by rw[HS3.out,bytes_one];exact hB7,by have:=hb7.size;omega⟩
       case measure=>simp[intOf];omega
      ·have HS3:Hid ((m2++lo++[61])++Idn.escV ((L t).take (j+1))=(acc++[92])++[t[j]]):=by show _=_;rw[HS2.out,hsp];simp
       simp only[hsp]at hSp
       have hW1:=hWB 92 _ hBj hbj.size
       clear hsp HS2 hWB
       go_wp2_with (go_at_call 219;refine (hSp _).mono ?_;rintro e w6 ⟨rfl,rfl⟩)
       refine hW1.mono ?_
       rintro e w7 ⟨rfl,hB7,hb7,_⟩
       have hb17:=hbj.trans hb7
       rw[←bytes_one]at hB7
       have hW2:=writeByte_any w1.heap.size w1.heap.size (Lib.byteCells (acc++[92])) t[j] w7 hB7 (by rw[byteCells_len,List.length_append];simp;omega) hb17.size
       clear hW1
       go_wp2_with fail
       refine hW2.mono ?_
       rintro e w8 ⟨rfl,hB8,hb8,_⟩
       go_wp2
       go_roundw
       case rel=>exact ⟨j+1,by omega,by go_num,hb17.trans hb8,by rw[HS3.out,bytes_one];exact hB8,by have:=hb7.size;have:=hb8.size;omega⟩
       case measure=>simp[intOf];omega
     ·have hjl':j=t.size:=by omega
      have hjI:¬(j:Int)<(t.size:Int):=by omega
      subst hjl'
      rw[List.take_of_length_le (by rw[←size_L];exact Nat.le_refl _)]at hBj
      go_wp2
      go_roundw
      case rel=>
       refine ⟨k+1,by omega,by go_num,hbj,?_,by omega⟩
       rw[HL2.out]
       simpa using hBj
      case measure=>simp[intOf];omega
  ·have hkl':k=l.length:=by omega
   have hltI:¬(k:Int)<(l.length:Int):=by omega
   subst hkl'
   have hStr:=Tryz.Builder_String_any_k w1.heap.size w1.heap.size (fmtK l l.length) wr hB hb.size
   clear hkl
   go_wp2_with fail
   refine hStr.mono ?_
   rintro e w4 ⟨rfl,_,hb4,_⟩
   go_wp2
   go_ret2
   exact ⟨by rw[HF.out];rfl,hb1.trans ((hb.trans hb4).mono hb1.size)⟩
theorem component_sm (x:Bs):(Idn.component x).1.1.length≤256∧(Idn.component x).1.2.length≤256:=by
 unfold Idn.component
 split
 ·simp
 ·split
  ·simp
  ·split
   ·simp
   ·split
    ·simp
    ·rename_i h1 h2
     have a1:=name_len (l:=_) (by simpa using h1)
     have a2:=clean_len (l:=_) (by simpa using h2)
     dsimp only
     omega
theorem comps_sm:∀l:List Bs,(Idn.comps l).1.length≤l.length∧∀p∈(Idn.comps l).1,p.1.length≤256∧p.2.length≤256
 |[]=>by simp[Idn.comps]
 |x :: l=>by
  obtain ⟨h1,h2⟩:=comps_sm l
  unfold Idn.comps
  split
  ·simp
  ·split
   ·simp
   ·refine ⟨by simp;omega,fun p hp=>?_⟩
    rcases List.mem_cons.1 hp with rfl|hp
    ·exact component_sm x
    ·exact h2 p hp
theorem parse_sm (s:Bs):(Idn.parse s).1.length≤8∧∀p∈(Idn.parse s).1,p.1.length≤256∧p.2.length≤256:=by
 unfold Idn.parse
 split
 ·simp
 ·split
  ·simp
  ·split
   ·simp
   ·rename_i h
    exact ⟨by dsimp only;omega,(comps_sm _).2⟩
theorem nm_clean_any (s : ByteArray) (w : World) (hs : s.size ≤ 1000000000) :
  Calls Tryz.prog 289 #[.string s] w fun e w'=>e=.returned (.tuple #[.string (B (Idn.cleanN (L s)).1),.int .i64 (Idn.cleanN (L s)).2])∧Below w.heap.size w w':=by
 have hP:=nm_parse_any s w hs
 obtain ⟨h8,hsm⟩:=parse_sm (L s)
 generalize hr:Idn.cleanN (L s)=r
 have HR:Hid (r=if (Idn.parse (L s)).2 !=0 then ([],(Idn.parse (L s)).2)else Idn.format (Idn.parse (L s)).1):=hr.symm
 generalize Idn.parse (L s)=pp at *
 obtain ⟨l,x⟩:=pp
 dsimp only at HR h8 hsm
 clear hr
 by_cases h0:x=0
 ·subst h0
  have HF:Hid (r=Idn.format l):=HR.out
  have hF:=fun (v:Value) W (hv:PairsV W W.heap.size v l)=>nm_format_any v l W hv (fun p hp=>by have:=hsm p hp;omega) (by omega)
  generalize Idn.format l=fm at *
  clear HR
  go_enter Tryz.func289,Tryz.ntmps289
  go_wp2_with fail
  refine hP.mono ?_
  rintro e w1 ⟨v1,rfl,hown1,hb1⟩
  obtain ⟨A,c,hv⟩:=own_shape hown1
  subst hv
  have hF1:=hF _ w1 (PairsV.of_own hown1)
  clear hP hF hown1
  dsimp only at *
  go_wp2_with fail
  refine hF1.mono ?_
  rintro e w2 ⟨rfl,hb2⟩
  clear hF1
  go_wp2
  go_ret2
  exact ⟨by rw[HF.out];rfl,hb1.trans (hb2.mono hb1.size)⟩
 ·have HF:Hid (r=([],x)):=by show _=_;rw[HR.out,if_pos (by simpa using h0)]
  have h1:(x !=0)=true:=by simpa using h0
  have h2:(x==0)=false:=by simpa using h0
  clear HR h0
  go_enter Tryz.func289,Tryz.ntmps289
  go_wp2_with fail
  refine hP.mono ?_
  rintro e w1 ⟨v1,rfl,hown1,hb1⟩
  obtain ⟨A,c,hv⟩:=own_shape hown1
  subst hv
  clear hP hown1
  go_wp2
  go_ret2
  exact ⟨by rw[HF.out];rfl,hb1⟩
end Go.Proofs.YtbkkchhimhlhcaaGreatDoor
/- name: normal; comparing strings and pairs; Compare. -/
namespace Go.Proofs.YtbkkchhimhlhcaaGreatDoor
open Go.RowKit Go.Sort
open Idn (L B Bs drop_L take_L size_L)
def RetPB (w:World) (r:List Idn.Pr×Bool) (e:Ending) (w':World):Prop:=
 ∃v,e=.returned (.tuple #[v,.bool r.2])∧w'.ownsRow w.heap.size 156 2 v r.1.length (prRow r.1)∧Below w.heap.size w w'
theorem nm_normal_any (s : ByteArray) (w : World) (hs : s.size ≤ 1000000000) :
  Calls Tryz.prog 109 #[.string s] w (RetPB w (Idn.normal (L s))):=by
 have hP:=nm_parse_any s w hs
 obtain ⟨h8,hsm⟩:=parse_sm (L s)
 generalize hr:Idn.normal (L s)=r
 have HR:Hid (r=if (Idn.parse (L s)).2 !=0 then ([],false)else ((Idn.parse (L s)).1,(Idn.format (Idn.parse (L s)).1).2==0&&(Idn.format (Idn.parse (L s)).1).1==L s)):=hr.symm
 generalize Idn.parse (L s)=pp at *
 obtain ⟨l,x⟩:=pp
 dsimp only at HR h8 hsm
 clear hr
 by_cases h0:x=0
 ·subst h0
  have HF:Hid (r=(l,(Idn.format l).2==0&&(Idn.format l).1==L s)):=HR.out
  have hF:=fun (v:Value) W (hv:PairsV W W.heap.size v l)=>nm_format_any v l W hv (fun p hp=>by have:=hsm p hp;omega) (by omega)
  generalize Idn.format l=fm at *
  obtain ⟨t,c⟩:=fm
  dsimp only at HF hF
  have hbe:((B t).toList==s.toList)=(t==L s):=by rw[str_beq,Idn.L_B,list_beq]
  generalize hq:(t==L s)=q at *
  clear HR hq
  by_cases hc:c=0
  ·subst hc
   have HG:Hid (r=(l,q)):=by show _=_;rw[HF.out];rfl
   clear HF
   cases q
   all_goals
    go_enter Tryz.func109,Tryz.ntmps109
    go_wp2_with fail
    refine hP.mono ?_
    rintro e w1 ⟨v1,rfl,hown1,hb1⟩
    obtain ⟨A,cc,hv⟩:=own_shape hown1
    subst hv
    have hF1:=hF _ w1 (PairsV.of_own hown1)
    clear hP hF
    dsimp only at *
    go_wp2_with fail
    refine hF1.mono ?_
    rintro e w2 ⟨rfl,hb2⟩
    have hown2:=own_below hown1 hb2
    clear hF1 hown1
    go_wp2
    go_ret2
    exact ⟨.slice A l.length cc,by rw[HG.out];rfl,by rw[HG.out];exact hown2,hb1.trans (hb2.mono hb1.size)⟩
  ·have hc1:(c==0)=false:=by simpa using hc
   have HG:Hid (r=(l,false)):=by show _=_;rw[HF.out,hc1];rfl
   clear HF hc
   go_enter Tryz.func109,Tryz.ntmps109
   go_wp2_with fail
   refine hP.mono ?_
   rintro e w1 ⟨v1,rfl,hown1,hb1⟩
   obtain ⟨A,cc,hv⟩:=own_shape hown1
   subst hv
   have hF1:=hF _ w1 (PairsV.of_own hown1)
   clear hP hF
   dsimp only at *
   go_wp2_with fail
   refine hF1.mono ?_
   rintro e w2 ⟨rfl,hb2⟩
   have hown2:=own_below hown1 hb2
   clear hF1 hown1
   go_wp2
   go_ret2
   exact ⟨.slice A l.length cc,by rw[HG.out];rfl,by rw[HG.out];exact hown2,hb1.trans (hb2.mono hb1.size)⟩
 ·have HF:Hid (r=([],false)):=by show _=_;rw[HR.out,if_pos (by simpa using h0)]
  have h1:(x !=0)=true:=by simpa using h0
  have h2:(x==0)=false:=by simpa using h0
  clear HR h0
  go_enter Tryz.func109,Tryz.ntmps109
  go_wp2_with fail
  refine hP.mono ?_
  rintro e w1 ⟨v1,rfl,hown1,hb1⟩
  obtain ⟨A,cc,hv⟩:=own_shape hown1
  subst hv
  clear hP hown1
  go_wp2
  go_ret2
  exact ⟨.slice none 0 0,by rw[HF.out];rfl,by rw[HF.out];exact World.ownsRow_nil _ _ _ _,hb1⟩
def cmpB (a b:Bs):Int:=if a<b then -1 else if b<a then 1 else 0
theorem isNaNs_any (s:ByteArray) (w:World):Calls Tryz.prog 182 #[.string s] w fun e w'=>e=.returned (.bool false)∧w=w':=by
 go_enter Tryz.func182,Tryz.ntmps182
 go_wp2
 go_ret
 exact ⟨rfl,rfl⟩
theorem cmpS_any (a b:ByteArray) (w:World):Calls Tryz.prog 110 #[.string a,.string b] w fun e w'=>e=.returned (.int .i64 (cmpB (L a) (L b)))∧w=w':=by
 have hN:=fun s W=>isNaNs_any s W
 have h1:Op.bytesLess a.toList b.toList=decide (L a<L b):=by rw[bytesLess_eq,toList_L,toList_L]
 have h2:Op.bytesLess b.toList a.toList=decide (L b<L a):=by rw[bytesLess_eq,toList_L,toList_L]
 by_cases c1:L a<L b
 ·rw[decide_eq_true c1]at h1
  have HF:Hid (cmpB (L a) (L b) = -1):=by show _=_;rw[cmpB,if_pos c1]
  clear c1 h2
  go_enter Tryz.func110,Tryz.ntmps110
  go_wp2_with (go_at_call 182;refine (hN _ _).mono ?_;rintro e w1 ⟨rfl,rfl⟩)
  go_ret
  exact ⟨ret_int HF.out.symm,rfl⟩
 ·rw[decide_eq_false c1]at h1
  by_cases c2:L b<L a
  ·rw[decide_eq_true c2]at h2
   have HF:Hid (cmpB (L a) (L b)=1):=by show _=_;rw[cmpB,if_neg c1,if_pos c2]
   have h3:(a.toList==b.toList)=false:=str_not (fun e=>c1 (by rw[e]at c2⊢;exact absurd c2 (List.lt_irrefl _)))
   clear c1 c2
   go_enter Tryz.func110,Tryz.ntmps110
   go_wp2_with (go_at_call 182;refine (hN _ _).mono ?_;rintro e w1 ⟨rfl,rfl⟩)
   go_ret
   exact ⟨ret_int HF.out.symm,rfl⟩
  ·rw[decide_eq_false c2]at h2
   have HF:Hid (cmpB (L a) (L b)=0):=by show _=_;rw[cmpB,if_neg c1,if_neg c2]
   have h3:(a.toList==b.toList)=true:=str_is (by refine Decidable.byContradiction fun hne=>?_;exact c2 (Idn.lt_of _ _ c1 hne))
   clear c1 c2
   go_enter Tryz.func110,Tryz.ntmps110
   go_wp2_with (go_at_call 182;refine (hN _ _).mono ?_;rintro e w1 ⟨rfl,rfl⟩)
   go_ret
   exact ⟨ret_int HF.out.symm,rfl⟩
def or2 (a b:Int):Int:=if a=0 then b else a
theorem or2_any (W : World) (g : Nat) (a b : Int) (h0 : W.cell? ⟨g, 0, none⟩ = some (.int .i64 a)) (h1 : W.cell? ⟨g, 1, none⟩ = some (.int .i64 b)) :
  Calls Tryz.prog 112 #[.slice (some ⟨g,0,none⟩) 2 2] W fun e w'=>e=.returned (.int .i64 (or2 a b))∧W=w':=by
 by_cases ha:a=0
 ·have ea:(a !=0)=false:=by simp[ha]
  by_cases hb:b=0
  ·have eb:(b !=0)=false:=by simp[hb]
   have HF:Hid (or2 a b=0):=by show _=_;rw[or2,if_pos ha,hb]
   clear ha hb
   go_enter Tryz.func112,Tryz.ntmps112
   go_wp2
   go_loop [8] (fun i=>i=.int .i64 0∨i=.int .i64 1∨i=.int .i64 2) (fun i=>2-(intOf i).toNat)
   case atStart=>exact .inl rfl
   case round=>
    rcases hrel with rfl|rfl|rfl
    ·go_wp2
     go_round
     case rel=>exact .inr (.inl rfl)
     case measure=>decide
    ·go_wp2
     go_round
     case rel=>exact .inr (.inr rfl)
     case measure=>decide
    ·go_wp2
     go_ret
     exact ⟨ret_int HF.out.symm,rfl⟩
  ·have eb:(b !=0)=true:=by simpa using hb
   have HF:Hid (or2 a b=b):=by show _=_;rw[or2,if_pos ha]
   clear ha hb
   go_enter Tryz.func112,Tryz.ntmps112
   go_wp2
   go_loop [8] (fun i=>i=.int .i64 0∨i=.int .i64 1) (fun i=>2-(intOf i).toNat)
   case atStart=>exact .inl rfl
   case round=>
    rcases hrel with rfl|rfl
    ·go_wp2
     go_round
     case rel=>exact .inr rfl
     case measure=>decide
    ·go_wp2
     go_ret
     exact ⟨ret_int HF.out.symm,rfl⟩
 ·have ea:(a !=0)=true:=by simpa using ha
  have HF:Hid (or2 a b=a):=by show _=_;rw[or2,if_neg ha]
  clear ha
  go_enter Tryz.func112,Tryz.ntmps112
  go_wp2
  go_loop [8] (fun i=>i=.int .i64 0) (fun i=>2-(intOf i).toNat)
  case atStart=>rfl
  case round=>
   obtain rfl:=hrel
   go_wp2
   go_ret
   exact ⟨ret_int HF.out.symm,rfl⟩
end Go.Proofs.YtbkkchhimhlhcaaGreatDoor
/- name: Compare. -/
namespace Go.Proofs.YtbkkchhimhlhcaaGreatDoor
open Go.RowKit Go.Sort
open Idn (L B Bs drop_L take_L size_L)
def cmpPr (p q:Idn.Pr):Int:=or2 (cmpB p.1 q.1) (cmpB p.2 q.2)
def cmpL:List Idn.Pr→List Idn.Pr→Int
 |[],[]=>0
 |[],_ :: _=>-1
 |_ :: _,[]=>1
 |p :: l,q :: m=>if cmpPr p q=0 then cmpL l m else cmpPr p q
def cmpNm (a b:Bs):Int:=
 if (Idn.normal a).2 then (if (Idn.normal b).2 then cmpL (Idn.normal a).1.reverse (Idn.normal b).1.reverse else -1)
 else if (Idn.normal b).2 then 1 else cmpB a b
theorem cmpL_end (l m:List Idn.Pr) (i:Nat) (h:i≤l.length) (h2:i≤m.length) (hi:i=l.length∨i=m.length):cmpL (l.drop i) (m.drop i)=Lib.compareInt l.length m.length:=by
 unfold Lib.compareInt
 by_cases h3:i=l.length
 ·rw[List.drop_eq_nil_of_le (by omega)]
  cases hd:m.drop i with
  |nil=>
   have:=congrArg List.length hd
   rw[List.length_drop,List.length_nil]at this
   rw[cmpL,if_neg (by omega),if_neg (by omega)]
  |cons q r=>
   have:=congrArg List.length hd
   rw[List.length_drop,List.length_cons]at this
   rw[cmpL,if_pos (by omega)]
 ·have h4:i=m.length:=by omega
  rw[show m.drop i=[] from List.drop_eq_nil_of_le (by omega)]
  cases hd:l.drop i with
  |nil=>
   have:=congrArg List.length hd
   rw[List.length_drop,List.length_nil]at this
   omega
  |cons q r=>
   rw[cmpL,if_neg (by omega),if_pos (by omega)]
theorem cmpL_step (l m:List Idn.Pr) (i:Nat) (h:i<l.length) (h2:i<m.length):cmpL (l.drop i) (m.drop i)=if cmpPr l[i] m[i]=0 then cmpL (l.drop (i+1)) (m.drop (i+1))else cmpPr l[i] m[i]:=by
 rw[List.drop_eq_getElem_cons h,List.drop_eq_getElem_cons h2,cmpL]
theorem gen2d {R : World → Prop} {w : World} {C1 C2 : Array Value} {t1 t2 : TypeId}
  (h:∀X,Below w.heap.size w X→(∀(i:Nat) (v:Value),C1[i]?=some v→X.cell? ⟨w.heap.size,i,none⟩=some v)→(∀(i:Nat) (v:Value),C2[i]?=some v→X.cell? ⟨w.heap.size+1,i,none⟩=some v)→R X):R (((w.alloc (.cells C1 t1)).alloc (.cells C2 t2)).drew):=
 gen2 (R:=fun W=>R W.drew) fun W hb _ h1 h2=>h W.drew hb.drew h1 h2
theorem or2_newd {W:World} {a b:Int} {t:TypeId}:Calls Tryz.prog 112 #[.slice (some ⟨W.heap.size,0,none⟩) 2 2] (W.alloc (.cells #[.int .i64 a,.int .i64 b] t)).drew fun e w'=>e=.returned (.int .i64 (or2 a b))∧(W.alloc (.cells #[.int .i64 a,.int .i64 b] t)).drew=w':=by
 have e:=heap_alloc_new W (.cells #[.int .i64 a,.int .i64 b] t)
 have h0:(W.alloc (.cells #[.int .i64 a,.int .i64 b] t)).cell? ⟨W.heap.size,0,none⟩=some (.int .i64 a):=by rw[cell_of_row _ W.heap.size 0 _ _ (0,0) e];rfl
 have h1:(W.alloc (.cells #[.int .i64 a,.int .i64 b] t)).cell? ⟨W.heap.size,1,none⟩=some (.int .i64 b):=by rw[cell_of_row _ W.heap.size 1 _ _ (0,0) e];rfl
 exact or2_any _ W.heap.size a b h0 h1
theorem order_any (i : Nat) (p1 p2 : Nat) (v u : Value) (l m : List Idn.Pr) (w : World) (hp1 : w.cell? ⟨p1, 0, none⟩ = some v) (hp2 : w.cell? ⟨p2, 0, none⟩ = some u) (hv : PairsV w w.heap.size v l) (hu : PairsV w w.heap.size u m)
    (hl:i<l.length) (hm:i<m.length) (hl8:l.length≤1000) (hm8:m.length≤1000) :
    Calls Tryz.prog 111 #[.int .i64 (i:Int),.pointer (some ⟨p1,0,none⟩),.pointer (some ⟨p2,0,none⟩)] w fun e w'=>e=.returned (.int .i64 (cmpPr (l.reverse[i]'(by simpa using hl)) (m.reverse[i]'(by simpa using hm))))∧Below w.heap.size w w':=by
 obtain ⟨A,c,rfl,hc⟩:=SlV.shape hv
 obtain ⟨A',c',rfl,hc'⟩:=SlV.shape hu
 have hli:l.length-1-i<l.length:=by omega
 have hmi:m.length-1-i<m.length:=by omega
 obtain ⟨b,off,rfl,hbl,c0,c1⟩:=PairsV.cell hv hli
 obtain ⟨b',off',rfl,hbl',d0,d1⟩:=PairsV.cell hu hmi
 have e1:l.reverse[i]'(by simpa using hl)=l[l.length-1-i]:=by rw[List.getElem_reverse]
 have e2:m.reverse[i]'(by simpa using hm)=m[m.length-1-i]:=by rw[List.getElem_reverse]
 rw[e1,e2]
 have hC1:=fun W=>cmpS_any (B (l[l.length-1-i].1)) (B (m[m.length-1-i].1)) W
 have hC2:=fun W=>cmpS_any (B (l[l.length-1-i].2)) (B (m[m.length-1-i].2)) W
 simp only[Idn.L_B]at hC1 hC2
 have k1:((l.length:Int)-1)-(i:Int)=((l.length-1-i:Nat):Int):=by omega
 have k2:((m.length:Int)-1)-(i:Int)=((m.length-1-i:Nat):Int):=by omega
 have r0:(0:Int)≤(l.length:Int)-1:=by omega
 have r1:(l.length:Int)-1≤1000:=by omega
 have s0:(0:Int)≤(m.length:Int)-1:=by omega
 have s1:(m.length:Int)-1≤1000:=by omega
 have q1:IntKind.i64.wrap ((l.length:Int)-1)=(l.length:Int)-1:=IntWalk.i64_in _ (by omega)
 have q2:IntKind.i64.wrap ((l.length:Int)-1-(i:Int))=((l.length-1-i:Nat):Int):=by rw[k1];exact IntWalk.i64_in _ (by omega)
 have q3:IntKind.i64.wrap ((m.length:Int)-1)=(m.length:Int)-1:=IntWalk.i64_in _ (by omega)
 have q4:IntKind.i64.wrap ((m.length:Int)-1-(i:Int))=((m.length-1-i:Nat):Int):=by rw[k2];exact IntWalk.i64_in _ (by omega)
 have j1:((l.length-1-i:Nat):Int)<(l.length:Int):=by omega
 have j2:((m.length-1-i:Nat):Int)<(m.length:Int):=by omega
 generalize l[l.length-1-i]=x at *
 generalize m[m.length-1-i]=y at *
 generalize l.length-1-i=li at *
 generalize m.length-1-i=mi at *
 clear e1 e2 hv hu k1 k2 r0 r1 s0 s1
 have HF:Hid (cmpPr x y=or2 (cmpB x.1 y.1) (cmpB x.2 y.2)):=rfl
 generalize cmpPr x y=res at *
 generalize cmpB x.1 y.1=c1v at *
 generalize cmpB x.2 y.2=c2v at *
 go_enter Tryz.func111,Tryz.ntmps111
 go_wp2_with fail
 have hS : ∀ W', Below w.heap.size w W' → W'.cell? ⟨p1, 0, none⟩ = some (.slice (some ⟨b, off, none⟩) l.length c) ∧ W'.cell? ⟨p2, 0, none⟩ = some (.slice (some ⟨b', off', none⟩) m.length c') ∧ W'.cell? ⟨b, off + li * 2, none⟩ = some (.string (B x.1)) ∧ W'.cell? ⟨b, off + li * 2 + 1, none⟩ = some (.string (B x.2)) ∧
     W'.cell? ⟨b',off'+mi*2,none⟩=some (.string (B y.1))∧W'.cell? ⟨b',off'+mi*2+1,none⟩=some (.string (B y.2))∧Below w.heap.size w W':=fun W' hW=>
  ⟨cell_later hW hp1,cell_later hW hp2,cell_later hW c0,cell_later hW c1,cell_later hW d0,cell_later hW d1,hW⟩
 have hw0:=Below.refl w.heap.size w
 go_region_held3 (fun W' => W'.cell? ⟨p1, 0, none⟩ = some (.slice (some ⟨b, off, none⟩) l.length c) ∧ W'.cell? ⟨p2, 0, none⟩ = some (.slice (some ⟨b', off', none⟩) m.length c') ∧ W'.cell? ⟨b, off + li * 2, none⟩ = some (.string (B x.1)) ∧ W'.cell? ⟨b, off + li * 2 + 1, none⟩ = some (.string (B x.2)) ∧
     W'.cell? ⟨b',off'+mi*2,none⟩=some (.string (B y.1))∧W'.cell? ⟨b',off'+mi*2+1,none⟩=some (.string (B y.2))∧Below w.heap.size w W')
  (first|(refine hS _ ?_;repeat (first|with_reducible exact Below.refl _ _|with_reducible apply Below.drew|with_reducible refine Below.lay ?_ _|with_reducible refine Below.setCell ?_ (by simp) _)))
  (first|fail)
 ·with_reducible refine gen2d (R:=fun X=>Exit.then _ _ _ _ X) ?_
  intro X hbX h1 h2
  have a0:=h1 0 _ rfl
  have a1:=h1 1 _ rfl
  have a2:=h2 0 _ rfl
  have a3:=h2 1 _ rfl
  have hS2:∀W',Below X.heap.size X W'→W'.cell? ⟨w.heap.size,0,none⟩=some (.string (B x.1))∧W'.cell? ⟨w.heap.size,1,none⟩=some (.string (B x.2))∧W'.cell? ⟨w.heap.size+1,0,none⟩=some (.string (B y.1))∧W'.cell? ⟨w.heap.size+1,1,none⟩=some (.string (B y.2))∧Below X.heap.size X W':=fun W' hW=>⟨cell_later hW a0,cell_later hW a1,cell_later hW a2,cell_later hW a3,hW⟩
  have hx0:=Below.refl X.heap.size X
  clear h1 h2 hS hw0
  go_wp2_with fail
  go_region_held3 (fun W'=>W'.cell? ⟨w.heap.size,0,none⟩=some (.string (B x.1))∧W'.cell? ⟨w.heap.size,1,none⟩=some (.string (B x.2))∧W'.cell? ⟨w.heap.size+1,0,none⟩=some (.string (B y.1))∧W'.cell? ⟨w.heap.size+1,1,none⟩=some (.string (B y.2))∧Below X.heap.size X W')
   (first|(refine hS2 _ ?_;repeat (first|with_reducible exact Below.refl _ _|with_reducible apply Below.drew|with_reducible refine Below.lay ?_ _|with_reducible refine Below.setCell ?_ (by simp) _)))
   (first
    |(go_at_call 110;with_reducible refine (hC1 _).mono ?_;rintro e x1 ⟨rfl,rfl⟩)
    |(go_at_call 110;with_reducible refine (hC2 _).mono ?_;rintro e x1 ⟨rfl,rfl⟩)
    |(go_at_call 112;with_reducible refine or2_newd.mono ?_;rintro e x2 ⟨rfl,rfl⟩))
  all_goals
   go_wp2
   go_ret
   exact ⟨ret_int HF.out.symm,Below.on hbX (by repeat (first|with_reducible exact Below.refl _ _|with_reducible apply Below.drew|with_reducible refine Below.lay ?_ _))⟩
 ·with_reducible refine gen2d (R:=fun X=>Exit.then _ _ _ _ X) ?_
  intro X hbX h1 h2
  have a0:=h1 0 _ rfl
  have a1:=h1 1 _ rfl
  have a2:=h2 0 _ rfl
  have a3:=h2 1 _ rfl
  have hS2:∀W',Below X.heap.size X W'→W'.cell? ⟨w.heap.size,0,none⟩=some (.string (B y.1))∧W'.cell? ⟨w.heap.size,1,none⟩=some (.string (B y.2))∧W'.cell? ⟨w.heap.size+1,0,none⟩=some (.string (B x.1))∧W'.cell? ⟨w.heap.size+1,1,none⟩=some (.string (B x.2))∧Below X.heap.size X W':=fun W' hW=>⟨cell_later hW a0,cell_later hW a1,cell_later hW a2,cell_later hW a3,hW⟩
  have hx0:=Below.refl X.heap.size X
  clear h1 h2 hS hw0
  go_wp2_with fail
  go_region_held3 (fun W'=>W'.cell? ⟨w.heap.size,0,none⟩=some (.string (B y.1))∧W'.cell? ⟨w.heap.size,1,none⟩=some (.string (B y.2))∧W'.cell? ⟨w.heap.size+1,0,none⟩=some (.string (B x.1))∧W'.cell? ⟨w.heap.size+1,1,none⟩=some (.string (B x.2))∧Below X.heap.size X W')
   (first|(refine hS2 _ ?_;repeat (first|with_reducible exact Below.refl _ _|with_reducible apply Below.drew|with_reducible refine Below.lay ?_ _|with_reducible refine Below.setCell ?_ (by simp) _)))
   (first
    |(go_at_call 110;with_reducible refine (hC1 _).mono ?_;rintro e x1 ⟨rfl,rfl⟩)
    |(go_at_call 110;with_reducible refine (hC2 _).mono ?_;rintro e x1 ⟨rfl,rfl⟩)
    |(go_at_call 112;with_reducible refine or2_newd.mono ?_;rintro e x2 ⟨rfl,rfl⟩))
  all_goals
   go_wp2
   go_ret
   exact ⟨ret_int HF.out.symm,Below.on hbX (by repeat (first|with_reducible exact Below.refl _ _|with_reducible apply Below.drew|with_reducible refine Below.lay ?_ _))⟩
end Go.Proofs.YtbkkchhimhlhcaaGreatDoor
/- name: Compare. -/
namespace Go.Proofs.YtbkkchhimhlhcaaGreatDoor
open Go.RowKit Go.Sort
open Idn (L B Bs drop_L take_L size_L)
theorem normal_sm (s:Bs):(Idn.normal s).1.length≤8:=by
 unfold Idn.normal
 split
 ·simp
 ·exact (parse_sm s).1
theorem nm_compare_any (a b : ByteArray) (w : World) (ha : a.size ≤ 1000000000) (hb : b.size ≤ 1000000000) :
  Calls Tryz.prog 41 #[.string a,.string b] w fun e w'=>e=.returned (.int .i64 (cmpNm (L a) (L b)))∧Below w.heap.size w w':=by
 have h1:=nm_normal_any a w ha
 have h2:=fun W=>nm_normal_any b W hb
 have hla:=normal_sm (L a)
 have hlb:=normal_sm (L b)
 generalize hr:cmpNm (L a) (L b)=r
 have HR:Hid (r=if (Idn.normal (L a)).2 then (if (Idn.normal (L b)).2 then cmpL (Idn.normal (L a)).1.reverse (Idn.normal (L b)).1.reverse else -1)else if (Idn.normal (L b)).2 then 1 else cmpB (L a) (L b)):=hr.symm
 have hCS:=fun W=>cmpS_any a b W
 generalize Idn.normal (L a)=na at *
 generalize Idn.normal (L b)=nb at *
 obtain ⟨l,ok⟩:=na
 obtain ⟨m,is⟩:=nb
 dsimp only at HR hla hlb
 generalize cmpB (L a) (L b)=cb at *
 clear hr
 go_enter Tryz.func41,Tryz.ntmps41
 go_wp2_with fail
 refine h1.mono ?_
 rintro e w1 ⟨v1,rfl,ho1,hb1⟩
 obtain ⟨A,c,hv⟩:=own_shape ho1
 subst hv
 clear h1
 dsimp only at *
 go_wp2_with fail
 with_reducible refine gen1 (R:=fun W=>Calls Tryz.prog 109 _ W _) ?_
 intro W2 hbW2 hszW2 hc2 _
 have p1:=hc2 0 _ rfl
 have ho2:=own_below ho1 hbW2
 have hbw2:=hb1.trans (hbW2.mono hb1.size)
 clear hc2 ho1
 refine (h2 W2).mono ?_
 rintro e w3 ⟨v3,rfl,ho3,hb3⟩
 obtain ⟨A',c',hv⟩:=own_shape ho3
 subst hv
 replace p1:=cell_later hb3 p1
 have ho2':=own_below ho2 hb3
 have hbw3:=hbw2.trans (hb3.mono hbw2.size)
 clear h2 ho2
 dsimp only at *
 go_upto_block 0 with fail
 with_reducible refine gen1 (R:=fun W=>Code.wp Tryz.prog _ _ _ W) ?_
 intro W4 hbW4 hszW4 hc4 _
 have p2:=hc4 0 _ rfl
 replace p1:=cell_later hbW4 p1
 have hP1:=PairsV.of_own (own_below ho2' hbW4)
 have hP2:=PairsV.of_own (own_below ho3 hbW4)
 have hbw4:=hbw3.trans (hbW4.mono hbw3.size)
 clear hc4 ho2' ho3 hszW2 hszW4
 cases ok
 ·cases is
  ·have HF:Hid (r=cb):=HR.out
   clear HR
   go_wp2_with fail
   refine (hCS _).mono ?_
   rintro e w5 ⟨rfl,rfl⟩
   go_wp2
   go_ret
   exact ⟨ret_int HF.out.symm,hbw4⟩
  ·have HF:Hid (r=1):=HR.out
   clear HR
   go_wp2
   go_ret
   exact ⟨ret_int HF.out.symm,hbw4⟩
 ·cases is
  ·have HF:Hid (r = -1):=HR.out
   clear HR
   go_wp2
   go_ret
   exact ⟨ret_int HF.out.symm,hbw4⟩
  ·have HF:Hid (r=cmpL l.reverse m.reverse):=HR.out
   clear HR hCS
   have hst:=cmpL_step l.reverse m.reverse
   have hen:=cmpL_end l.reverse m.reverse
   simp only[List.length_reverse]at hst hen
   have hOr:=fun i W (hW:Below W4.heap.size W4 W) (h1:i<l.length) (h2:i<m.length)=>order_any i w1.heap.size w3.heap.size _ _ l m W (cell_later hW p1) (cell_later hW p2) (SlV.mono (SlV.keep hP1 hW) hW.size) (SlV.mono (SlV.keep hP2 hW) hW.size) h1 h2 (by omega) (by omega)
   have hmin:∃n:Nat,n≤l.length∧n≤m.length∧(n=l.length∨n=m.length)∧min (l.length:Int) (m.length:Int)=(n:Int):=by
    by_cases h:l.length≤m.length
    ·exact ⟨l.length,Nat.le_refl _,h,.inl rfl,by omega⟩
    ·exact ⟨m.length,by omega,Nat.le_refl _,.inr rfl,by omega⟩
   obtain ⟨n,hn1,hn2,hn3,hn4⟩:=hmin
   have HN4:=Lib.hid hn4
   go_wp2_with fail
   clear hn4
   go_loopw [46] (fun x wr=>∃i:Nat,i≤n∧x=.int .i64 i∧Below W4.heap.size W4 wr∧Hid (r=cmpL (l.reverse.drop i) (m.reverse.drop i))) (fun x _=>n-(intOf x).toNat)
   case atStart=>exact ⟨0,Nat.zero_le _,rfl,Below.refl _ _,HF.out⟩
   case round=>
    obtain ⟨i,hi,rfl,hb,hinv⟩:=hrel
    by_cases hlt:i<n
    ·have hil:i<l.length:=by omega
     have him:i<m.length:=by omega
     have hO:=hOr i wr hb hil him
     have hs:=hst i hil him
     have hltI:(i:Int)<(n:Int):=by omega
     generalize cmpPr (l.reverse[i]'(by simpa using hil)) (m.reverse[i]'(by simpa using him))=o at *
     by_cases h0:o=0
     ·subst h0
      have HG:Hid (r=cmpL (l.reverse.drop (i+1)) (m.reverse.drop (i+1))):=by show _=_;rw[hinv.out,hs,if_pos rfl]
      clear hs hst hen hOr hinv
      go_wp2_with fail
      refine hO.mono ?_
      rintro e w5 ⟨rfl,hb5⟩
      go_wp2
      go_roundw
      case rel=>exact ⟨i+1,by omega,by go_num,hb.trans (hb5.mono hb.size),HG⟩
      case measure=>simp[intOf];omega
     ·have HG:Hid (r=o):=by show _=_;rw[hinv.out,hs,if_neg h0]
      have h0':(o !=0)=true:=by simpa using h0
      clear hs hst hen hOr hinv h0
      go_wp2_with fail
      refine hO.mono ?_
      rintro e w5 ⟨rfl,hb5⟩
      go_wp2
      go_ret
      exact ⟨ret_int HG.out.symm,hbw4.trans ((hb.trans (hb5.mono hb.size)).mono hbw4.size)⟩
    ·have hin:i=n:=by omega
     have hltI:¬(i:Int)<(n:Int):=by omega
     have HG:Hid (r=Lib.compareInt l.length m.length):=by show _=_;rw[hinv.out,hen i (by omega) (by omega) (by omega)]
     have hCI:=fun W=>Tryz.cmp_Compare_int (l.length:Int) (m.length:Int) W
     replace p1:=cell_later hb p1
     replace p2:=cell_later hb p2
     generalize Lib.compareInt l.length m.length=ci at *
     clear hst hen hOr hinv hin
     go_wp2_with fail
     refine (hCI _).mono ?_
     rintro e w5 ⟨rfl,rfl⟩
     go_wp2
     go_ret
     exact ⟨ret_int HG.out.symm,hbw4.trans (hb.mono hbw4.size)⟩
end Go.Proofs.YtbkkchhimhlhcaaGreatDoor
/- identityref02: decimal, ReadInt, Int; identityref01: Order. -/
namespace Go.Proofs.YtbkkchhimhlhcaaGreatDoor
open Go.RowKit Go.Sort
open Idn (L B Bs drop_L take_L size_L)
end Go.Proofs.YtbkkchhimhlhcaaGreatDoor
/- identityref05: special, next, value. -/
namespace Go.Proofs.YtbkkchhimhlhcaaGreatDoor
open Go.RowKit Go.Sort
open Idn (L B Bs drop_L take_L size_L)
theorem r5_special_any (c : UInt8) (w : World) :
  Calls Tryz.prog 223 #[.int .u8 (c.toNat:Int)] w fun e w'=>e=.returned (.bool (Idn.special c))∧w=w':=by
 have e1:=byte_eq c 44
 have e2:=byte_eq c 61
 have e3:=byte_eq c 43
 have e4:=byte_eq c 92
 cases h1:c==44<;>cases h2:c==61<;>cases h3:c==43
 all_goals
  rw[h1]at e1
  rw[h2]at e2
  rw[h3]at e3
  replace e1:((c.toNat:Int)==44)=_:=e1
  replace e2:((c.toNat:Int)==61)=_:=e2
  replace e3:((c.toNat:Int)==43)=_:=e3
  replace e4:((c.toNat:Int)==92)=_:=e4
  have E4:=Lib.hid e4
  clear e4
  go_enter Tryz.func223,Tryz.ntmps223
  go_wp2
  go_ret
  refine ⟨ret_bool ?_,rfl⟩
  simp[Idn.special,h1,h2,h3]
  try exact E4.out
def nextN (c:UInt8) (l:Bs):Nat:=match Idn.idx c l with|none=>l.length|some k=>k
theorem nextN_none {c:UInt8} {l:Bs} (h:Idn.idx c l=none):nextN c l=l.length:=by rw[nextN,h]
theorem nextN_some {c:UInt8} {l:Bs} {k:Nat} (h:Idn.idx c l=some k):nextN c l=k:=by rw[nextN,h]
theorem nextN_le (c:UInt8) (l:Bs):nextN c l≤l.length:=by
 unfold nextN
 cases h:Idn.idx c l with
 |none=>exact Nat.le_refl _
 |some k=>exact Nat.le_of_lt (Idn.idx_lt _ _ _ h)
theorem r5_next_any (s : ByteArray) (c : UInt8) (w : World) (hs : s.size ≤ 1000000000000) :
  Calls Tryz.prog 260 #[.string s,.int .u8 (c.toNat:Int)] w fun e w'=>e=.returned (.int .i64 (nextN c (L s)))∧w=w':=by
 go_enter Tryz.func260,Tryz.ntmps260
 go_wp2
 go_loop [5] (fun i=>∃k:Nat,k≤s.size+1∧i=.int .i64 k∧Hid (Idn.idx c (L s)=(Idn.idx c ((L s).drop k)).map (·+k))) (fun i=>s.size+1-(intOf i).toNat)
 case atStart=>exact ⟨0,Nat.zero_le _,rfl,by show _=_;simp⟩
 case round=>
  obtain ⟨k,hk,rfl,hinv⟩:=hrel
  by_cases hlt:k<s.size
  ·by_cases hc:s[k]=c
   ·have e1:=byte_is hc
    have HF:Hid (nextN c (L s)=k):=by
     show _=_
     have:Idn.idx c (L s)=some k:=by
      rw[hinv.out]
      by_cases h2:k+1<s.size
      ·rw[drop_two s k h2];simp[Idn.idx,hc]
      ·rw[drop_last s k hlt h2];simp[Idn.idx,hc]
     rw[nextN_some this]
    clear hc
    go_wp2
    go_ret
    exact ⟨ret_int (by rw[HF.out]),rfl⟩
   ·have e1:=byte_not hc
    by_cases h92:s[k]=92
    ·have e2:((s[k].toNat:Int)==92)=true:=by rw[h92];rfl
     have HF:Hid (Idn.idx c (L s)=(Idn.idx c ((L s).drop (k+2))).map (·+(k+2))):=by
      show _=_
      rw[hinv.out]
      by_cases h2:k+1<s.size
      ·rw[drop_two s k h2,Idn.idx,if_neg (by simpa using hc),if_pos (by simpa using h92)]
       simp[Function.comp_def,Nat.add_assoc,Nat.add_comm 2 k]
      ·rw[drop_last s k hlt h2,drop_end s (k+2) (by omega)];simp[Idn.idx,hc]
     clear hc h92
     go_wp2
     go_round
     case rel=>exact ⟨k+2,by omega,by go_num,HF⟩
     case measure=>simp[intOf];omega
    ·have e2:((s[k].toNat:Int)==92)=false:=byte_not (d:=92) h92
     have HF:Hid (Idn.idx c (L s)=(Idn.idx c ((L s).drop (k+1))).map (·+(k+1))):=by
      show _=_
      rw[hinv.out]
      by_cases h2:k+1<s.size
      ·rw[drop_two s k h2,Idn.idx,if_neg (by simpa using hc),if_neg (by simpa using h92),drop_L s (k+1) h2]
       simp[Function.comp_def,Nat.add_assoc,Nat.add_comm 1 k]
      ·rw[drop_last s k hlt h2,drop_end s (k+1) (by omega)];simp[Idn.idx,hc]
     clear hc h92
     go_wp2
     go_round
     case rel=>exact ⟨k+1,by omega,by go_num,HF⟩
     case measure=>simp[intOf];omega
  ·have HF : Hid (nextN c (L s) = s.size) := by
    show _=_
    have:Idn.idx c (L s)=none:=by rw[hinv.out,drop_end s k hlt];rfl
    rw[nextN_none this,←size_L]
   go_wp2
   go_ret
   exact ⟨ret_int (by rw[HF.out]),rfl⟩
def valR5 (l:Bs):Bs×Bool:=match Idn.val5 l with|none=>([],false)|some v=>(v,true)
theorem valR5_none {l:Bs} (h:Idn.val5 l=none):valR5 l=([],false):=by rw[valR5,h]
theorem valR5_some {l v:Bs} (h:Idn.val5 l=some v):valR5 l=(v,true):=by rw[valR5,h]
theorem val5_len:∀l v,Idn.val5 l=some v→v.length≤l.length:=by
 intro l
 induction l using Idn.val5.induct with
 |case1=>intro v h;simp[Idn.val5]at h;subst h;simp
 |case2 x hx=>intro v h;simp[Idn.val5,hx]at h
 |case3 x hx hs=>intro v h;rw[Idn.val5,if_neg hx,if_pos hs]at h;cases h
 |case4 x hx hs=>intro v h;rw[Idn.val5,if_neg hx,if_neg hs]at h;injection h with h;subst h;simp
 |case5 x y l hx hy ih=>
  intro v h
  rw[Idn.val5,if_pos hx,if_pos hy]at h
  obtain ⟨u,hu,rfl⟩:=Option.map_eq_some_iff.1 h
  have:=ih u hu;simp;omega
 |case6 x y l hx hy=>intro v h;rw[Idn.val5,if_pos hx,if_neg hy]at h;cases h
 |case7 x y l hx hs=>intro v h;rw[Idn.val5,if_neg hx,if_pos hs]at h;cases h
 |case8 x y l hx hs ih=>
  intro v h
  rw[Idn.val5,if_neg hx,if_neg hs]at h
  obtain ⟨u,hu,rfl⟩:=Option.map_eq_some_iff.1 h
  have:=ih u hu;simp at this⊢;omega
theorem val5_plain (s:ByteArray) (k:Nat) (hk:k<s.size) (h92:¬s[k]=92) (hs:(s[k]==61||s[k]==43)=false):Idn.val5 ((L s).drop k)=(Idn.val5 ((L s).drop (k+1))).map (s[k] :: ·):=by
 by_cases h2:k+1<s.size
 ·rw[drop_two s k h2,Idn.val5,if_neg (by simpa using h92),if_neg (by rw[hs];decide),drop_L s (k+1) h2]
 ·rw[drop_last s k hk h2,drop_end s (k+1) h2,show Idn.val5 [s[k]]=some [s[k]] by rw[Idn.val5,if_neg (by simpa using h92),if_neg (by rw[hs];decide)]];rfl
theorem val5_spec (s:ByteArray) (k:Nat) (hk:k<s.size) (h92:¬s[k]=92) (hs:(s[k]==61||s[k]==43)=true):Idn.val5 ((L s).drop k)=none:=by
 by_cases h2:k+1<s.size
 ·rw[drop_two s k h2,Idn.val5,if_neg (by simpa using h92),if_pos hs]
 ·rw[drop_last s k hk h2,Idn.val5,if_neg (by simpa using h92),if_pos hs]
theorem val5_esc (s:ByteArray) (k:Nat) (h2:k+1<s.size) (h92:s[k]=92) (hs:Idn.special s[k+1]=true):Idn.val5 ((L s).drop k)=(Idn.val5 ((L s).drop (k+2))).map (s[k+1] :: ·):=by
 rw[drop_two s k h2,Idn.val5,if_pos (by simpa using h92),if_pos hs]
theorem val5_bad (s:ByteArray) (k:Nat) (h2:k+1<s.size) (h92:s[k]=92) (hs:Idn.special s[k+1]=false):Idn.val5 ((L s).drop k)=none:=by
 rw[drop_two s k h2,Idn.val5,if_pos (by simpa using h92),if_neg (by simp[hs])]
theorem val5_end (s:ByteArray) (k:Nat) (hk:k<s.size) (h2:¬k+1<s.size) (h92:s[k]=92):Idn.val5 ((L s).drop k)=none:=by
 rw[drop_last s k hk h2,h92];rfl
theorem r5_value_any (s : ByteArray) (w : World) (hs : s.size ≤ 1000000000) :
  Calls Tryz.prog 304 #[.string s] w fun e w'=>e=.returned (.tuple #[.string (B (valR5 (L s)).1),.bool (valR5 (L s)).2])∧Below w.heap.size w w':=by
 generalize hr:valR5 (L s)=r
 have HR:=Lib.hid hr
 clear hr
 go_enter Tryz.func304,Tryz.ntmps304
 go_wp2
 go_loopw [4,5] (fun v i wr=>∃(k:Nat) (acc:Bs),k≤s.size∧i=.int .i64 k∧wr.ownsRow w.heap.size 5 1 v acc.length (acc.map bc)∧Below w.heap.size w wr∧acc.length≤k∧Hid (Idn.val5 (L s)=(Idn.val5 ((L s).drop k)).map (acc ++ ·))) (fun _ i _=>s.size-(intOf i).toNat)
 case atStart=>exact ⟨0,[],Nat.zero_le _,rfl,World.ownsRow_nil _ _ _ _,Below.refl _ _,Nat.le_refl _,by show _=_;simp⟩
 case round=>
  obtain ⟨k,acc,hk,rfl,hown,hb,hal,hinv⟩:=hrel
  by_cases hlt:k<s.size
  ·by_cases h92:s[k]=92
   ·have e2:((s[k].toNat:Int)==92)=true:=by rw[h92];rfl
    by_cases h2:k+1<s.size
    ·have h2I:¬((s.size:Int)≤(k:Int)+1):=by omega
     have hSp:=r5_special_any s[k+1] wr
     cases hsp:Idn.special s[k+1]
     ·have hvb:=val5_bad s k h2 h92 hsp
      rw[hsp]at hSp
      have HF:Hid (r=([],false)):=by show _=_;rw[←HR.out];exact valR5_none (by rw[hinv.out,hvb];rfl)
      clear hvb hinv hsp h92
      go_wp2_with (go_at_call 223;refine hSp.mono ?_;rintro e w1 ⟨rfl,rfl⟩)
      go_ret2
      exact ⟨by rw[HF.out];rfl,hb⟩
     ·have hvb:=val5_esc s k h2 h92 hsp
      rw[hsp]at hSp
      have HF:Hid (Idn.val5 (L s)=(Idn.val5 ((L s).drop (k+2))).map ((acc++[s[k+1]]) ++ ·)):=by show _=_;rw[hinv.out,hvb,map_app]
      clear hvb hinv hsp h92
      go_wp2_with (first|(go_at_call 223;refine hSp.mono ?_;rintro e w1 ⟨rfl,rfl⟩)|(at_builtin;refine wpList_push wr rfl _ _ 179 rfl w.heap.size 5 (.int .u8 0) 1 1 Tryz.underlying179 info_u8 rfl (by decide) _ acc.length _ hown rfl [bc s[k+1]] rfl rfl (by intro u hu;simp at hu;subst hu;rfl) (by omega) hb.size ?_ rfl))
      intro v' w1' hown' _ _ hb' _
      clear hown
      go_wp2
      go_roundw
      case rel=>exact ⟨k+2,acc++[s[k+1]],by omega,by go_num,by simpa using hown',hb.trans hb',by simp;omega,HF⟩
      case measure=>simp[intOf];omega
    ·have h2I:(s.size:Int)≤(k:Int)+1:=by omega
     have hvb:=val5_end s k hlt h2 h92
     have HF:Hid (r=([],false)):=by show _=_;rw[←HR.out];exact valR5_none (by rw[hinv.out,hvb];rfl)
     clear hvb hinv h92
     go_wp2
     go_ret2
     exact ⟨by rw[HF.out];rfl,hb⟩
   ·have e2:((s[k].toNat:Int)==92)=false:=byte_not (d:=92) h92
    by_cases h61:s[k]=61
    ·have e3:((s[k].toNat:Int)==61)=true:=byte_is (d:=61) h61
     have hvb:=val5_spec s k hlt h92 (by rw[h61];rfl)
     have HF:Hid (r=([],false)):=by show _=_;rw[←HR.out];exact valR5_none (by rw[hinv.out,hvb];rfl)
     clear hvb hinv h92 h61
     go_wp2
     go_ret2
     exact ⟨by rw[HF.out];rfl,hb⟩
    ·have e3:((s[k].toNat:Int)==61)=false:=byte_not (d:=61) h61
     by_cases h43:s[k]=43
     ·have e4:((s[k].toNat:Int)==43)=true:=byte_is (d:=43) h43
      have hvb:=val5_spec s k hlt h92 (by rw[h43];rfl)
      have HF:Hid (r=([],false)):=by show _=_;rw[←HR.out];exact valR5_none (by rw[hinv.out,hvb];rfl)
      clear hvb hinv h92 h61 h43
      go_wp2
      go_ret2
      exact ⟨by rw[HF.out];rfl,hb⟩
     ·have e4:((s[k].toNat:Int)==43)=false:=byte_not (d:=43) h43
      have hvb:=val5_plain s k hlt h92 (by simp[h61,h43])
      have HF:Hid (Idn.val5 (L s)=(Idn.val5 ((L s).drop (k+1))).map ((acc++[s[k]]) ++ ·)):=by show _=_;rw[hinv.out,hvb,map_app]
      clear hvb hinv h92 h61 h43
      go_wp2_with (at_builtin;refine wpList_push wr rfl _ _ 179 rfl w.heap.size 5 (.int .u8 0) 1 1 Tryz.underlying179 info_u8 rfl (by decide) _ acc.length _ hown rfl [bc s[k]] rfl rfl (by intro u hu;simp at hu;subst hu;rfl) (by omega) hb.size ?_ rfl)
      intro v' w1' hown' _ _ hb' _
      clear hown
      go_wp2
      go_roundw
      case rel=>exact ⟨k+1,acc++[s[k]],by omega,by go_num,by simpa using hown',hb.trans hb',by simp;omega,HF⟩
      case measure=>simp[intOf];omega
  ·have HF:Hid (r=(acc,true)):=by show _=_;rw[←HR.out];exact valR5_some (by rw[hinv.out,drop_end s k hlt];simp[Idn.val5])
   clear hinv
   go_wp2_with (with_reducible refine wpList_str _ rfl _ 179 9 5 rfl Tryz.underlying179 Tryz.underlying9 Tryz.underlying5 w.heap.size _ acc hown rfl ?_)
   go_wp2
   go_ret2
   exact ⟨by rw[HF.out];rfl,hb⟩
end Go.Proofs.YtbkkchhimhlhcaaGreatDoor
/- identityref05: component. -/
namespace Go.Proofs.YtbkkchhimhlhcaaGreatDoor
open Go.RowKit Go.Sort
open Idn (L B Bs drop_L take_L size_L)
theorem r5_component_any (s : ByteArray) (w : World) (hs : s.size ≤ 1000000000) :
    Calls Tryz.prog 261 #[.string s] w fun e w'=>e=.returned (.tuple #[prV (Idn.component5 (L s)).1,.int .i64 (Idn.component5 (L s)).2])∧Below w.heap.size w w':=by
 generalize hr:Idn.component5 (L s)=r
 have HR:=Lib.hid hr
 clear hr
 have hI:=fun W=>r5_next_any s 61 W (by omega)
 cases hx:Idn.idx 61 (L s)with
 |none=>
  rw[nextN_none hx,←size_L]at hI
  have HF:Hid (r=(([],[]),4)):=by show _=_;rw[←HR.out,Idn.component5,hx]
  clear hx
  go_enter Tryz.func261,Tryz.ntmps261
  go_wp2_with fail
  with_reducible refine gen1 (R:=fun W=>Calls Tryz.prog 260 _ W _) ?_
  intro W hbW hszW hc1 hf1
  have r0:=hc1 0 _ rfl
  have r1:=hc1 1 _ rfl
  have f0:=hf1 0
  have f1:=hf1 1
  clear hc1 hf1
  refine (hI W).mono ?_
  rintro e w1 ⟨rfl,rfl⟩
  clear hI
  go_wp2
  exact bodyPost_ret (v:=.tuple #[.agg #[.string ⟨#[]⟩,.string ⟨#[]⟩],.int .i64 4]) (by simp[results,Tryz.results261,go_sem,r0,r1,f0,f1]) rfl ⟨by rw[HF.out];rfl,(hbW.setCell (by simp) _).setCell (by simp) _⟩
 |some i=>
  rw[nextN_some hx]at hI
  have hi:=Idn.idx_lt _ _ _ hx
  rw[←size_L]at hi
  have hiI:¬((s.size:Int)≤(i:Int)):=by omega
  have HF:Hid (r=if (valR5 (Idn.trim ((L s).drop (i+1)))).2=false then (([],[]),4)else if Idn.name (Idn.trim ((L s).take i))=false then (([],[]),5)else if Idn.clean (valR5 (Idn.trim ((L s).drop (i+1)))).1=false then (([],[]),8)else ((Idn.trim ((L s).take i),(valR5 (Idn.trim ((L s).drop (i+1)))).1),0)):=by
   show _=_
   rw[←HR.out,Idn.component5,hx]
   dsimp only
   unfold valR5
   cases Idn.val5 (Idn.trim ((L s).drop (i+1)))with
   |none=>rfl
   |some v=>simp
  clear hx HR
  have hT1:=fun W=>r_trim_any (s.extract (i+1) s.size) W (by simp;omega)
  rw[extract_drop,Idn.L_B]at hT1
  have hl1:=Idn.length_trim ((L s).drop (i+1))
  have hl2:=Idn.length_trim ((L s).take i)
  rw[List.length_drop]at hl1
  rw[List.length_take]at hl2
  rw[size_L]at hs
  have hV:=fun W=>r5_value_any (B (Idn.trim ((L s).drop (i+1)))) W (by rw[Idn.size_B];omega)
  rw[Idn.L_B]at hV
  have hT2:=fun W=>r_trim_any (s.extract 0 i) W (by simp;rw[size_L];omega)
  rw[extract_take,Idn.L_B]at hT2
  have hvl:(valR5 (Idn.trim ((L s).drop (i+1)))).1.length≤1000000000:=by
   unfold valR5
   split
   ·simp
   ·rename_i v hv
    have:=val5_len _ _ hv
    dsimp only;omega
  rw[←size_L]at hs
  have hN:=fun W=>r_name_any (B (Idn.trim ((L s).take i))) W (by rw[Idn.size_B];omega)
  rw[Idn.L_B]at hN
  generalize valR5 (Idn.trim ((L s).drop (i+1)))=vr at *
  obtain ⟨v,ok⟩:=vr
  dsimp only at hV HF hvl
  have hCl:=fun W=>r_clean_any (B v) W (by rw[Idn.size_B];omega)
  rw[Idn.L_B]at hCl
  generalize Idn.trim ((L s).take i)=ky at *
  generalize Idn.trim ((L s).drop (i+1))=tv at *
  generalize Idn.name ky=nb at *
  generalize Idn.clean v=cb at *
  clear hl1 hl2 hvl
  go_enter Tryz.func261,Tryz.ntmps261
  go_wp2_with fail
  with_reducible refine gen1 (R:=fun W=>Calls Tryz.prog 260 _ W _) ?_
  intro W hbW hszW hc1 hf1
  have r0:=hc1 0 _ rfl
  have r1:=hc1 1 _ rfl
  have f0:=hf1 0
  have f1:=hf1 1
  have hlt:w.heap.size<W.heap.size:=by omega
  clear hc1 hf1
  refine (hI W).mono ?_
  rintro e w1 ⟨rfl,rfl⟩
  clear hI
  go_wp2_with fail
  rw[extract_drop]
  refine (hT1 _).mono ?_
  rintro e w1 ⟨rfl,rfl⟩
  clear hT1
  go_wp2_with fail
  refine (hV _).mono ?_
  rintro e w2 ⟨rfl,hb2⟩
  clear hV
  have hbw2:=hbW.trans (hb2.mono hbW.size)
  replace r0:=cell_later hb2 r0
  replace r1:=cell_later hb2 r1
  replace f0:=frozen_later hb2 f0 hlt
  replace f1:=frozen_later hb2 f1 hlt
  have hlt2:w.heap.size<w2.heap.size:=Nat.lt_of_lt_of_le hlt hb2.size
  cases ok
  ·have HG:Hid (r=(([],[]),4)):=by show _=_;rw[HF.out,if_pos rfl]
   clear HF
   go_wp2
   exact bodyPost_ret (v:=.tuple #[.agg #[.string ⟨#[]⟩,.string ⟨#[]⟩],.int .i64 4]) (by simp[results,Tryz.results261,go_sem,r0,r1,f0,f1]) rfl ⟨by rw[HG.out];rfl,(hbw2.setCell (by simp) _).setCell (by simp) _⟩
  ·go_wp2_with fail
   rw[extract_take]
   refine (hT2 _).mono ?_
   rintro e w3 ⟨rfl,rfl⟩
   clear hT2
   go_upto_region 8 with fail
   with_reducible refine gen1 (R:=fun W=>Code.wp Tryz.prog _ _ _ W) ?_
   intro W4 hbW4 hszW4 hc4 _
   have p0:=hc4 0 _ rfl
   have p1:=hc4 1 _ rfl
   clear hc4
   have hbw4:=hbw2.trans (hbW4.mono hbw2.size)
   replace r0:=cell_later hbW4 r0
   replace r1:=cell_later hbW4 r1
   replace f0:=frozen_later hbW4 f0 hlt2
   replace f1:=frozen_later hbW4 f1 hlt2
   have hlt4:w.heap.size<W4.heap.size:=by omega
   go_wp2_with fail
   refine (hN W4).mono ?_
   rintro e w5 ⟨rfl,rfl⟩
   clear hN
   cases nb
   ·have HG:Hid (r=(([],[]),5)):=by show _=_;rw[HF.out,if_neg (by simp),if_pos rfl]
    clear HF
    go_wp2
    exact bodyPost_ret (v:=.tuple #[.agg #[.string ⟨#[]⟩,.string ⟨#[]⟩],.int .i64 5]) (by simp[results,Tryz.results261,go_sem,r0,r1,f0,f1]) rfl ⟨by rw[HG.out];rfl,(hbw4.setCell (by simp) _).setCell (by simp) _⟩
   ·go_wp2_with fail
    refine (hCl _).mono ?_
    rintro e w6 ⟨rfl,rfl⟩
    clear hCl
    cases cb
    ·have HG:Hid (r=(([],[]),8)):=by show _=_;rw[HF.out,if_neg (by simp),if_neg (by simp),if_pos rfl]
     clear HF
     go_wp2
     exact bodyPost_ret (v:=.tuple #[.agg #[.string ⟨#[]⟩,.string ⟨#[]⟩],.int .i64 8]) (by simp[results,Tryz.results261,go_sem,r0,r1,f0,f1]) rfl ⟨by rw[HG.out];rfl,(hbw4.setCell (by simp) _).setCell (by simp) _⟩
    ·have HG:Hid (r=((ky,v),0)):=by show _=_;rw[HF.out,if_neg (by simp),if_neg (by simp),if_neg (by simp)]
     clear HF
     go_wp2
     exact bodyPost_ret (v:=.tuple #[.agg #[.string (B ky),.string (B v)],.int .i64 0]) (by simp[results,Tryz.results261,go_sem,r0,r1,f0,f1]) rfl ⟨by rw[HG.out];rfl,(hbw4.setCell (by simp) _).setCell (by simp) _⟩
end Go.Proofs.YtbkkchhimhlhcaaGreatDoor
/- identityref05: Parse. -/
namespace Go.Proofs.YtbkkchhimhlhcaaGreatDoor
open Go.RowKit Go.Sort
open Idn (L B Bs drop_L take_L size_L)
theorem pcs_next (l:Bs):Idn.pcs l=l.take (nextN 44 l) :: (if nextN 44 l<l.length then Idn.pcs (l.drop (nextN 44 l+1))else []):=by
 rw[Idn.pcs_idx]
 cases h:Idn.idx 44 l with
 |none=>rw[nextN_none h,if_neg (by omega),List.take_of_length_le (Nat.le_refl _)]
 |some i=>rw[nextN_some h,if_pos (Idn.idx_lt _ _ _ h)]
theorem next_free (l:Bs):Idn.idx 44 (l.take (nextN 44 l))=none:=by
 cases h:Idn.idx 44 l with
 |none=>rw[nextN_none h,List.take_of_length_le (Nat.le_refl _)];exact h
 |some i=>rw[nextN_some h];exact Idn.idx_before 44 l i h
theorem comps_done (q:List Idn.Pr):compsK q (Idn.comps [])=(q,0):=by simp[compsK,Idn.comps]
def vSize:Value→Nat
 |.string s=>s.size
 |_=>0
def vOn:Value→Nat
 |.bool true=>1
 |_=>0
theorem r5_parse_any (s : ByteArray) (w : World) (hs : s.size ≤ 1000000000) :
  Calls Tryz.prog 199 #[.string s] w (RetP w (Idn.parse (L s))):=by
 generalize hr:Idn.parse (L s)=r
 have HR:=Lib.hid hr
 clear hr
 have hway:∃m:Bool,(s.toList==([]:List UInt8))=!m∧Hid (r=if (if m then Idn.comps (Idn.pcs (L s))else ([],0)).2 !=0 then ([],(if m then Idn.comps (Idn.pcs (L s))else ([],0)).2)else if (if m then Idn.comps (Idn.pcs (L s))else ([],0)).1.length>8 then ([],3)else ((if m then Idn.comps (Idn.pcs (L s))else ([],0)).1,0)):=by
  by_cases h0:L s=[]
  ·refine ⟨false,by rw[toList_L,h0];rfl,?_⟩
   show _=_;rw[←HR.out,Idn.parse,h0];rfl
  ·refine ⟨true,by rw[toList_L,beq_eq_false_iff_ne.2 h0];rfl,?_⟩
   show _=_;rw[←HR.out,Idn.parse,if_neg (by simpa using h0)];simp only[if_true]
 obtain ⟨m0,he,HF⟩:=hway
 generalize hg:(if m0=true then Idn.comps (Idn.pcs (L s))else ([],0))=g at *
 have HG0:Hid (if m0=true then g=Idn.comps (Idn.pcs (L s))else g=([],0)):=by show if m0=true then _ else _;cases m0<;>simp at hg⊢<;> exact hg.symm
 clear hg HR
 go_enter Tryz.func199,Tryz.ntmps199
 go_wp2
 go_loopw [4,5,6] (fun u r m wr=>∃(t:ByteArray) (b:Bool) (ps:List Idn.Pr),r=.string t∧m=.bool b∧wr.ownsRow w.heap.size 156 2 u ps.length (prRow ps)∧Below w.heap.size w wr∧ps.length+t.size≤s.size+(if b then 0 else 1)∧Hid (if b=true then g=compsK ps (Idn.comps (Idn.pcs (L t)))else g=(ps,0))) (fun _ r m _=>vOn m*(vSize r+1))
 case atStart=>
  refine ⟨s,m0,[],rfl,by simp,World.ownsRow_nil _ _ _ _,Below.refl _ _,by simp,?_⟩
  show if m0=true then _ else _
  have:=HG0.out
  cases m0
  ·simpa using this
  ·simp only[if_true]at this⊢;rw[this,comps_zero]
 case round=>
  obtain ⟨t,b,ps,rfl,rfl,hown,hb,hsz,hinv⟩:=hrel
  cases b
  ·have HG : Hid (r = if 8 < ps.length then ([], 3) else (ps, 0)) := by
    show _=_
    have:=hinv.out
    simp only[Bool.false_eq_true,if_false]at this
    rw[HF.out,this];simp
   obtain ⟨A3,c3,hu⟩:=own_shape hown
   subst hu
   clear hinv HF HG0 he
   by_cases h8:8<ps.length
   ·have h8':(8:Int)<(ps.length:Int):=by omega
    have HH:Hid (r=([],3)):=by show _=_;rw[HG.out,if_pos h8]
    clear h8
    go_wp2
    go_ret2
    exact ⟨.slice none 0 0,by rw[HH.out];rfl,by rw[HH.out];exact World.ownsRow_nil _ _ _ _,hb⟩
   ·have h8':¬(8:Int)<(ps.length:Int):=by omega
    have HH:Hid (r=(ps,0)):=by show _=_;rw[HG.out,if_neg h8]
    clear h8
    go_wp2
    go_ret2
    exact ⟨.slice A3 ps.length c3,by rw[HH.out];rfl,by rw[HH.out];exact hown,hb⟩
  ·have hinv2:g=compsK ps (Idn.comps (Idn.pcs (L t))):=by have:=hinv.out;simpa using this
   rw[pcs_next]at hinv2
   have hfree:=next_free (L t)
   have hkl:=nextN_le 44 (L t)
   rw[←size_L]at hkl hinv2
   have hts:t.size≤s.size:=by simp at hsz;omega
   have hpl:ps.length≤1000000000:=by simp at hsz;omega
   have hNx:=r5_next_any t 44 wr (by omega)
   have hC:=fun W=>r5_component_any (t.extract 0 (nextN 44 (L t))) W (by simp;omega)
   rw[extract_take,Idn.L_B,Idn.component5_eq _ hfree]at hC
   have hdrop:L (t.extract (nextN 44 (L t)+1) t.size)=(L t).drop (nextN 44 (L t)+1):=by rw[extract_drop,Idn.L_B]
   rw[←hdrop]at hinv2
   have HX:Hid (t.extract 0 (nextN 44 (L t))=B ((L t).take (nextN 44 (L t)))):=by show _=_;exact extract_take _ _
   clear hinv hfree hdrop
   generalize nextN 44 (L t)=k at *
   generalize (L t).take k=x at *
   have hkI:(k:Int)≤(t.size:Int):=by omega
   by_cases h0:(Idn.component x).2=0
   ·have HG : Hid (g = compsK (ps ++ [(Idn.component x).1]) (Idn.comps (if k < t.size then Idn.pcs (L (t.extract (k + 1) t.size)) else []))) := by
     show _=_;rw[hinv2,comps_cons _ _ h0,compsK_app]
    rw[h0]at hC
    generalize (Idn.component x).1=pr at *
    clear h0 hinv2 he HF HG0
    unfold prV at hC
    go_wp2_with fail
    refine hNx.mono ?_
    rintro e w1 ⟨rfl,rfl⟩
    go_wp2_with fail
    rw[HX.out]
    refine (hC _).mono ?_
    rintro e w2 ⟨rfl,hb2⟩
    have hown2:=own_below hown hb2
    have hbw2:=hb.trans (hb2.mono hb.size)
    have ba:=(Below.refl w2.heap.size w2).alloc (Nat.le_refl _) (.cells #[.string (B pr.1),.string (B pr.2)] 156)
    have hown3:=own_below hown2 ba
    have hbw3:=hbw2.trans (ba.mono hbw2.size)
    have hs3:=hbw3.size
    have hsza:(w2.alloc (.cells #[.string (B pr.1),.string (B pr.2)] 156)).heap.size=w2.heap.size+1:=by simp
    have Hsza:=Lib.hid hsza
    clear hC hown hown2 ba hsza hNx
    go_wp2_with (at_builtin;refine wpList_push (w2.alloc (.cells #[.string (B pr.1),.string (B pr.2)] 156)) rfl _ _ 152 rfl w.heap.size 156 (.agg #[.string ⟨#[]⟩,.string ⟨#[]⟩]) 2 32 Tryz.underlying152 info_pair rfl (by decide) _ _ _ hown3 rfl [.string (B pr.1),.string (B pr.2)] (by rw[Hsza.out];rfl) rfl (by intro u hu;simp at hu;rcases hu with rfl|rfl<;>rfl) (by omega) hs3 ?_ rfl)
    intro v' w4 hown' _ _ hb' _
    clear hown3
    have e:prRow (ps++[pr])=prRow ps++[.string (B pr.1),.string (B pr.2)]:=by unfold prRow;rw[List.flatMap_append];rfl
    have hown5:w4.ownsRow w.heap.size 156 2 v' (ps++[pr]).length (prRow (ps++[pr])):=by
     rw[e,List.length_append]
     exact hown'
    clear e hown'
    have hbw4:=hbw3.trans hb'
    by_cases hlt:k<t.size
    ·have hltI:(k:Int)<(t.size:Int):=by omega
     have hI2:Hid (if true=true then g=compsK (ps++[pr]) (Idn.comps (Idn.pcs (L (t.extract (k+1) t.size))))else g=(ps++[pr],0)):=by
      show if true=true then _ else _
      have:=HG.out
      rw[if_pos hlt]at this
      rw[if_pos rfl];exact this
     clear HG
     go_wp2
     go_roundw
     case rel=>exact ⟨t.extract (k+1) t.size,true,ps++[pr],rfl,rfl,hown5,hbw4,by simp at hsz⊢;omega,hI2⟩
     case measure=>simp[vOn,vSize];omega
    ·have hltI:¬(k:Int)<(t.size:Int):=by omega
     have hI2:Hid (if false=true then g=compsK (ps++[pr]) (Idn.comps (Idn.pcs (L t)))else g=(ps++[pr],0)):=by
      show if false=true then _ else _
      have:=HG.out
      rw[if_neg hlt,comps_done]at this
      rw[if_neg (by decide)];exact this
     clear HG
     go_wp2
     go_roundw
     case rel=>exact ⟨t,false,ps++[pr],rfl,rfl,hown5,hbw4,by simp at hsz⊢;omega,hI2⟩
     case measure=>simp[vOn,vSize]
   ·have HG : Hid (r = ([], (Idn.component x).2)) := by
     show _=_
     rw[HF.out,hinv2,comps_err _ _ _ h0];simp[h0]
    generalize Idn.component x=cr at *
    have h1:(cr.2 !=0)=true:=by simpa using h0
    have h2:(cr.2==0)=false:=by simpa using h0
    clear hinv2 h0 he HF HG0
    unfold prV at hC
    go_wp2_with fail
    refine hNx.mono ?_
    rintro e w1 ⟨rfl,rfl⟩
    go_wp2_with fail
    rw[HX.out]
    refine (hC _).mono ?_
    rintro e w2 ⟨rfl,hb2⟩
    have hbw2:=hb.trans (hb2.mono hb.size)
    clear hC hown hNx
    go_wp2
    go_ret2
    exact ⟨.slice none 0 0,by rw[HG.out];rfl,by rw[HG.out];exact World.ownsRow_nil _ _ _ _,hbw2.alloc hbw2.size _⟩
end Go.Proofs.YtbkkchhimhlhcaaGreatDoor
/- identityref05: Format of components that are whole. -/
namespace Go.Proofs.YtbkkchhimhlhcaaGreatDoor
open Go.RowKit Go.Sort
open Idn (L B Bs drop_L take_L size_L)
section
variable {P:Program} {w:World} {ops:Array Oper} {rest:List Oper} {o:Oper} {a:Act} {Q:Exit→Act→World→Prop}
theorem wpList_text (hgd : o.guard = none) (s x : Operand) (t u : TypeId) (ho : o.op = .call { callee := .builtin .append, args := #[s, x], argTypes := #[t, u] })
  (base:Nat) (e:TypeId) (ht:P.underlying t=some (.slice e)) (hu:P.underlying u=some .string) (hinf:(P.info? e).map (fun i=>(i.zero,i.size,i.bytes))=some (some (.int .u8 0),1,1))
  (v:Value) (acc:Bs) (hown:w.ownsRow base e 1 v acc.length (acc.map bc)) (hs:a.eval s=v) (z:Bs) (hx:a.eval x=.string (B z)) (hn:acc.length+z.length≤1000000000000) (hbase:base≤w.heap.size)
  (hK:∀v' w',w'.ownsRow base e 1 v' (acc++z).length ((acc++z).map bc)→Below base w w'→wpList P ops Q rest (a.put o.dst v') w'):wpList P ops Q (o :: rest) a w:=by
 obtain ⟨i,hi,hz0,hz1,hz2⟩:=info_parts hinf
 refine Lib.wpList_append_own_string w hgd s x t u ho base e i ht hu hi hz0 hz1 hz2 v acc.length _ hs hown (B z) hx (by rw[Idn.size_B];unfold maxLen;omega) (by rw[Idn.size_B];omega) hbase ?_
 intro v' w' h1 h2 _
 refine hK v' w' ?_ ((Below.refl base w).grown h2 hbase (fun k hk=>(hown.lt k hk).1))
 rw[List.length_append,List.map_append]
 rw[Idn.size_B]at h1
 have e:Lib.strCells (B z)=z.map bc:=by
  have:=strCells_B z
  rw[this];rfl
 rwa[e]at h1
end
theorem check1_parts:∀l:List Idn.Pr,Idn.check1 l=0→∀p∈l,Idn.name p.1=true∧Idn.clean p.2=true
 |[],_,p,hp=>by cases hp
 |q :: l,h,p,hp=>by
  unfold Idn.check1 at h
  by_cases h1:Idn.name q.1=true
  ·rw[h1]at h
   by_cases h2:Idn.clean q.2=true
   ·rw[h2]at h
    rcases List.mem_cons.1 hp with rfl|hp
    ·exact ⟨h1,h2⟩
    ·exact check1_parts l (by simpa using h) p hp
   ·simp[h2]at h
  ·simp[h1]at h
theorem check_parts {l:List Idn.Pr} (h:Idn.check l=0):∀p∈l,Idn.name p.1=true∧Idn.clean p.2=true:=by
 refine check1_parts l ?_
 unfold Idn.check at h
 by_cases h1:Idn.check1 l=0
 ·exact h1
 ·simp[h1]at h
theorem r5_format_any (v : Value) (l : List Idn.Pr) (w : World) (hv : PairsV w w.heap.size v l) (h0 : Idn.check l = 0) :
  Calls Tryz.prog 165 #[v] w fun e w'=>e=.returned (.tuple #[.string (B (Idn.fmtJ l)),.int .i64 0])∧Below w.heap.size w w':=by
 obtain ⟨A,c,rfl,hc⟩:=SlV.shape hv
 obtain ⟨hl8,hsm⟩:=check_zero h0
 have hpt:=check_parts h0
 have hkl:=fmtK_len hsm
 generalize hr:Idn.fmtJ l=r
 have HF:Hid (r=fmtK l l.length):=by show _=_;rw[←hr,fmtK,List.take_length]
 clear hr h0
 go_enter Tryz.func165,Tryz.ntmps165
 go_wp2
 go_loopw [4,5] (fun u i wr=>∃k:Nat,k≤l.length∧i=.int .i64 k∧wr.ownsRow w.heap.size 5 1 u (fmtK l k).length ((fmtK l k).map bc)∧Below w.heap.size w wr) (fun _ i _=>l.length-(intOf i).toNat)
 case atStart=>exact ⟨0,Nat.zero_le _,rfl,World.ownsRow_nil _ _ _ _,Below.refl _ _⟩
 case round=>
  obtain ⟨k,hk,rfl,hown,hb⟩:=hrel
  by_cases hlt:k<l.length
  ·obtain ⟨b,off,rfl,hbl,c0,c1⟩:=PairsV.cell hv hlt
   have hltI:(k:Int)<(l.length:Int):=by omega
   have hk6:=hkl k hk
   have hpm:=hsm l[k] (List.getElem_mem hlt)
   obtain ⟨hpn,hpc⟩:=hpt l[k] (List.getElem_mem hlt)
   have hN:=fun W=>r_name_any (B l[k].1) W (by rw[Idn.size_B];omega)
   have hCl:=fun W=>r_clean_any (B l[k].2) W (by rw[Idn.size_B];omega)
   have hLo:=fun W=>r_lower_any (B l[k].1) W (by rw[Idn.size_B];omega)
   have hFo:=fun W=>r_fold_any (B l[k].2) W (by rw[Idn.size_B];omega)
   rw[Idn.L_B]at hN hCl hLo hFo
   rw[hpn]at hN
   rw[hpc]at hCl
   have hsuc:=fmtK_succ l k hlt
   have hfl:=Idn.length_fold l[k].2
   have hll:=Idn.length_lower l[k].1
   have hft:Idn.fmt1 l[k]=Idn.lower l[k].1++61 :: Idn.escV (Idn.fold l[k].2):=rfl
   rw[hft]at hsuc
   have HS:=Lib.hid hsuc
   have d0:=cell_later hb c0
   have d1:=cell_later hb c1
   generalize l[k].1=x0 at *
   generalize l[k].2=x1 at *
   generalize Idn.lower x0=lo at *
   generalize Idn.fold x1=fo at *
   generalize hm:fmtK l k=m at *
   have HM:=Lib.hid hm
   obtain ⟨m2,hm2⟩:∃m2:Bs,m2=(if k=0 then m else m++[44]):=⟨_,rfl⟩
   have HM2:=Lib.hid hm2
   have hm2l:m2.length≤k*601+1:=by
    rw[hm2]
    split
    ·omega
    ·rw[List.length_append];simp;omega
   have HL2:Hid (fmtK l (k+1)=(m2++lo)++61 :: Idn.escV fo):=by
    show _=_
    rw[HS.out,HM2.out]
    split<;>simp
   have hk8:k*601≤8*601:=Nat.mul_le_mul_right _ (by omega)
   clear hsuc hm2 hm hft HF hpn hpc HS hpt hsm hkl
   obtain ⟨t,rfl⟩:∃t,fo=L t:=⟨B fo,rfl⟩
   rw[Idn.B_L]at hFo
   have hml:m.length≤8*601:=by omega
   have hm2l8:m2.length≤8*601+1:=by omega
   have hts:t.size≤256:=by rw[size_L];omega
   have hlo:lo.length≤64:=by omega
   clear hk6 hm2l hfl hll hpm hk8
   go_upto_if 29 with (first|(go_at_call 84;refine (hN _).mono ?_;rintro e w1 ⟨rfl,rfl⟩)|(go_at_call 200;refine (hCl _).mono ?_;rintro e w1 ⟨rfl,rfl⟩))
   go_cut [4] (fun u wx=>wx.ownsRow w.heap.size 5 1 u m2.length (m2.map bc)∧Below w.heap.size w wx)
   case first=>
    by_cases hk0:k=0
    ·have hkI:¬((0:Int)<(k:Int)):=by omega
     have HE:Hid (m2=m):=by show _=_;rw[HM2.out,if_pos hk0]
     clear hk0
     go_wp2
     go_meet
     exact ⟨by rw[HE.out];exact hown,hb⟩
    ·have hkI:(0:Int)<(k:Int):=by omega
     have HE:Hid (m2=m++[44]):=by show _=_;rw[HM2.out,if_neg hk0]
     clear hk0
     go_wp2_with (at_builtin;refine wpList_push wr rfl _ _ 179 rfl w.heap.size 5 (.int .u8 0) 1 1 Tryz.underlying179 info_u8 rfl (by decide) _ m.length _ hown rfl [bc 44] rfl rfl (by intro u hu;simp at hu;subst hu;rfl) (by omega) hb.size ?_ rfl)
     intro v' w1' hown' _ _ hb' _
     go_wp2
     go_meet
     exact ⟨by rw[HE.out];simpa using hown',hb.trans hb'⟩
   case rest=>
    obtain ⟨hownc,hbc⟩:=hcut
    have e0:=cell_later hbc c0
    have e1:=cell_later hbc c1
    clear hown d0 d1
    go_wp2_with fail
    refine (hLo _).mono ?_
    rintro e w2 ⟨rfl,hb2⟩
    have hown2:=own_below hownc hb2
    have hbw2:=hbc.trans (hb2.mono hbc.size)
    clear hownc e0 e1 hLo
    go_wp2_with (at_builtin;refine wpList_text rfl _ _ 179 9 rfl w.heap.size 5 Tryz.underlying179 Tryz.underlying9 info_u8 _ m2 hown2 rfl lo rfl (by omega) hbw2.size ?_)
    intro v3 w3 hown3' hb3
    have hown3:w3.ownsRow w.heap.size 5 1 v3 (m2++lo).length ((m2++lo).map bc):=by simpa using hown3'
    clear hown3'
    have hbw3:=hbw2.trans hb3
    have hl3:(m2++lo).length≤10000:=by rw[List.length_append];omega
    generalize m2++lo=m3 at *
    clear hown2
    go_wp2_with (at_builtin;refine wpList_push w3 rfl _ _ 179 rfl w.heap.size 5 (.int .u8 0) 1 1 Tryz.underlying179 info_u8 rfl (by decide) _ m3.length _ hown3 rfl [bc 61] rfl rfl (by intro u hu;simp at hu;subst hu;rfl) (by omega) hbw3.size ?_ rfl)
    intro v4 w4 hown4 _ _ hb4 _
    have hbw4:=hbw3.trans hb4
    have g1:=cell_later hbw4 c1
    clear hown3
    go_wp2_with fail
    refine (hFo _).mono ?_
    rintro e w5 ⟨rfl,hb5⟩
    have hbw5:=hbw4.trans (hb5.mono hbw4.size)
    have hown5:=own_below hown4 hb5
    clear hown4 hFo g1
    go_wp2
    go_loopw [4,7] (fun u y wx=>∃j:Nat,j≤t.size∧y=.int .i64 j∧wx.ownsRow w.heap.size 5 1 u ((m3++[61])++Idn.escV ((L t).take j)).length (((m3++[61])++Idn.escV ((L t).take j)).map bc)∧Below w.heap.size w wx) (fun _ y _=>t.size-(intOf y).toNat)
    case atStart=>exact ⟨0,Nat.zero_le _,rfl,by simpa[Idn.escV]using hown5,hbw5⟩
    case round=>
     obtain ⟨j,hj,rfl,hownj,hbj⟩:=hrel
     clear hown5
     have hel:=escV_len ((L t).take j)
     have htj:((L t).take j).length≤j:=List.length_take_le _ _
     have hl9:((m3++[61])++Idn.escV ((L t).take j)).length≤20000:=by
      simp only[List.length_append,List.length_cons,List.length_nil];omega
     by_cases hjl:j<t.size
     ·have hSp:=fun W=>r5_special_any t[j] W
      have HS2:Hid ((m3++[61])++Idn.escV ((L t).take (j+1))=((m3++[61])++Idn.escV ((L t).take j))++(if Idn.special t[j]then [92,t[j]]else [t[j]])):=by
       show _=_;rw[take_L t j hjl,escV_snoc];simp only[List.append_assoc]
      generalize (m3++[61])++Idn.escV ((L t).take j)=acc at *
      have hjI:(j:Int)<(t.size:Int):=by omega
      cases hsp:Idn.special t[j]
      ·have HS3:Hid ((m3++[61])++Idn.escV ((L t).take (j+1))=acc++[t[j]]):=by show _=_;rw[HS2.out,hsp];rfl
       simp only[hsp]at hSp
       clear hsp HS2
       go_wp2_with (first|(go_at_call 223;refine (hSp _).mono ?_;rintro e w6 ⟨rfl,rfl⟩)|(at_builtin;refine wpList_push _ rfl _ _ 179 rfl w.heap.size 5 (.int .u8 0) 1 1 Tryz.underlying179 info_u8 rfl (by decide) _ acc.length _ hownj rfl [bc t[j]] rfl rfl (by intro u hu;simp at hu;subst hu;rfl) (by omega) hbj.size ?_ rfl))
       intro v7 w7 hown7 _ _ hb7 _
       clear hownj
       go_wp2
       go_roundw
       case rel=>exact ⟨j+1,by omega,by go_num,by rw[HS3.out];simpa using hown7,hbj.trans hb7⟩
       case measure=>simp[intOf];omega
      ·have HS3:Hid ((m3++[61])++Idn.escV ((L t).take (j+1))=(acc++[92])++[t[j]]):=by show _=_;rw[HS2.out,hsp];simp
       simp only[hsp]at hSp
       clear hsp HS2
       go_wp2_with (first|(go_at_call 223;refine (hSp _).mono ?_;rintro e w6 ⟨rfl,rfl⟩)|(at_builtin;refine wpList_push _ rfl _ _ 179 rfl w.heap.size 5 (.int .u8 0) 1 1 Tryz.underlying179 info_u8 rfl (by decide) _ acc.length _ hownj rfl [bc 92] rfl rfl (by intro u hu;simp at hu;subst hu;rfl) (by omega) hbj.size ?_ rfl))
       intro v7 w7 hown7 _ _ hb7 _
       have hb17:=hbj.trans hb7
       have hown8:w7.ownsRow w.heap.size 5 1 v7 (acc++[92]).length ((acc++[92]).map bc):=by simpa using hown7
       have hl10:(acc++[92]).length≤20001:=by rw[List.length_append];simp;omega
       generalize acc++[92]=acc2 at *
       clear hownj hown7
       go_wp2_with (at_builtin;refine wpList_push w7 rfl _ _ 179 rfl w.heap.size 5 (.int .u8 0) 1 1 Tryz.underlying179 info_u8 rfl (by decide) _ acc2.length _ hown8 rfl [bc t[j]] rfl rfl (by intro u hu;simp at hu;subst hu;rfl) (by omega) hb17.size ?_ rfl)
       intro v9 w9 hown9 _ _ hb9 _
       clear hown8
       go_wp2
       go_roundw
       case rel=>exact ⟨j+1,by omega,by go_num,by rw[HS3.out];simpa using hown9,hb17.trans hb9⟩
       case measure=>simp[intOf];omega
     ·have hjl':j=t.size:=by omega
      have hjI:¬(j:Int)<(t.size:Int):=by omega
      subst hjl'
      rw[List.take_of_length_le (by rw[←size_L];exact Nat.le_refl _)]at hownj
      go_wp2
      go_roundw
      case rel=>
       refine ⟨k+1,by omega,by go_num,?_,hbj⟩
       rw[HL2.out]
       simpa using hownj
      case measure=>simp[intOf];omega
  ·have hkl':k=l.length:=by omega
   have hltI:¬(k:Int)<(l.length:Int):=by omega
   have h8:¬(8:Int)<(l.length:Int):=by omega
   subst hkl'
   go_wp2_with (with_reducible refine wpList_str _ rfl _ 179 9 5 rfl Tryz.underlying179 Tryz.underlying9 Tryz.underlying5 w.heap.size _ (fmtK l l.length) hown rfl ?_)
   go_wp2
   go_ret2
   exact ⟨by rw[HF.out];rfl,hb⟩
end Go.Proofs.YtbkkchhimhlhcaaGreatDoor
/- identityref05: Clean, Valid, parts, bytes. -/
namespace Go.Proofs.YtbkkchhimhlhcaaGreatDoor
open Go.RowKit Go.Sort
open Idn (L B Bs drop_L take_L size_L)
theorem component_whole (x:Bs) (h:(Idn.component x).2=0):Idn.name (Idn.component x).1.1=true∧Idn.clean (Idn.component x).1.2=true:=by
 revert h
 unfold Idn.component
 split
 ·intro h;simp at h
 ·split
  ·intro h;simp at h
  ·split
   ·intro h;simp at h
   ·split
    ·intro h;simp at h
    ·rename_i h1 h2
     intro _
     exact ⟨by simpa using h1,by simpa using h2⟩
theorem check1_of:∀l:List Idn.Pr,(∀p∈l,Idn.name p.1=true∧Idn.clean p.2=true)→Idn.check1 l=0
 |[],_=>rfl
 |p :: l,h=>by
  obtain ⟨h1,h2⟩:=h p List.mem_cons_self
  unfold Idn.check1
  rw[h1,h2]
  exact check1_of l fun q hq=>h q (List.mem_cons_of_mem _ hq)
theorem comps_whole:∀l:List Bs,(Idn.comps l).2=0→∀p∈(Idn.comps l).1,Idn.name p.1=true∧Idn.clean p.2=true
 |[],_,p,hp=>by simp[Idn.comps]at hp
 |x :: l,h,p,hp=>by
  by_cases h0:(Idn.component x).2=0
  ·rw[comps_cons x l h0]at h hp
   unfold compsK at h hp
   by_cases h1:(Idn.comps l).2=0
   ·rw[if_neg (by simp[h1])]at hp
    rcases List.mem_append.1 hp with hp|hp
    ·rw[List.mem_singleton]at hp
     subst hp
     exact component_whole x h0
    ·exact comps_whole l h1 p hp
   ·simp[h1]at h
  ·rw[Idn.comps,if_pos (by simpa using h0)]at hp
   simp at hp
theorem parse_whole (s:Bs) (h:(Idn.parse s).2=0):Idn.check (Idn.parse s).1=0:=by
 have h8:=(parse_sm s).1
 have:Idn.check1 (Idn.parse s).1=0:=by
  refine check1_of _ ?_
  revert h
  unfold Idn.parse
  split
  ·intro _ p hp;simp at hp
  ·split
   ·intro h;rename_i h1;simp only at h;simp[h]at h1
   ·split
    ·intro h;simp at h
    ·rename_i h1 _
     intro _
     exact comps_whole _ (by simpa using h1)
 unfold Idn.check
 rw[this,if_neg (by decide),if_neg (by omega)]
theorem cleanN_ok {s:Bs} (h:(Idn.parse s).2=0):Idn.cleanN s=(Idn.fmtJ (Idn.parse s).1,0):=by
 have hc:=parse_whole s h
 unfold Idn.cleanN Idn.format
 rw[if_neg (by simp[h]),if_neg (by simp[hc])]
theorem r5_Clean_any (s : ByteArray) (w : World) (hs : s.size ≤ 1000000000) :
  Calls Tryz.prog 140 #[.string s] w fun e w'=>e=.returned (.tuple #[.string (B (Idn.cleanN (L s)).1),.int .i64 (Idn.cleanN (L s)).2])∧Below w.heap.size w w':=by
 have hP:=r5_parse_any s w hs
 have hck:=parse_whole (L s)
 have hco:=fun h=>cleanN_ok (s:=L s) h
 generalize hr:Idn.cleanN (L s)=r at *
 have HR:Hid (r=if (Idn.parse (L s)).2 !=0 then ([],(Idn.parse (L s)).2)else Idn.format (Idn.parse (L s)).1):=hr.symm
 generalize Idn.parse (L s)=pp at *
 obtain ⟨l,x⟩:=pp
 dsimp only at HR hck hco
 clear hr
 by_cases h0:x=0
 ·subst h0
  have HF:Hid (r=(Idn.fmtJ l,0)):=hco rfl
  have hF:=fun (v:Value) W (hv:PairsV W W.heap.size v l)=>r5_format_any v l W hv (hck rfl)
  generalize Idn.fmtJ l=fm at *
  clear HR hck hco
  go_enter Tryz.func140,Tryz.ntmps140
  go_wp2_with fail
  refine hP.mono ?_
  rintro e w1 ⟨v1,rfl,hown1,hb1⟩
  obtain ⟨A,c,hv⟩:=own_shape hown1
  subst hv
  have hF1:=hF _ w1 (PairsV.of_own hown1)
  clear hP hF hown1
  dsimp only at *
  go_wp2_with fail
  refine hF1.mono ?_
  rintro e w2 ⟨rfl,hb2⟩
  clear hF1
  go_wp2
  go_ret2
  exact ⟨by rw[HF.out]<;>rfl,hb1.trans (hb2.mono hb1.size)⟩
 ·have HF:Hid (r=([],x)):=by show _=_;rw[HR.out,if_pos (by simpa using h0)]
  have h1:(x !=0)=true:=by simpa using h0
  have h2:(x==0)=false:=by simpa using h0
  clear HR h0 hck hco
  go_enter Tryz.func140,Tryz.ntmps140
  go_wp2_with fail
  refine hP.mono ?_
  rintro e w1 ⟨v1,rfl,hown1,hb1⟩
  obtain ⟨A,c,hv⟩:=own_shape hown1
  subst hv
  clear hP hown1
  go_wp2
  go_ret2
  exact ⟨by rw[HF.out]<;>rfl,hb1⟩
def validN (s:Bs):Bool:=(Idn.cleanN s).2==0&&(Idn.cleanN s).1==s
theorem normal_valid (s:Bs):(Idn.normal s).2=validN s:=by
 unfold Idn.normal validN
 by_cases h:(Idn.parse s).2=0
 ·rw[if_neg (by simp[h])]
  unfold Idn.cleanN
  rw[if_neg (by simp[h])]
 ·rw[if_pos (by simpa using h)]
  unfold Idn.cleanN
  rw[if_pos (by simpa using h)]
  have:((Idn.parse s).2==0)=false:=by simpa using h
  dsimp only
  rw[this];rfl
theorem r5_Valid_any (s : ByteArray) (w : World) (hs : s.size ≤ 1000000000) :
  Calls Tryz.prog 64 #[.string s] w fun e w'=>e=.returned (.bool (validN (L s)))∧Below w.heap.size w w':=by
 have hC:=r5_Clean_any s w hs
 generalize hr:validN (L s)=r
 have HR:Hid (r=((Idn.cleanN (L s)).2==0&&(Idn.cleanN (L s)).1==L s)):=hr.symm
 generalize Idn.cleanN (L s)=c at *
 obtain ⟨t,x⟩:=c
 dsimp only at HR hC
 have hbe:((B t).toList==s.toList)=(t==L s):=by rw[str_beq,Idn.L_B,list_beq]
 generalize (t==L s)=q at *
 clear hr
 by_cases h0:x=0
 ·subst h0
  have HF:Hid (r=q):=by show _=_;rw[HR.out];rfl
  clear HR
  cases q
  all_goals
   go_enter Tryz.func64,Tryz.ntmps64
   go_wp2_with fail
   refine hC.mono ?_
   rintro e w1 ⟨rfl,hb1⟩
   go_wp2
   go_ret
   exact ⟨ret_bool HF.out.symm,hb1⟩
 ·have e0:(x==0)=false:=by simpa using h0
  have HF:Hid (r=false):=by show _=_;rw[HR.out,e0];rfl
  clear HR h0
  go_enter Tryz.func64,Tryz.ntmps64
  go_wp2_with fail
  refine hC.mono ?_
  rintro e w1 ⟨rfl,hb1⟩
  go_wp2
  go_ret
  exact ⟨ret_bool HF.out.symm,hb1⟩
def partsN (s:Bs):List Idn.Pr×Bool:=if validN s=true then ((Idn.parse s).1,true)else ([],false)
theorem r5_parts_any (s : ByteArray) (w : World) (hs : s.size ≤ 1000000000) :
  Calls Tryz.prog 143 #[.string s] w (RetPB w (partsN (L s))):=by
 have hV:=r5_Valid_any s w hs
 have hP:=fun W=>r5_parse_any s W hs
 generalize hr:partsN (L s)=r
 have HR:Hid (r=if validN (L s)=true then ((Idn.parse (L s)).1,true)else ([],false)):=hr.symm
 clear hr
 generalize Idn.parse (L s)=pp at *
 obtain ⟨l,x⟩:=pp
 dsimp only at HR
 cases hv:validN (L s)
 ·rw[hv]at hV HR
  have HF:Hid (r=([],false)):=HR.out
  clear HR hP
  go_enter Tryz.func143,Tryz.ntmps143
  go_wp2_with fail
  refine hV.mono ?_
  rintro e w1 ⟨rfl,hb1⟩
  go_wp2
  go_ret2
  exact ⟨.slice none 0 0,by rw[HF.out];rfl,by rw[HF.out];exact World.ownsRow_nil _ _ _ _,hb1⟩
 ·rw[hv]at hV HR
  have HF:Hid (r=(l,true)):=HR.out
  clear HR
  go_enter Tryz.func143,Tryz.ntmps143
  go_wp2_with fail
  refine hV.mono ?_
  rintro e w1 ⟨rfl,hb1⟩
  clear hV
  go_wp2_with fail
  refine (hP _).mono ?_
  rintro e w2 ⟨v2,rfl,hown2,hb2⟩
  obtain ⟨A,c,hv2⟩:=own_shape hown2
  subst hv2
  clear hP
  dsimp only at *
  go_wp2
  go_ret2
  exact ⟨.slice A l.length c,by rw[HF.out];rfl,by rw[HF.out];exact own_base hown2 hb1.size,hb1.trans (hb2.mono hb1.size)⟩
end Go.Proofs.YtbkkchhimhlhcaaGreatDoor
