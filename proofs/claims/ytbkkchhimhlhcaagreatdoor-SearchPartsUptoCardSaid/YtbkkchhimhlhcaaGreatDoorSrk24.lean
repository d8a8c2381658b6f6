/- Part 24 of the proof that identitylaw12.SearchChecks returns true for every data that it may be called with: proof: the package variables hold what the program lays; nothing else is asked. -/
import Derived.Test.YtbkkchhimhlhcaaGreatDoorSrk15
import Derived.Test.YtbkkchhimhlhcaaGreatDoorSrk18
import Derived.Test.YtbkkchhimhlhcaaGreatDoorSrk19
import Derived.Test.YtbkkchhimhlhcaaGreatDoorSrk20
import Derived.Test.YtbkkchhimhlhcaaGreatDoorSrk23
import Derived.Lib.ItoaLen
set_option linter.unusedVariables false
set_option linter.unusedSimpArgs false
set_option maxRecDepth 100000
set_option maxHeartbeats 16000000
/- schema: normal. -/
namespace Go.Proofs.YtbkkchhimhlhcaaGreatDoor
open Go.RowKit
open Idn (L B Bs drop_L take_L size_L)
theorem mapGo_len (f:Int→Int):∀(n:Nat) (l:Bs),(Lib.mapGoD f n l).length≤n*4
 |0,l=>by simp[Lib.mapGoD]
 |n+1,l=>by
  unfold Lib.mapGoD
  split
  ·simp
  ·rw[List.length_append]
   have h1:=mapGo_len f n (l.drop (Lib.decodeL l).2)
   have h2:(if 0≤f (Lib.decodeL l).1 then Lib.encodeRune (f (Lib.decodeL l).1)else []).length≤4:=by
    split
    ·unfold Lib.encodeRune;rw[List.length_map];exact (Lib.encodeRuneZ_length _).2
    ·simp
   rw[Nat.add_mul];omega
theorem cleanN_len (v:Bs):(Idn.cleanN v).1.length≤5000:=by
 unfold Idn.cleanN
 split
 ·simp
 ·unfold Idn.format
  split
  ·simp
  ·rename_i h
   obtain ⟨h8,hsm⟩:=check_zero (l:=(Idn.parse v).1) (by simpa using h)
   have:=fmtK_len hsm _ (Nat.le_refl _)
   unfold fmtK at this
   rw[List.take_length]at this
   dsimp only
   omega
theorem length_norm (x:Int) (v:Bs) (h:v.length≤100000000):(Idn.normSyn x v).1.length≤1000000000:=by
 unfold Idn.normSyn
 split
 ·unfold Idn.integer
  split
  ·simp
  ·split
   ·simp
   ·have hb:=readInt_bd (if Lib.hasPrefix v [45]=true then 45 :: Idn.stripD (Lib.trimPrefix v [45])else Idn.stripD (Lib.trimPrefix v [45]))
    have:=Lib.itoa_length_le _ hb.1 hb.2
    dsimp only
    omega
 ·split
  ·have:=mapGo_len Lib.toUpperU (Idn.lower v).length (Idn.lower v)
   rw[Idn.length_lower]at this
   show (Lib.toUpperD (Idn.lower v)).length≤_
   unfold Lib.toUpperD Lib.mapD
   rw[Idn.length_lower]
   omega
  ·split
   ·have:=Idn.length_fold v
    dsimp only
    omega
   ·split
    ·have:=cleanN_len v
     dsimp only
     omega
    ·dsimp only;omega
theorem normal_any (x : Int) (s : ByteArray) (w : World) (hE : Env w) (hU : EnvU w) (hs : s.size ≤ 100000000) :
  Calls Tryz.prog 231 #[.int .i64 x,.string s] w fun e w'=>e=.returned (.tuple #[.string (B (Idn.normV x (L s)).1),.bool (Idn.normV x (L s)).2])∧Below w.heap.size w w':=by
 have hC1:=fun W=>clean_any s W (by omega)
 have hln:=length_norm x (L s) (by have:=size_L s;omega)
 have hC2:=fun W=>clean_any (B (Idn.normSyn x (L s)).1) W (by rw[Idn.size_B];omega)
 rw[Idn.L_B]at hC2
 have HR:Hid (Idn.normV x (L s)=((Idn.normSyn x (L s)).1,(Idn.normSyn x (L s)).2&&(Idn.clean (L s)&&Idn.clean (Idn.normSyn x (L s)).1))):=rfl
 clear hln
 generalize Idn.normV x (L s)=r at *
 by_cases h3:x=3
 ·have hI:=integer_any s w hE hs
  have hn:Idn.normSyn x (L s)=Idn.integer (L s):=by unfold Idn.normSyn;rw[if_pos h3]
  rw[hn]at hC2 HR
  have e3:(x==3)=true:=by simpa using h3
  generalize Idn.integer (L s)=q at *
  obtain ⟨o,okb⟩:=q
  dsimp only at *
  clear hn h3
  generalize hco:Idn.clean o=co at *
  generalize hcv:Idn.clean (L s)=cv at *
  clear hco hcv
  cases okb
  ·have HF:Hid (r=(o,false)):=by show _=_;rw[HR.out];rfl
   go_enter Tryz.func231,Tryz.ntmps231
   go_wp2_with (first|(go_at_call 287;refine hI.mono ?_;rintro e w1 ⟨rfl,hb1⟩))
   go_ret2
   exact ⟨by rw[HF.out];rfl,hb1⟩
  cases cv
  ·have HF:Hid (r=(o,false)):=by show _=_;rw[HR.out];rfl
   have tok1:True:=trivial
   go_enter Tryz.func231,Tryz.ntmps231
   go_wp2_with (first|(go_at_call 287;refine hI.mono ?_;rintro e w1 ⟨rfl,hb1⟩)|(go_at_call 193;have _t:=tok1;refine (hC1 _).mono ?_;rintro e w2 ⟨rfl,hb2⟩;clear tok1))
   go_ret2
   exact ⟨by rw[HF.out];rfl,hb1.trans (hb2.mono hb1.size)⟩
  have HF:Hid (r=(o,co)):=by show _=_;rw[HR.out];rfl
  have tok1:True:=trivial
  go_enter Tryz.func231,Tryz.ntmps231
  go_wp2_with (first|(go_at_call 287;refine hI.mono ?_;rintro e w1 ⟨rfl,hb1⟩)|(go_at_call 193;have _t:=tok1;refine (hC1 _).mono ?_;rintro e w2 ⟨rfl,hb2⟩;clear tok1)|(go_at_call 193;refine (hC2 _).mono ?_;rintro e w3 ⟨rfl,hb3⟩))
  go_ret2
  exact ⟨by rw[HF.out];rfl,(hb1.trans (hb2.mono hb1.size)).trans (hb3.mono (hb1.trans (hb2.mono hb1.size)).size)⟩
 have e3:(x==3)=false:=by simpa using h3
 by_cases h5:x=5
 ·have hI:=truth_any s w hU hs
  have hn:Idn.normSyn x (L s)=Idn.truth (L s):=by unfold Idn.normSyn;rw[if_neg h3,if_pos h5]
  rw[hn]at hC2 HR
  have e5:(x==5)=true:=by simpa using h5
  generalize Idn.truth (L s)=q at *
  obtain ⟨o,okb⟩:=q
  dsimp only at *
  clear hn h3 h5
  generalize hco:Idn.clean o=co at *
  generalize hcv:Idn.clean (L s)=cv at *
  clear hco hcv
  cases okb
  ·have HF:Hid (r=(o,false)):=by show _=_;rw[HR.out];rfl
   go_enter Tryz.func231,Tryz.ntmps231
   go_wp2_with (first|(go_at_call 288;refine hI.mono ?_;rintro e w1 ⟨rfl,hb1⟩))
   go_ret2
   exact ⟨by rw[HF.out];rfl,hb1⟩
  cases cv
  ·have HF:Hid (r=(o,false)):=by show _=_;rw[HR.out];rfl
   have tok1:True:=trivial
   go_enter Tryz.func231,Tryz.ntmps231
   go_wp2_with (first|(go_at_call 288;refine hI.mono ?_;rintro e w1 ⟨rfl,hb1⟩)|(go_at_call 193;have _t:=tok1;refine (hC1 _).mono ?_;rintro e w2 ⟨rfl,hb2⟩;clear tok1))
   go_ret2
   exact ⟨by rw[HF.out];rfl,hb1.trans (hb2.mono hb1.size)⟩
  have HF:Hid (r=(o,co)):=by show _=_;rw[HR.out];rfl
  have tok1:True:=trivial
  go_enter Tryz.func231,Tryz.ntmps231
  go_wp2_with (first|(go_at_call 288;refine hI.mono ?_;rintro e w1 ⟨rfl,hb1⟩)|(go_at_call 193;have _t:=tok1;refine (hC1 _).mono ?_;rintro e w2 ⟨rfl,hb2⟩;clear tok1)|(go_at_call 193;refine (hC2 _).mono ?_;rintro e w3 ⟨rfl,hb3⟩))
  go_ret2
  exact ⟨by rw[HF.out];rfl,(hb1.trans (hb2.mono hb1.size)).trans (hb3.mono (hb1.trans (hb2.mono hb1.size)).size)⟩
 have e5:(x==5)=false:=by simpa using h5
 by_cases h1:x=1
 ·have hI:=fold_any s w (by omega)
  have hn:Idn.normSyn x (L s)=(Idn.fold (L s),true):=by unfold Idn.normSyn;rw[if_neg h3,if_neg h5,if_pos h1]
  rw[hn]at hC2 HR
  have e1:(x==1)=true:=by simpa using h1
  dsimp only at *
  generalize Idn.fold (L s)=o at *
  clear hn h3 h5 h1
  generalize hco:Idn.clean o=co at *
  generalize hcv:Idn.clean (L s)=cv at *
  clear hco hcv
  cases cv
  ·have HF:Hid (r=(o,false)):=by show _=_;rw[HR.out];rfl
   have tok1:True:=trivial
   go_enter Tryz.func231,Tryz.ntmps231
   go_wp2_with (first|(go_at_call 218;refine hI.mono ?_;rintro e w1 ⟨rfl,hb1⟩)|(go_at_call 193;have _t:=tok1;refine (hC1 _).mono ?_;rintro e w2 ⟨rfl,hb2⟩;clear tok1))
   go_ret2
   exact ⟨by rw[HF.out];rfl,hb1.trans (hb2.mono hb1.size)⟩
  have HF:Hid (r=(o,co)):=by show _=_;rw[HR.out];rfl
  have tok1:True:=trivial
  go_enter Tryz.func231,Tryz.ntmps231
  go_wp2_with (first|(go_at_call 218;refine hI.mono ?_;rintro e w1 ⟨rfl,hb1⟩)|(go_at_call 193;have _t:=tok1;refine (hC1 _).mono ?_;rintro e w2 ⟨rfl,hb2⟩;clear tok1)|(go_at_call 193;refine (hC2 _).mono ?_;rintro e w3 ⟨rfl,hb3⟩))
  go_ret2
  exact ⟨by rw[HF.out];rfl,(hb1.trans (hb2.mono hb1.size)).trans (hb3.mono (hb1.trans (hb2.mono hb1.size)).size)⟩
 have e1:(x==1)=false:=by simpa using h1
 by_cases h4:x=4
 ·have hI:=nm_clean_any s w (by omega)
  have hn:Idn.normSyn x (L s)=((Idn.cleanN (L s)).1,(Idn.cleanN (L s)).2==0):=by unfold Idn.normSyn;rw[if_neg h3,if_neg h5,if_neg h1,if_pos h4]
  rw[hn]at hC2 HR
  have e4:(x==4)=true:=by simpa using h4
  generalize Idn.cleanN (L s)=q at *
  obtain ⟨o,oc⟩:=q
  dsimp only at *
  clear hn h3 h5 h1 h4
  generalize hco:Idn.clean o=co at *
  generalize hcv:Idn.clean (L s)=cv at *
  clear hco hcv
  by_cases hc:oc=0
  case neg=>
   have hcz:(oc==0)=false:=by simpa using hc
   have HF:Hid (r=(o,false)):=by show _=_;rw[HR.out,hcz];rfl
   clear hc HR
   go_enter Tryz.func231,Tryz.ntmps231
   go_wp2_with (first|(go_at_call 289;refine hI.mono ?_;rintro e w1 ⟨rfl,hb1⟩))
   go_ret2
   exact ⟨by rw[HF.out];rfl,hb1⟩
  subst hc
  cases cv
  ·have HF:Hid (r=(o,false)):=by show _=_;rw[HR.out];rfl
   have tok1:True:=trivial
   go_enter Tryz.func231,Tryz.ntmps231
   go_wp2_with (first|(go_at_call 289;refine hI.mono ?_;rintro e w1 ⟨rfl,hb1⟩)|(go_at_call 193;have _t:=tok1;refine (hC1 _).mono ?_;rintro e w2 ⟨rfl,hb2⟩;clear tok1))
   go_ret2
   exact ⟨by rw[HF.out];rfl,hb1.trans (hb2.mono hb1.size)⟩
  have HF:Hid (r=(o,co)):=by show _=_;rw[HR.out];rfl
  have tok1:True:=trivial
  go_enter Tryz.func231,Tryz.ntmps231
  go_wp2_with (first|(go_at_call 289;refine hI.mono ?_;rintro e w1 ⟨rfl,hb1⟩)|(go_at_call 193;have _t:=tok1;refine (hC1 _).mono ?_;rintro e w2 ⟨rfl,hb2⟩;clear tok1)|(go_at_call 193;refine (hC2 _).mono ?_;rintro e w3 ⟨rfl,hb3⟩))
  go_ret2
  exact ⟨by rw[HF.out];rfl,(hb1.trans (hb2.mono hb1.size)).trans (hb3.mono (hb1.trans (hb2.mono hb1.size)).size)⟩
 have e4:(x==4)=false:=by simpa using h4
 by_cases h2:x=2
 ·have hn:Idn.normSyn x (L s)=(L s,true):=by unfold Idn.normSyn;rw[if_neg h3,if_neg h5,if_neg h1,if_neg h4]
  rw[hn]at hC2 HR
  have e2:(x==2)=true:=by simpa using h2
  dsimp only at *
  clear hn h3 h5 h1 h2 h4
  generalize hcv:Idn.clean (L s)=cv at *
  clear hcv
  cases cv
  ·have HF:Hid (r=((L s),false)):=by show _=_;rw[HR.out];rfl
   have tok1:True:=trivial
   go_enter Tryz.func231,Tryz.ntmps231
   go_wp2_with (first|(go_at_call 193;have _t:=tok1;refine (hC1 _).mono ?_;rintro e w2 ⟨rfl,hb2⟩;clear tok1))
   go_ret2
   exact ⟨by rw[HF.out];rfl,hb2⟩
  have HF:Hid (r=((L s),true)):=by show _=_;rw[HR.out];rfl
  have tok1:True:=trivial
  go_enter Tryz.func231,Tryz.ntmps231
  go_wp2_with (first|(go_at_call 193;have _t:=tok1;refine (hC1 _).mono ?_;rintro e w2 ⟨rfl,hb2⟩;clear tok1)|(go_at_call 193;refine (hC2 _).mono ?_;rintro e w3 ⟨rfl,hb3⟩))
  go_ret2
  exact ⟨by rw[HF.out];rfl,hb2.trans (hb3.mono hb2.size)⟩
 have e2:(x==2)=false:=by simpa using h2
 have hn:Idn.normSyn x (L s)=(L s,true):=by unfold Idn.normSyn;rw[if_neg h3,if_neg h5,if_neg h1,if_neg h4]
 rw[hn]at hC2 HR
 dsimp only at *
 clear hn h3 h5 h1 h2 h4
 generalize hcv:Idn.clean (L s)=cv at *
 clear hcv
 cases cv
 ·have HF:Hid (r=((L s),false)):=by show _=_;rw[HR.out];rfl
  have tok1:True:=trivial
  go_enter Tryz.func231,Tryz.ntmps231
  go_wp2_with (first|(go_at_call 193;have _t:=tok1;refine (hC1 _).mono ?_;rintro e w2 ⟨rfl,hb2⟩;clear tok1))
  go_ret2
  exact ⟨by rw[HF.out];rfl,hb2⟩
 have HF:Hid (r=((L s),true)):=by show _=_;rw[HR.out];rfl
 have tok1:True:=trivial
 go_enter Tryz.func231,Tryz.ntmps231
 go_wp2_with (first|(go_at_call 193;have _t:=tok1;refine (hC1 _).mono ?_;rintro e w2 ⟨rfl,hb2⟩;clear tok1)|(go_at_call 193;refine (hC2 _).mono ?_;rintro e w3 ⟨rfl,hb3⟩))
 go_ret2
 exact ⟨by rw[HF.out];rfl,hb2.trans (hb3.mono hb2.size)⟩
end Go.Proofs.YtbkkchhimhlhcaaGreatDoor
/- schema: (known).normal, Normal. -/
namespace Go.Proofs.YtbkkchhimhlhcaaGreatDoor
open Go.RowKit Go.Sort
open Idn (L B Bs drop_L take_L size_L)
def kNorm (s:Idn.Sch) (n v:Bs):Idn.AT×Bs×Int:=
 if !(tyLook s n).2 then ((tyLook s n).1,[],6)
 else if !(Idn.normV (tyLook s n).1.syn v).2 then ((tyLook s n).1,[],8)
 else ((tyLook s n).1,(Idn.normV (tyLook s n).1.syn v).1,0)
def ThreeAt (X:World) (p:Nat) (a b c:Value):Prop:=
 (X.cell? ⟨p,0,none⟩=some a∧X.cell? ⟨p,1,none⟩=some b∧X.cell? ⟨p,2,none⟩=some c)∧p<X.heap.size
theorem threeA (W:World) (a b c:Value) (t:TypeId):ThreeAt (W.alloc (.cells #[a,b,c] t)) W.heap.size a b c:=by
 have e:=heap_alloc_new W (.cells #[a,b,c] t)
 refine ⟨⟨?_,?_,?_⟩,by simp⟩
 ·rw[cell_of_row _ W.heap.size 0 _ _ (0,0) e];rfl
 ·rw[cell_of_row _ W.heap.size 1 _ _ (0,0) e];rfl
 ·rw[cell_of_row _ W.heap.size 2 _ _ (0,0) e];rfl
theorem threeB {X : World} {p : Nat} {a0 b0 c0 : Value} (h0 : X.cell? ⟨p, 0, none⟩ = some a0) (h1 : X.cell? ⟨p, 1, none⟩ = some b0) (h2 : X.cell? ⟨p, 2, none⟩ = some c0) (a b c : Value) :
  ThreeAt (((X.setCell ⟨p,0,none⟩ a).setCell ⟨p,1,none⟩ b).setCell ⟨p,2,none⟩ c) p a b c:=by
 have hp:=World.block_lt_of_cell? _ _ h0
 refine ⟨⟨?_,?_,?_⟩,by simpa using hp⟩<;>go_simp
theorem ThreeAt.keep {X Y:World} {p:Nat} {a b c:Value} (h:ThreeAt X p a b c) (hb:Below X.heap.size X Y):ThreeAt Y p a b c:=
 ⟨⟨cell_later hb h.1.1,cell_later hb h.1.2.1,cell_later hb h.1.2.2⟩,Nat.lt_of_lt_of_le h.2 hb.size⟩
theorem kNormal_any (m1 m2 : Value) (s : Idn.Sch) (n v : ByteArray) (w : World) (hm : MapV w m1 (tyE s.types)) (h2 : ∃ o2, m2 = .map o2) (hE : Env w) (hU : EnvU w) (hn : n.size ≤ 1000000000) (hv : v.size ≤ 100000000) :
  Calls Tryz.prog 184 #[.agg #[m1,m2],.string n,.string v] w fun e w'=>e=.returned (.tuple #[tyV (kNorm s (L n) (L v)).1,.string (B (kNorm s (L n) (L v)).2.1),.int .i64 (kNorm s (L n) (L v)).2.2])∧Below w.heap.size w w':=by
 obtain ⟨o1,rfl⟩:=hm.shape
 obtain ⟨o2,rfl⟩:=h2
 have hl:=fun W=>lower_any n W (by omega)
 obtain ⟨hva,hsome⟩:=tyLook_lk s (L n)
 have hkn:kNorm s (L n) (L v)=if !(tyLook s (L n)).2 then ((tyLook s (L n)).1,[],6)
  else if !(Idn.normV (tyLook s (L n)).1.syn (L v)).2 then ((tyLook s (L n)).1,[],8)
  else ((tyLook s (L n)).1,(Idn.normV (tyLook s (L n)).1.syn (L v)).1,0):=rfl
 generalize hrr:kNorm s (L n) (L v)=r at *
 clear hrr
 generalize tyLook s (L n)=rr at *
 obtain ⟨⟨ta,tb,tc⟩,td⟩:=rr
 unfold tyV at hva
 dsimp only[sv]at hva hsome hkn
 have hNv:=fun W h1 h2=>normal_any tb v W h1 h2 hv
 generalize Idn.normV tb (L v)=nv at *
 obtain ⟨no,nb⟩:=nv
 dsimp only at *
 have HR:=Lib.hid hkn
 clear hkn
 go_enter Tryz.func184,Tryz.ntmps184
 go_wp2
 with_reducible refine gen2g (R:=fun W=>Code.wp Tryz.prog _ _ _ W) ?_
 intro W hbW hszW hc1 hc2 hf1 hf2
 have k0:W.cell? ⟨w.heap.size,0,none⟩=some (.map o1):=hc1 0 _ rfl
 have r0:W.cell? ⟨w.heap.size+1,0,none⟩=some (.string ⟨#[]⟩):=hc2 0 _ rfl
 have r1:W.cell? ⟨w.heap.size+1,1,none⟩=some (.int .i64 0):=hc2 1 _ rfl
 have r2:W.cell? ⟨w.heap.size+1,2,none⟩=some (.bool false):=hc2 2 _ rfl
 have g0:=hf2 0
 have g1:=hf2 1
 have g2:=hf2 2
 clear hc1 hc2 hf1 hf2
 have hl1:w.heap.size<W.heap.size:=by omega
 have hl2:w.heap.size+1<W.heap.size:=by omega
 clear hszW
 have hS:∀W',Below W.heap.size W W'→W'.cell? ⟨w.heap.size,0,none⟩=some (.map o1)∧(Instr.lookup 166 (.map o1) (.string (B (Idn.lower (L n)))) true).run Tryz.prog W'=.ok (.tuple #[.agg #[.string (B ta),.int .i64 tb,.bool tc],.bool td]) W'∧Below W.heap.size W W':=fun W' hW=>by
  refine ⟨cell_later hW k0,?_,hW⟩
  have:=((hm.keep hbW).keep hW).run (P:=Tryz.prog) Tryz.underlying9 Tryz.underlying166 (zeroAT _) (B (Idn.lower (L n)))
  rw[Idn.L_B,hva,hsome]at this
  exact this
 have hw0:=Below.refl W.heap.size W
 go_upto_region 1 with fail
 go_cut [9,10] (fun p ok wx=>∃g:Nat,p=.pointer (some ⟨g,0,none⟩)∧ok=.bool td∧ThreeAt wx g (.string (B ta)) (.int .i64 tb) (.bool tc)∧Below W.heap.size W wx)
 case first=>
  go_region_held3 (fun W'=>W'.cell? ⟨w.heap.size,0,none⟩=some (.map o1)∧(Instr.lookup 166 (.map o1) (.string (B (Idn.lower (L n)))) true).run Tryz.prog W'=.ok (.tuple #[.agg #[.string (B ta),.int .i64 tb,.bool tc],.bool td]) W'∧Below W.heap.size W W')
   (first|(refine hS _ ?_;repeat (first|with_reducible exact Below.refl _ _|with_reducible apply Below.drew|with_reducible refine Below.lay ?_ _|with_reducible refine Below.setCell ?_ (by simp) _|with_reducible refine Below.on ?_ hb1)))
   (first|(go_at_call 125;refine (hl _).mono ?_;rintro e w1 ⟨rfl,hb1⟩;first|have hn:=three_new hb1|skip))
  all_goals (go_wp2_with fail;go_meet)
  all_goals first|exact ⟨_,rfl,rfl,threeA _ _ _ _ _,And.right (And.right (by assumption))⟩|exact ⟨_,rfl,rfl,threeB hn.1.1 hn.1.2.1 hn.1.2.2 _ _ _,And.right (And.right (by assumption))⟩
 case rest=>
  obtain ⟨g,rfl,rfl,hT,hb⟩:=hcut
  have hbw:=hbW.trans (hb.mono hbW.size)
  replace r0:=cell_later hb r0
  replace r1:=cell_later hb r1
  replace r2:=cell_later hb r2
  replace g0:=frozen_later hb g0 hl2
  replace g1:=frozen_later hb g1 hl2
  replace g2:=frozen_later hb g2 hl2
  have hl3:w.heap.size+1<wc.heap.size:=by have:=hb.size;omega
  obtain ⟨⟨t0,t1,t2⟩,hgl⟩:=hT
  clear hS hw0 k0 hl
  cases td
  ·have HF:Hid (r=(⟨ta,tb,tc⟩,[],6)):=HR
   go_wp2
   exact bodyPost_ret (v:=.tuple #[.agg #[.string (B ta),.int .i64 tb,.bool tc],.string ⟨#[]⟩,.int .i64 6]) (by simp[results,Tryz.results184,go_sem,r0,r1,r2,g0,g1,g2]) rfl ⟨by rw[HF.out];rfl,((hbw.setCell (p:=⟨w.heap.size+1,0,none⟩) (Nat.le_succ _) _).setCell (p:=⟨w.heap.size+1,1,none⟩) (Nat.le_succ _) _).setCell (p:=⟨w.heap.size+1,2,none⟩) (Nat.le_succ _) _⟩
  ·have hN:=hNv wc (hE.keep hbw) (hU.keep hbw)
   clear hNv
   go_wp2_with fail
   refine hN.mono ?_
   rintro e w4 ⟨rfl,hb4⟩
   clear hN
   replace r0:=cell_later hb4 r0
   replace r1:=cell_later hb4 r1
   replace r2:=cell_later hb4 r2
   replace t0:=cell_later hb4 t0
   replace t1:=cell_later hb4 t1
   replace t2:=cell_later hb4 t2
   replace g0:=frozen_later hb4 g0 (by omega)
   replace g1:=frozen_later hb4 g1 (by omega)
   replace g2:=frozen_later hb4 g2 (by omega)
   have hl4:w.heap.size+1<w4.heap.size:=by have:=hb4.size;omega
   have hbw4:=hbw.trans (hb4.mono hbw.size)
   cases nb
   ·have HF:Hid (r=(⟨ta,tb,tc⟩,[],8)):=HR
    go_wp2
    exact bodyPost_ret (v:=.tuple #[.agg #[.string (B ta),.int .i64 tb,.bool tc],.string ⟨#[]⟩,.int .i64 8]) (by simp[results,Tryz.results184,go_sem,r0,r1,r2,g0,g1,g2]) rfl ⟨by rw[HF.out];rfl,((hbw4.setCell (p:=⟨w.heap.size+1,0,none⟩) (Nat.le_succ _) _).setCell (p:=⟨w.heap.size+1,1,none⟩) (Nat.le_succ _) _).setCell (p:=⟨w.heap.size+1,2,none⟩) (Nat.le_succ _) _⟩
   ·have HF:Hid (r=(⟨ta,tb,tc⟩,no,0)):=HR
    go_wp2
    exact bodyPost_ret (v:=.tuple #[.agg #[.string (B ta),.int .i64 tb,.bool tc],.string (B no),.int .i64 0]) (by simp[results,Tryz.results184,go_sem,r0,r1,r2,g0,g1,g2]) rfl ⟨by rw[HF.out];rfl,((hbw4.setCell (p:=⟨w.heap.size+1,0,none⟩) (Nat.le_succ _) _).setCell (p:=⟨w.heap.size+1,1,none⟩) (Nat.le_succ _) _).setCell (p:=⟨w.heap.size+1,2,none⟩) (Nat.le_succ _) _⟩
def sNorm (s:Idn.Sch) (n v:Bs):Bs×Int:=((kNorm (sound s) n v).2.1,(kNorm (sound s) n v).2.2)
theorem schNormal_any (u : Value) (s : Idn.Sch) (n v : ByteArray) (w : World) (hu : SchV w w.heap.size u s) (hs : SSm s) (hE : Env w) (hU : EnvU w) (hn : n.size ≤ 1000000000) (hv : v.size ≤ 100000000) :
  Calls Tryz.prog 116 #[u,.string n,.string v] w fun e w'=>e=.returned (.tuple #[.string (B (sNorm s (L n) (L v)).1),.int .i64 (sNorm s (L n) (L v)).2])∧Below w.heap.size w w':=by
 have hLk:=fun W (hW:Below w.heap.size w W)=>look_any u s W (SchV.mono (SchV.keep hu hW) hW.size) hs
 obtain ⟨a,b,rfl,hT,hC⟩:=hu
 obtain ⟨A,ca,rfl,hca⟩:=SlV.shape hT
 obtain ⟨A',cb,rfl,hcb⟩:=SlV.shape hC
 clear hT hC
 have HR:Hid (sNorm s (L n) (L v)=((kNorm (sound s) (L n) (L v)).2.1,(kNorm (sound s) (L n) (L v)).2.2)):=rfl
 generalize sNorm s (L n) (L v)=r at *
 go_enter Tryz.func116,Tryz.ntmps116
 go_wp2_with fail
 with_reducible refine gen1 (R:=fun W=>Calls Tryz.prog 124 _ W _) ?_
 intro W hbW hszW _ _
 refine (hLk W hbW).mono ?_
 rintro e w1 ⟨m1,m2,rfl,hb1,hk⟩
 have hbw1:=hbW.trans (hb1.mono hbW.size)
 obtain ⟨es,h2,_⟩:=hk.2
 have hKN:=kNormal_any m1 m2 (sound s) n v w1 hk.1 h2.shape (hE.keep hbw1) (hU.keep hbw1) hn hv
 clear hLk hk h2
 generalize kNorm (sound s) (L n) (L v)=kn at *
 obtain ⟨⟨ta,tb,tc⟩,no,ne⟩:=kn
 unfold tyV at hKN
 dsimp only[sv]at *
 clear hszW
 go_wp2_with fail
 refine hKN.mono ?_
 rintro e w2 ⟨rfl,hb2⟩
 clear hKN
 go_wp2
 go_ret2
 exact ⟨by rw[HR.out];rfl,(hbw1.trans (hb2.mono hbw1.size)).alloc (by have:=hbw1.size;have:=hb2.size;omega) _⟩
end Go.Proofs.YtbkkchhimhlhcaaGreatDoor
/- schema: attribute. -/
namespace Go.Proofs.YtbkkchhimhlhcaaGreatDoor
open Go.RowKit Go.Sort
open Idn (L B Bs drop_L take_L size_L)
end Go.Proofs.YtbkkchhimhlhcaaGreatDoor
/- attrs: Check. -/
namespace Go.Proofs.YtbkkchhimhlhcaaGreatDoor
open Go.RowKit Go.Sort
open Idn (L B Bs drop_L take_L size_L)
theorem ixA_none {l:List Idn.Att} {n:Bs} (h:∀(i:Nat) (hi:i<l.length),Idn.lower l[i].name≠Idn.lower n):Idn.ixA l n=none:=by
 unfold Idn.ixA
 rw[List.findIdx?_eq_none_iff]
 intro x hx
 obtain ⟨i,hi,rfl⟩:=List.getElem_of_mem hx
 exact decide_eq_false (h i hi)
theorem ixA_some {l:List Idn.Att} {n:Bs} (i:Nat) (hi:i<l.length) (h:Idn.lower l[i].name=Idn.lower n):(Idn.ixA l n).isSome=true:=by
 unfold Idn.ixA
 rw[List.findIdx?_isSome,List.any_eq_true]
 exact ⟨l[i],List.getElem_mem hi,decide_eq_true h⟩
def TwoAt (X:World) (p:Nat) (a b:Value):Prop:=(X.cell? ⟨p,0,none⟩=some a∧X.cell? ⟨p,1,none⟩=some b)∧p<X.heap.size
theorem twoA (W:World) (a b:Value) (t:TypeId):TwoAt (W.alloc (.cells #[a,b] t)) W.heap.size a b:=by
 have e:=heap_alloc_new W (.cells #[a,b] t)
 refine ⟨⟨?_,?_⟩,by simp⟩
 ·rw[cell_of_row _ W.heap.size 0 _ _ (0,0) e];rfl
 ·rw[cell_of_row _ W.heap.size 1 _ _ (0,0) e];rfl
theorem TwoAt.keep {X Y:World} {p:Nat} {a b:Value} (h:TwoAt X p a b) (hb:Below X.heap.size X Y):TwoAt Y p a b:=
 ⟨⟨cell_later hb h.1.1,cell_later hb h.1.2⟩,Nat.lt_of_lt_of_le h.2 hb.size⟩
theorem attsCheck_any (v : Value) (l : List Idn.Att) (w : World) (hv : AttsV w w.heap.size v l) (hs : ASm l) :
  Calls Tryz.prog 59 #[v] w fun e w'=>e=.returned (.int .i64 (Idn.aCheck l))∧Below w.heap.size w w':=by
 obtain ⟨A,c,rfl,hc⟩:=SlV.shape hv
 generalize hrr:Idn.aCheck l=r
 have HR0:Hid (r=if 32<l.length then 3 else Idn.attsErr [] l):=hrr.symm
 clear hrr
 have hl9:=hs.1
 by_cases h32:32<l.length
 ·have HF:Hid (r=3):=by show _=_;rw[HR0.out,if_pos h32]
  have h':(32:Int)<(l.length:Int):=by omega
  clear h32 HR0
  go_enter Tryz.func59,Tryz.ntmps59
  go_wp2
  go_ret
  exact ⟨ret_int (by rw[HF.out]),Below.refl _ _⟩
 have HR:Hid (r=Idn.attsErr [] l):=by show _=_;rw[HR0.out,if_neg h32]
 have h':(l.length:Int)≤(32:Int):=by omega
 clear HR0
 go_enter Tryz.func59,Tryz.ntmps59
 go_wp2
 clear h'
 go_loopw [3,13] (fun _ i wr=>∃k:Nat,k≤l.length∧i=.int .i64 k∧Below w.heap.size w wr∧Hid (r=Idn.attsErr (l.take k) (l.drop k))) (fun _ i _=>l.length-(intOf i).toNat)
 case atStart=>exact ⟨0,Nat.zero_le _,rfl,Below.refl _ _,by show _=_;rw[HR.out];simp⟩
 case round=>
  obtain ⟨k,hk,rfl,hb,hinv⟩:=hrel
  clear HR
  obtain ⟨wo,hwo⟩:∃wo:World,wo=wr:=⟨_,rfl⟩
  subst hwo
  by_cases hlt:k<l.length
  ·obtain ⟨b,off,va,rfl,hbl,c0,c1,hva⟩:=AttsV.cell (AttsV.keep hv hb) hlt
   obtain ⟨Av,cv,rfl,hcv⟩:=SlV.shape hva
   have hltI:(k:Int)<(l.length:Int):=by omega
   have hkc:(k:Int)≤(c:Int):=by omega
   have hk0:(0:Int)≤(k:Int):=by omega
   obtain ⟨s1,s2⟩:=Idn.atts_step l k hlt _ hinv.out
   obtain ⟨hn9,hsv⟩:=hs.2 l[k] (List.getElem_mem hlt)
   have hN:=fun W=>name_any (B l[k].name) W (by rw[Idn.size_B];omega)
   rw[Idn.L_B]at hN
   have ba:=(Below.refl wo.heap.size wo).alloc (Nat.le_refl _) (.cells #[.string (B l[k].name),.slice Av l[k].vals.length cv] 96)
   have hTw:=twoA wo (.string (B l[k].name)) (.slice Av l[k].vals.length cv) 96
   have hbA:=hb.trans (ba.mono hb.size)
   clear hinv
   cases h1:Idn.name l[k].name
   ·have he:Idn.attErr (l.take k) l[k]=5:=by unfold Idn.attErr;rw[h1];rfl
    have HF:Hid (r=5):=by show _=_;rw[s1 (by rw[he];decide),he]
    rw[h1]at hN
    clear s1 s2 h1 he
    go_wp2_with (go_at_call 82;refine (hN _).mono ?_;rintro e w2 ⟨rfl,rfl⟩)
    go_ret
    exact ⟨ret_int (by rw[HF.out]),hbA⟩
   rw[h1]at hN
   have hAt:Idn.attErr (l.take k) l[k]=if (Idn.ixA (l.take k) l[k].name).isSome then 7 else if l[k].vals.length=0 then 6 else if 16<l[k].vals.length then 3 else Idn.valsErr [] l[k].vals:=by
    unfold Idn.attErr;rw[h1];rfl
   have HA:=Lib.hid hAt
   have S1:Hid (Idn.attErr (l.take k) l[k]≠0→r=Idn.attErr (l.take k) l[k]):=s1
   have S2:Hid (Idn.attErr (l.take k) l[k]=0→r=Idn.attsErr (l.take (k+1)) (l.drop (k+1))):=s2
   have hVs:=fun W (hW:Below wo.heap.size wo W)=>values_any _ l[k].vals W (SlV.mono (SlV.keep hva (hW.mono hb.size)) (Nat.le_trans hb.size hW.size)) hsv
   clear s1 s2 h1 hAt
   go_wp2_with (go_at_call 82;refine (hN _).mono ?_;rintro e w2 ⟨rfl,rfl⟩)
   with_reducible refine gen1 (R:=fun W=>Code.wp Tryz.prog _ _ _ W) ?_
   intro W1 hbW1 hszW1 hc1 _
   have d0:W1.cell? ⟨wo.heap.size,0,none⟩=some (.string (B l[k].name)):=hc1 0 _ rfl
   have d1:W1.cell? ⟨wo.heap.size,1,none⟩=some (.slice Av l[k].vals.length cv):=hc1 1 _ rfl
   have hbw1:=hb.trans (hbW1.mono hb.size)
   have hlp:wo.heap.size<W1.heap.size:=by omega
   clear hc1 hTw hbA ba hN c0 c1 hszW1
   go_loopw [26] (fun i wr=>∃j:Nat,j≤k∧i=.int .i64 j∧Below W1.heap.size W1 wr∧Hid (∀(i:Nat) (h:i<l.length),i<j→Idn.lower l[i].name≠Idn.lower l[k].name)) (fun i _=>k-(intOf i).toNat)
   case atStart=>exact ⟨0,Nat.zero_le _,rfl,Below.refl _ _,by intro i h hi;omega⟩
   case round=>
    obtain ⟨j,hj,rfl,hb2,hne⟩:=hrel
    have hbw2:=hbw1.trans (hb2.mono hbw1.size)
    have D0:=cell_later hb2 d0
    have D1:=cell_later hb2 d1
    by_cases hjk:j<k
    ·have hjl:j<l.length:=by omega
     have hjI:(j:Int)<(k:Int):=by omega
     obtain ⟨b',off',va',hbo,hbl',c0',c1',hva'⟩:=AttsV.cell (AttsV.keep hv hbw2) hjl
     injection hbo with hbo
     injection hbo with hb1e hb2e
     subst hb1e hb2e
     obtain ⟨Av',cv',rfl,hcv'⟩:=SlV.shape hva'
     have hn9':=(hs.2 l[j] (List.getElem_mem hjl)).1
     have hL1:=fun W=>lower_any (B l[k].name) W (by rw[Idn.size_B];omega)
     have hL2:=fun W=>lower_any (B l[j].name) W (by rw[Idn.size_B];omega)
     rw[Idn.L_B]at hL1 hL2
     have hsame:(((B (Idn.lower l[k].name)).toList==(B (Idn.lower l[j].name)).toList))=decide (Idn.lower l[j].name=Idn.lower l[k].name):=by
      rw[str_beq];exact decide_eq_decide.2 ⟨fun h=>h.symm,fun h=>h.symm⟩
     have HX:Hid (Idn.lower l[j].name=Idn.lower l[k].name→r=7):=fun h=>by
      have hi:(Idn.ixA (l.take k) l[k].name).isSome=true:=ixA_some (l:=l.take k) j (by rw[List.length_take];omega) (by simpa using h)
      have e7:Idn.attErr (l.take k) l[k]=7:=by rw[HA.out,if_pos hi]
      rw[S1.out (by rw[e7];decide),e7]
     generalize Idn.lower l[k].name=nk at *
     generalize hnj:Idn.lower l[j].name=nj at *
     have Hnj:=Lib.hid hnj
     clear hnj
     go_wp2
     with_reducible refine gen1 (R:=fun W=>Code.wp Tryz.prog _ _ _ W) ?_
     intro W3 hbW3 hszW3 hc3 _
     have x0:W3.cell? ⟨wr.heap.size,0,none⟩=some (.string (B l[j].name)):=hc3 0 _ rfl
     have y0:=cell_later hbW3 D0
     clear hc3
     have k0:=cell_regrown x0
     have k1:=cell_regrown y0
     have q1:=cq (W:=W3) fun W' _=>hL1 W'
     have q2:=cq (W:=W3) fun W' _=>hL2 W'
     by_cases he:nj=nk
     ·have HF:Hid (r=7):=HX.out he
      have ht:(((B nk).toList==(B nj).toList))=true:=by rw[hsame];exact decide_eq_true he
      clear hsame he
      refine wp_region_quiet_below (by kernel_rfl) (by kernel_rfl) ?_
      repeat (first|go_big_quiet_step ((go_at_call 125;first|with_reducible exact q1 _ _|with_reducible exact q2 _ _))|quiet_step ((go_at_call 125;first|with_reducible exact q1 _ _|with_reducible exact q2 _ _)))
      refine wpQuiet_nil ?_
      intro _ hw'
      obtain ⟨⟨dq,osq⟩,hw''⟩:=hw'
      subst hw''
      have hb4:=below_regrown W3 dq osq
      generalize grow (redrawn W3 dq) osq=W4 at hb4⊢
      go_wp2
      go_ret
      exact ⟨ret_int (by rw[HF.out]),hbw2.trans ((hbW3.trans (hb4.mono hbW3.size)).mono hbw2.size)⟩
     ·have ht:(((B nk).toList==(B nj).toList))=false:=by rw[hsame];exact decide_eq_false he
      have HN:Hid (∀(i:Nat) (h:i<l.length),i<j+1→Idn.lower l[i].name≠nk):=fun i h hi=>by
       by_cases hij:i=j
       ·subst hij;rw[Hnj.out];exact he
       ·exact hne.out i h (by omega)
      clear hsame he
      refine wp_region_quiet_below (by kernel_rfl) (by kernel_rfl) ?_
      repeat (first|go_big_quiet_step ((go_at_call 125;first|with_reducible exact q1 _ _|with_reducible exact q2 _ _))|quiet_step ((go_at_call 125;first|with_reducible exact q1 _ _|with_reducible exact q2 _ _)))
      refine wpQuiet_nil ?_
      intro _ hw'
      obtain ⟨⟨dq,osq⟩,hw''⟩:=hw'
      subst hw''
      have hb4:=below_regrown W3 dq osq
      generalize grow (redrawn W3 dq) osq=W4 at hb4⊢
      go_wp2
      go_roundw
      case rel=>exact ⟨j+1,by omega,by go_num,hb2.trans ((hbW3.trans (hb4.mono hbW3.size)).mono hb2.size),HN⟩
      case measure=>simp[intOf];omega
    ·have hjkI:¬(j:Int)<(k:Int):=by omega
     have hno:Idn.ixA (l.take k) l[k].name=none:=ixA_none fun i hi=>by
      rw[List.length_take]at hi
      rw[List.getElem_take]
      exact hne.out i (by omega) (by omega)
     have HB:Hid (Idn.attErr (l.take k) l[k]=if l[k].vals.length=0 then 6 else if 16<l[k].vals.length then 3 else Idn.valsErr [] l[k].vals):=by
      show _=_;rw[HA.out,hno];rfl
     clear hno hne HA
     by_cases n0:l[k].vals.length=0
     ·have he:Idn.attErr (l.take k) l[k]=6:=by rw[HB.out,if_pos n0]
      have HF:Hid (r=6):=by show _=_;rw[S1.out (by rw[he];decide),he]
      have e0:((l[k].vals.length:Int)==0)=true:=by rw[n0];rfl
      clear he n0
      go_wp2
      go_ret
      exact ⟨ret_int (by rw[HF.out]),hbw2⟩
     have e0:((l[k].vals.length:Int)==0)=false:=by rw[beq_eq_false_iff_ne];omega
     by_cases n1:16<l[k].vals.length
     ·have he:Idn.attErr (l.take k) l[k]=3:=by rw[HB.out,if_neg n0,if_pos n1]
      have HF:Hid (r=3):=by show _=_;rw[S1.out (by rw[he];decide),he]
      have e1:(16:Int)<(l[k].vals.length:Int):=by omega
      clear he n0 n1
      go_wp2
      go_ret
      exact ⟨ret_int (by rw[HF.out]),hbw2⟩
     have e1:(l[k].vals.length:Int)≤(16:Int):=by omega
     have he:Idn.attErr (l.take k) l[k]=Idn.valsErr [] l[k].vals:=by rw[HB.out,if_neg n0,if_neg n1]
     have hV:=hVs wr (hbW1.trans (hb2.mono hbW1.size))
     rw[←he]at hV
     clear hVs n0 n1 he HB
     by_cases hz:Idn.attErr (l.take k) l[k]=0
     ·have HF:Hid (r=Idn.attsErr (l.take (k+1)) (l.drop (k+1))):=S2.out hz
      rw[hz]at hV
      clear hz S1 S2
      go_wp2_with (go_at_call 129;refine hV.mono ?_;rintro e w5 ⟨rfl,hb5⟩)
      go_roundw
      case rel=>exact ⟨k+1,by omega,by go_num,hbw2.trans (hb5.mono hbw2.size),HF⟩
      case measure=>simp[intOf];omega
     ·have HF:Hid (r=Idn.attErr (l.take k) l[k]):=S1.out hz
      generalize Idn.attErr (l.take k) l[k]=ae at *
      have z1:(ae==0)=false:=by simpa using hz
      have z2:(ae !=0)=true:=by simpa using hz
      clear hz
      go_wp2_with (go_at_call 129;refine hV.mono ?_;rintro e w5 ⟨rfl,hb5⟩)
      go_ret
      exact ⟨ret_int (by rw[HF.out]),hbw2.trans (hb5.mono hbw2.size)⟩
  ·have HF:Hid (r=0):=by show _=_;rw[hinv.out,List.drop_eq_nil_of_le (by omega)];rfl
   have hltI:¬(k:Int)<(l.length:Int):=by omega
   clear hinv
   go_wp2
   go_ret
   exact ⟨ret_int (by rw[HF.out]),hb⟩
end Go.Proofs.YtbkkchhimhlhcaaGreatDoor
/- attrs: find's and Sorted's closures, slices.IndexFunc at attributes. -/
namespace Go.Proofs.YtbkkchhimhlhcaaGreatDoor
open Go.RowKit Go.Sort
open Idn (L B Bs drop_L take_L size_L)
def PredA (g:Nat) (lb:Array Value) (p:Bs×Nat→Bool) (l:List (Bs×Nat)) (w:World):Prop:=
 ∀(W:World) (x:Bs×Nat) (A:Option Addr) (c:Nat),x∈l→Below w.heap.size w W→Calls Tryz.prog g (#[.agg #[.string (B x.1),.slice A x.2 c]]++lb) W fun e w'=>e=.returned (.bool (p x))∧Below W.heap.size W w'
def EN (x:Bs×Nat) (cs:List Value):Prop:=∃A c,cs=[sv x.1,.slice A x.2 c]
abbrev NamesV (w:World) (hi:Nat) (v:Value) (l:List (Bs×Nat)):Prop:=SlV EN w hi 2 v l
theorem NamesV.cell {w : World} {hi : Nat} {A : Option Addr} {n c : Nat} {l : List (Bs × Nat)} (h : NamesV w hi (.slice A n c) l) {k : Nat} (hk : k < l.length) :
  ∃b off A' c',A=some ⟨b,off,none⟩∧b<hi∧w.cell? ⟨b,off+k*2,none⟩=some (.string (B l[k].1))∧w.cell? ⟨b,off+k*2+1,none⟩=some (.slice A' l[k].2 c'):=by
 obtain ⟨b,off,hA,hb,cs,h1,⟨A',c',h2⟩,h3⟩:=h.at_ hk
 subst h2
 exact ⟨b,off,A',c',hA,hb,by simpa[sv]using h3 0 _ rfl,by simpa[Nat.add_assoc]using h3 1 _ rfl⟩
def idxP {α:Type} (p:α→Bool) (l:List α):Int:=match l.findIdx? p with|none=>-1|some k=>k
theorem idxP_none {α:Type} {p:α→Bool} {l:List α} (h:l.findIdx? p=none):idxP p l = -1:=by rw[idxP,h]
theorem idxP_some {α:Type} {p:α→Bool} {l:List α} {k:Nat} (h:l.findIdx? p=some k):idxP p l=k:=by rw[idxP,h]
theorem idxP_drop {α : Type} (p : α → Bool) (l : List α) (k : Nat) (hk : k < l.length) (h : l.findIdx? p = ((l.drop k).findIdx? p).map (· + k)) :
  (p l[k]=true→l.findIdx? p=some k)∧(p l[k]=false→l.findIdx? p=((l.drop (k+1)).findIdx? p).map (·+(k+1))):=by
 rw[List.drop_eq_getElem_cons hk,List.findIdx?_cons]at h
 constructor
 ·intro hp;rw[hp]at h;simpa using h
 ·intro hp;rw[hp]at h;rw[h];simp[Function.comp_def,Nat.add_assoc,Nat.add_comm 1 k]
theorem idxA_any (g : Nat) (lb : Array Value) (eg : FnB g) (p : Bs × Nat → Bool) (v : Value) (l : List (Bs × Nat)) (w : World) (hv : NamesV w w.heap.size v l) (hl : l.length ≤ 1000000000) (hp : PredA g lb p l w) :
  Calls Tryz.prog 131 #[v,.func (.func g) #[] lb] w fun e w'=>e=.returned (.int .i64 (idxP p l))∧Below w.heap.size w w':=by
 obtain ⟨A,ca,rfl,hca⟩:=SlV.shape hv
 unfold FnB at eg
 generalize hr:idxP p l=r
 have hR:=Lib.hid hr
 clear hr
 go_enter Tryz.func131,Tryz.ntmps131
 go_wp2
 go_loopw [5,8] (fun _ i wr=>∃k:Nat,k≤l.length∧i=.int .i64 k∧Below w.heap.size w wr∧Hid (l.findIdx? p=((l.drop k).findIdx? p).map (·+k))) (fun _ i _=>l.length-(intOf i).toNat)
 case atStart=>exact ⟨0,Nat.zero_le _,rfl,Below.refl _ _,by show _=_;simp⟩
 case round=>
  obtain ⟨k,hk,rfl,hb,hinv⟩:=hrel
  by_cases hlt:k<l.length
  ·obtain ⟨b,off,A',c',rfl,hbl,c0,c1⟩:=NamesV.cell (SlV.keep hv hb) hlt
   have hcall:=hp wr l[k] A' c' (List.getElem_mem hlt) hb
   have hltI:(k:Int)<(l.length:Int):=by omega
   have hfd:=idxP_drop p l k hlt hinv.out
   clear hp hinv
   cases hq:p l[k]
   ·have HF:Hid (l.findIdx? p=((l.drop (k+1)).findIdx? p).map (·+(k+1))):=hfd.2 hq
    rw[hq]at hcall
    clear hfd hq
    go_wp2_with (refine hcall.mono ?_;rintro e w' ⟨rfl,hb'⟩)
    go_roundw
    case rel=>exact ⟨k+1,by omega,by go_num,hb.trans (hb'.mono hb.size),HF⟩
    case measure=>simp[intOf];omega
   ·have HF:Hid (r=k):=by show _=_;rw[←hR.out,idxP_some (hfd.1 hq)]
    rw[hq]at hcall
    clear hfd hq
    go_wp2_with (refine hcall.mono ?_;rintro e w' ⟨rfl,hb'⟩)
    go_ret
    exact ⟨ret_int (by rw[HF.out]),hb.trans (hb'.mono hb.size)⟩
  ·have HF:Hid (r = -1):=by show _=_;rw[←hR.out,idxP_none];rw[hinv.out,List.drop_eq_nil_of_le (by omega)];rfl
   have hltI:¬(k:Int)<(l.length:Int):=by omega
   go_wp2
   go_ret
   exact ⟨ret_int (by rw[HF.out]),hb⟩
def CLOS (f:Nat):Prop:=∀(x:Bs) (A:Option Addr) (n c q:Nat) (nm:ByteArray) (w:World),w.cell? ⟨q,0,none⟩=some (.string nm)→
 Calls Tryz.prog f #[.agg #[.string (B x),.slice A n c],.pointer (some ⟨q,0,none⟩)] w fun e w'=>e=.returned (.bool (decide (x=L nm)))∧Below w.heap.size w w'
theorem find1_any:CLOS 259:=by
 intro x A n c q nm w hc
 have hq:q<w.heap.size:=World.block_lt_of_cell? _ _ hc
 have ht:((B x).toList==nm.toList)=decide (x=L nm):=by rw[str_beq,Idn.L_B]
 generalize decide (x=L nm)=d at *
 generalize B x=bx at *
 go_enter Tryz.func259,Tryz.ntmps259
 go_wp2
 go_ret
 exact ⟨rfl,(Below.refl _ _).alloc (Nat.le_refl _) _⟩
theorem sorted1_any:CLOS 132:=by
 intro x A n c q nm w hc
 have hq:q<w.heap.size:=World.block_lt_of_cell? _ _ hc
 have ht:((B x).toList==nm.toList)=decide (x=L nm):=by rw[str_beq,Idn.L_B]
 generalize decide (x=L nm)=d at *
 generalize B x=bx at *
 go_enter Tryz.func132,Tryz.ntmps132
 go_wp2
 go_ret
 exact ⟨rfl,(Below.refl _ _).alloc (Nat.le_refl _) _⟩
theorem fn_find1:FnB 259:=by intro a w;kernel_rfl
theorem fn_sorted1:FnB 132:=by intro a w;kernel_rfl
theorem fn_sorted2:FnB 134:=by intro a w;kernel_rfl
theorem fn_sorted3:FnB 138:=by intro a w;kernel_rfl
theorem CLOS.pred {f:Nat} (h:CLOS f) (q:Nat) (nm:ByteArray) (l:List (Bs×Nat)) (w:World) (hc:w.cell? ⟨q,0,none⟩=some (.string nm)):PredA f #[.pointer (some ⟨q,0,none⟩)] (fun x=>decide (x.1=L nm)) l w:=
 fun W x A c _ hb=>h x.1 A x.2 c q nm W (cell_later hb hc)
theorem sorted2_any (x:Bs) (A:Option Addr) (n c:Nat) (w:World):Calls Tryz.prog 134 #[.agg #[.string (B x),.slice A n c]] w fun e w'=>e=.returned (.bool ((n:Int)==0))∧Below w.heap.size w w':=by
 go_enter Tryz.func134,Tryz.ntmps134
 go_wp2
 go_ret
 exact ⟨rfl,(Below.refl _ _).alloc (Nat.le_refl _) _⟩
theorem AttsV.names {w:World} {hi:Nat} {v:Value} {l:List Idn.Att} (h:AttsV w hi v l):NamesV w hi v (l.map fun a=>(a.name,a.vals.length)):=by
 obtain ⟨A,c,hv,hc,h⟩:=h
 refine ⟨A,c,by rw[hv,List.length_map],by simpa using hc,fun hp=>?_⟩
 obtain ⟨b,off,hA,hbb,hx⟩:=h (by simpa using hp)
 refine ⟨b,off,hA,hbb,fun i x hix=>?_⟩
 rw[List.getElem?_map]at hix
 obtain ⟨a,ha,rfl⟩:=Option.map_eq_some_iff.1 hix
 obtain ⟨cs,h1,⟨u,h2,h4⟩,h3⟩:=hx i a ha
 obtain ⟨A',c',hu,_⟩:=h4.shape
 exact ⟨cs,h1,⟨A',c',by rw[h2,hu]⟩,h3⟩
theorem find_any (v : Value) (l : List Idn.Att) (n : ByteArray) (w : World) (hv : AttsV w w.heap.size v l) (hl : l.length ≤ 1000000000) (hn : n.size ≤ 1000000000) :
  Calls Tryz.prog 198 #[v,.string n] w fun e w'=>e=.returned (.int .i64 (idxP (fun a:Idn.Att=>decide (a.name=Idn.lower (L n))) l))∧Below w.heap.size w w':=by
 have hL:=lower_any n w (by omega)
 have hI:=fun (W:World) (hW:Below w.heap.size w W) (q:Nat) (hc:W.cell? ⟨q,0,none⟩=some (.string (B (Idn.lower (L n)))))=>
  idxA_any 259 #[.pointer (some ⟨q,0,none⟩)] fn_find1 _ v (l.map fun a=>(a.name,a.vals.length)) W (SlV.mono (SlV.keep hv.names hW) hW.size) (by simpa using hl) (find1_any.pred q _ _ W hc)
 have he:idxP (fun x:Bs×Nat=>decide (x.1=L (B (Idn.lower (L n))))) (l.map fun a=>(a.name,a.vals.length))=idxP (fun a:Idn.Att=>decide (a.name=Idn.lower (L n))) l:=by
  unfold idxP
  rw[findIdx_map];rfl
 rw[he]at hI
 generalize idxP (fun a:Idn.Att=>decide (a.name=Idn.lower (L n))) l=r at *
 clear he
 obtain ⟨A,c,rfl,hc⟩:=SlV.shape hv
 clear hv
 go_enter Tryz.func198,Tryz.ntmps198
 go_wp2_with fail
 refine hL.mono ?_
 rintro e w1 ⟨rfl,hb1⟩
 clear hL
 generalize B (Idn.lower (L n))=nm at *
 go_wp2_with fail
 with_reducible refine gen1 (R:=fun W=>Calls Tryz.prog 131 _ W _) ?_
 intro W hbW hszW hc1 _
 have q0:W.cell? ⟨w1.heap.size,0,none⟩=some (.string nm):=hc1 0 _ rfl
 have hbw:=hb1.trans (hbW.mono hb1.size)
 refine (hI W hbw w1.heap.size q0).mono ?_
 rintro e w2 ⟨rfl,hb2⟩
 clear hI hc1
 go_wp2
 go_ret
 exact ⟨rfl,hbw.trans (hb2.mono hbw.size)⟩
end Go.Proofs.YtbkkchhimhlhcaaGreatDoor
/- Attributes that a call owns: a row of structs, each with a row of its own. -/
namespace Go.Proofs.YtbkkchhimhlhcaaGreatDoor
open Go.RowKit Go.Sort
open Idn (L B Bs drop_L take_L size_L)
def rowA (ps:List (Idn.Att×Value)):List Value:=ps.flatMap fun p=>[sv p.1.name,p.2]
def Apart (p q:Idn.Att×Value):Prop:=∀g,p.2.ownBlock=some g→q.2.ownBlock≠some g
def AttOwn (w:World) (base:Nat) (v:Value) (ps:List (Idn.Att×Value)):Prop:=
 w.ownsRow base 96 2 v ps.length (rowA ps)∧(∀p∈ps,w.ownsRow base 9 1 p.2 p.1.vals.length (p.1.vals.map sv))∧ps.Pairwise Apart
theorem rowA_at:∀(ps:List (Idn.Att×Value)) (i:Nat) (p:Idn.Att×Value),ps[i]?=some p→(rowA ps)[i*2]?=some (sv p.1.name)∧(rowA ps)[i*2+1]?=some p.2
 |[],i,p,h=>by simp at h
 |q :: ps,0,p,h=>by simp at h;subst h;exact ⟨rfl,rfl⟩
 |q :: ps,i+1,p,h=>by
  have:=rowA_at ps i p (by simpa using h)
  have e:rowA (q :: ps)=sv q.1.name :: q.2 :: rowA ps:=rfl
  rw[e,show (i+1)*2=i*2+1+1 by omega,show i*2+1+1+1=(i*2+1)+1+1 by omega]
  simpa using this
theorem rowA_set:∀(ps:List (Idn.Att×Value)) (i:Nat) (p:Idn.Att×Value) (a:Idn.Att) (u:Value),ps[i]?=some p→a.name=p.1.name→rowA (ps.set i (a,u))=(rowA ps).set (i*2+1) u
 |[],i,p,a,u,h,_=>by simp at h
 |q :: ps,0,p,a,u,h,hn=>by
  simp at h;subst h
  show sv a.name :: u :: rowA ps=_
  rw[hn];rfl
 |q :: ps,i+1,p,a,u,h,hn=>by
  have:=rowA_set ps i p a u (by simpa using h) hn
  show sv q.1.name :: q.2 :: rowA (ps.set i (a,u))=(sv q.1.name :: q.2 :: rowA ps).set ((i+1)*2+1) u
  rw[this,show (i+1)*2+1=(i*2+1)+1+1 by omega]
  rfl
theorem rowA_len (ps:List (Idn.Att×Value)):(rowA ps).length=ps.length*2:=by
 induction ps with
 |nil=>rfl
 |cons q ps ih=>show (sv q.1.name :: q.2 :: rowA ps).length=_;simp[ih];omega
theorem own_set {w : World} {base : Nat} {e : TypeId} {size : Nat} {n : Nat} {xs : List Value} {g cap : Nat} (h : w.ownsRow base e size (.slice (some ⟨g, 0, none⟩) n cap) n xs) (j : Nat) (hj : j < n * size) (u : Value) :
  (w.setCell ⟨g,j,none⟩ u).ownsRow base e size (.slice (some ⟨g,0,none⟩) n cap) n (xs.set j u):=by
 refine ⟨by rw[List.length_set];exact h.1,?_⟩
 rcases h.2 with ⟨hn,_⟩|⟨g',cap',cur,hv,hb,hgg,h1,h2,h3,h4⟩
 ·cases hn
 ·injection hv with hv1 hv2 hv3
  injection hv1 with hv1
  injection hv1 with hv1
  subst hv1 hv3
  refine .inr ⟨g,cap,cur.setIfInBounds j u,rfl,hb,by simp[World.setCell,Array.getElem?_modify,hgg],h1,h2,by simpa using h3,?_⟩
  rw[Array.toList_setIfInBounds,←h4,List.take_set]
theorem own_apart {w:World} {base:Nat} {e e':TypeId} {size size':Nat} {v v':Value} {n n':Nat} {xs xs':List Value} (h:w.ownsRow base e size v n xs) (h':w.ownsRow base e' size' v' n' xs') (hne:e≠e'):∀g,v.ownBlock=some g→v'.ownBlock≠some g:=by
 rcases h.2 with ⟨rfl,_⟩|⟨g1,cap,cur,rfl,_,hg,_⟩
 ·intro g hg;simp[Value.ownBlock]at hg
 ·rcases h'.2 with ⟨rfl,_⟩|⟨g2,cap2,cur2,rfl,_,hg2,_⟩
  ·intro g _;simp[Value.ownBlock]
  ·intro g h1 h2
   simp[Value.ownBlock]at h1 h2
   subst h1 h2
   rw[hg]at hg2
   injection hg2 with hg2
   injection hg2 with _ ht
   exact hne ht
theorem own_kept {w w':World} {base:Nat} {e:TypeId} {size:Nat} {v:Value} {n:Nat} {xs:List Value} {row:Option Nat} (h:w.ownsRow base e size v n xs) (hg:w.grownBy w' row) (hr:∀g,v.ownBlock=some g→row≠some g):w'.ownsRow base e size v n xs:=by
 refine ⟨h.1,?_⟩
 rcases h.2 with hn|⟨g,cap,cur,hv,hb,hgg,rest⟩
 ·exact .inl hn
 ·exact .inr ⟨g,cap,cur,hv,hb,(hg.block g (Array.getElem?_eq_some_iff.1 hgg).1 (fun e=>hr g (by rw[hv];rfl) e.symm)).trans hgg,rest⟩
theorem AttOwn.keep {w w':World} {base:Nat} {v:Value} {ps:List (Idn.Att×Value)} (h:AttOwn w base v ps) (hb:Below w.heap.size w w'):AttOwn w' base v ps:=
 ⟨own_below h.1 hb,fun p hp=>own_below (h.2.1 p hp) hb,h.2.2⟩
theorem AttOwn.nil (w:World) (base:Nat):AttOwn w base (.slice none 0 0) []:=⟨World.ownsRow_nil _ _ _ _,by simp,List.Pairwise.nil⟩
theorem AttOwn.names {w:World} {base:Nat} {v:Value} {ps:List (Idn.Att×Value)} (h:AttOwn w base v ps):NamesV w w.heap.size v (ps.map fun p=>(p.1.name,p.1.vals.length)):=by
 have h0:=h.1
 rw[show ps.length=(ps.map fun p=>(p.1.name,p.1.vals.length)).length by simp]at h0
 refine SlV.own h0 fun i x hx=>?_
 rw[List.getElem?_map]at hx
 obtain ⟨p,hp,rfl⟩:=Option.map_eq_some_iff.1 hx
 obtain ⟨e1,e2⟩:=rowA_at ps i p hp
 obtain ⟨A,c,hu⟩:=own_shape (h.2.1 p (List.mem_of_getElem? hp))
 refine ⟨[sv p.1.name,p.2],rfl,⟨A,c,by rw[hu]⟩,fun j u hj=>?_⟩
 match j,hj with
 |0,hj=>simp at hj;subst hj;exact e1
 |1,hj=>simp at hj;subst hj;exact e2
theorem AttOwn.push {w w':World} {base:Nat} {v v':Value} {ps:List (Idn.Att×Value)} {n:Bs} (h:AttOwn w base v ps) (hown:w'.ownsRow base 96 2 v' (ps.length+1) (rowA ps++[sv n,.slice none 0 0])) (hg:w.grownBy w' v.ownBlock):AttOwn w' base v' (ps++[(⟨n,[]⟩,.slice none 0 0)]):=by
 refine ⟨?_,?_,?_⟩
 ·rw[List.length_append,rowA,List.flatMap_append];exact hown
 ·intro p hp
  rcases List.mem_append.1 hp with hp|hp
  ·exact own_kept (h.2.1 p hp) hg fun g h1 h2=>own_apart h.1 (h.2.1 p hp) (by decide) g h2 h1
  ·simp at hp;subst hp;exact World.ownsRow_nil _ _ _ _
 ·rw[List.pairwise_append]
  refine ⟨h.2.2,by simp,fun p _ q hq g _=>?_⟩
  simp at hq;subst hq;simp[Value.ownBlock]
theorem Apart.symm {p q:Idn.Att×Value} (h:Apart p q):Apart q p:=fun g h1 h2=>h g h2 h1
theorem AttOwn.apart {ps:List (Idn.Att×Value)} (h:ps.Pairwise Apart) {i j:Nat} (hi:i<ps.length) (hj:j<ps.length) (hne:i≠j):Apart ps[i] ps[j]:=by
 rw[List.pairwise_iff_getElem]at h
 rcases Nat.lt_or_ge i j with hl|hl
 ·exact h i j hi hj hl
 ·exact Apart.symm (h j i hj hi (by omega))
theorem AttOwn.put {w w' : World} {base : Nat} {g n cap : Nat} {ps : List (Idn.Att × Value)} {i : Nat} {p : Idn.Att × Value} {u' : Value} {vals : List Bs} (h : AttOwn w base (.slice (some ⟨g, 0, none⟩) n cap) ps) (hi : ps[i]? = some p)
  (hown:w'.ownsRow base 9 1 u' vals.length (vals.map sv)) (hg:w.grownBy w' p.2.ownBlock) (hat:u'.ownBlock=p.2.ownBlock∨u'.ownBlock=some w.heap.size) :
  w'.cell? ⟨g,i*2+1,none⟩=some p.2∧w'.frozen? ⟨g,i*2+1,none⟩=false∧AttOwn (w'.setCell ⟨g,i*2+1,none⟩ u') base (.slice (some ⟨g,0,none⟩) n cap) (ps.set i (⟨p.1.name,vals⟩,u')):=by
 have hil:=(List.getElem?_eq_some_iff.1 hi).1
 have hpm:=List.mem_of_getElem? hi
 have hnn:n=ps.length:=by
  rcases h.1.2 with ⟨hn,_⟩|⟨g',cap',cur,hv,_⟩
  ·cases hn
  ·injection hv
 subst hnn
 have h1:=own_kept h.1 hg fun k hk hk'=>own_apart h.1 (h.2.1 p hpm) (by decide) k hk hk'
 have e:∀j,((⟨g,0,none⟩:Addr).add j)=⟨g,j,none⟩:=fun j=>by unfold Addr.add;split<;>simp_all
 have hc:=fun j u hj=>(e j)▸h1.cells (g:=g) rfl j u hj
 have hblk:∀k,(Value.slice (some ⟨g,0,none⟩) ps.length cap).ownBlock=some k→k=g:=fun k hk=>by simp[Value.ownBlock]at hk;exact hk.symm
 have hsep:∀q∈ps,q.2.ownBlock≠some g:=fun q hq hx=>own_apart h.1 (h.2.1 q hq) (by decide) g rfl hx
 have hu'g:u'.ownBlock≠some g:=fun hx=>own_apart h1 hown (by decide) g rfl hx
 refine ⟨hc _ _ (rowA_at ps i p hi).2,?_,?_,?_,?_⟩
 ·rcases h1.2 with ⟨hn,_⟩|⟨g',cap',cur,hv,_,hgg,_⟩
  ·cases hn
  ·injection hv with hv1
   injection hv1 with hv1
   injection hv1 with hv1
   subst hv1
   exact Lib.frozen_of_heap hgg _
 ·rw[List.length_set,rowA_set ps i p ⟨p.1.name,vals⟩ u' hi rfl]
  exact own_set h1 (i*2+1) (by omega) u'
 ·intro q hq
  obtain ⟨j,hj,rfl⟩:=List.getElem_of_mem hq
  rw[List.length_set]at hj
  rw[List.getElem_set]
  by_cases hij:i=j
  ·rw[if_pos hij]
   exact ownsRow_setCell_other hown (a:=⟨g,i*2+1,none⟩) hu'g u'
  ·rw[if_neg hij]
   have hq':=List.getElem_mem hj
   refine ownsRow_setCell_other (own_kept (h.2.1 _ hq') hg fun k hk hk'=>?_) (a:=⟨g,i*2+1,none⟩) (hsep _ hq') u'
   have:=AttOwn.apart h.2.2 hil hj hij
   rw[(List.getElem?_eq_some_iff.1 hi).2]at this
   exact this k hk' hk
 ·rw[List.pairwise_iff_getElem]
  intro a b ha hb hab
  rw[List.length_set]at ha hb
  have key:∀j (hj:j<ps.length),i≠j→Apart (⟨p.1.name,vals⟩,u') ps[j]:=fun j hj hij k hk=>by
   rcases hat with hat|hat
   ·have:=AttOwn.apart h.2.2 hil hj hij
    rw[(List.getElem?_eq_some_iff.1 hi).2]at this
    exact this k (by rw[←hat];exact hk)
   ·have hk':w.heap.size=k:=by have:=hat.symm.trans hk;injection this
    intro hx
    have:=own_lt (h.2.1 _ (List.getElem_mem hj)) hx
    omega
  rw[List.getElem_set,List.getElem_set]
  by_cases ia:i=a
  ·rw[if_pos ia,if_neg (by omega)]
   exact key b hb (by omega)
  ·rw[if_neg ia]
   by_cases ib:i=b
   ·rw[if_pos ib]
    exact Apart.symm (key a ha (by omega))
   ·rw[if_neg ib]
    exact AttOwn.apart h.2.2 ha hb (by omega)
theorem AttOwn.grow {w w' : World} {base : Nat} {g n cap : Nat} {ps : List (Idn.Att × Value)} {i : Nat} {p : Idn.Att × Value} {u' : Value} {vals : List Bs} (h : AttOwn w base (.slice (some ⟨g, 0, none⟩) n cap) ps) (hi : ps[i]? = some p)
  (hown:w'.ownsRow base 9 1 u' (p.1.vals.length+vals.length) (p.1.vals.map sv++vals.map sv)) (hg:w.grownBy w' p.2.ownBlock) (hat:u'.ownBlock=p.2.ownBlock∨u'.ownBlock=some w.heap.size) :
  w'.cell? ⟨g,i*2+1,none⟩=some p.2∧w'.frozen? ⟨g,i*2+1,none⟩=false∧AttOwn (w'.setCell ⟨g,i*2+1,none⟩ u') base (.slice (some ⟨g,0,none⟩) n cap) (ps.set i (⟨p.1.name,p.1.vals++vals⟩,u')):=
 h.put hi (by rw[List.length_append,List.map_append];exact hown) hg hat
theorem AttOwn.turn {w w' : World} {base : Nat} {v : Value} {ps : List (Idn.Att × Value)} {i : Nat} {p : Idn.Att × Value} {vals : List Bs} (h : AttOwn w base v ps) (hi : ps[i]? = some p)
  (hown:w'.ownsRow base 9 1 p.2 vals.length (vals.map sv)) (hg:w.grownBy w' p.2.ownBlock):AttOwn w' base v (ps.set i (⟨p.1.name,vals⟩,p.2)):=by
 have hil:=(List.getElem?_eq_some_iff.1 hi).1
 have hpe:=(List.getElem?_eq_some_iff.1 hi).2
 have hpm:=List.mem_of_getElem? hi
 refine ⟨?_,?_,?_⟩
 ·rw[List.length_set,rowA_set ps i p ⟨p.1.name,vals⟩ p.2 hi rfl]
  have e:(rowA ps).set (i*2+1) p.2=rowA ps:=by
   obtain ⟨hl,he⟩:=List.getElem?_eq_some_iff.1 (rowA_at ps i p hi).2
   rw[←he];exact List.set_getElem_self hl
  rw[e]
  exact own_kept h.1 hg fun k hk hk'=>own_apart h.1 (h.2.1 p hpm) (by decide) k hk hk'
 ·intro q hq
  obtain ⟨j,hj,rfl⟩:=List.getElem_of_mem hq
  rw[List.length_set]at hj
  rw[List.getElem_set]
  by_cases hij:i=j
  ·rw[if_pos hij];exact hown
  ·rw[if_neg hij]
   refine own_kept (h.2.1 _ (List.getElem_mem hj)) hg fun k hk hk'=>?_
   have:=AttOwn.apart h.2.2 hil hj hij
   rw[hpe]at this
   exact this k hk' hk
 ·rw[List.pairwise_iff_getElem]
  intro a b ha hb hab
  rw[List.length_set]at ha hb
  have key:∀j (hj:j<ps.length),i≠j→Apart (⟨p.1.name,vals⟩,p.2) ps[j]:=fun j hj hij k hk=>by
   have:=AttOwn.apart h.2.2 hil hj hij
   rw[hpe]at this
   exact this k hk
  rw[List.getElem_set,List.getElem_set]
  by_cases ia:i=a
  ·rw[if_pos ia,if_neg (by omega)]
   exact key b hb (by omega)
  ·rw[if_neg ia]
   by_cases ib:i=b
   ·rw[if_pos ib]
    exact Apart.symm (key a ha (by omega))
   ·rw[if_neg ib]
    exact AttOwn.apart h.2.2 ha hb (by omega)
theorem AttOwn.cell {w : World} {base : Nat} {g n cap : Nat} {ps : List (Idn.Att × Value)} {i : Nat} {p : Idn.Att × Value} (h : AttOwn w base (.slice (some ⟨g, 0, none⟩) n cap) ps) (hi : ps[i]? = some p) :
  w.cell? ⟨g,i*2,none⟩=some (sv p.1.name)∧w.cell? ⟨g,i*2+1,none⟩=some p.2∧(∀j,w.frozen? ⟨g,j,none⟩=false)∧base≤g:=by
 have e:∀j,((⟨g,0,none⟩:Addr).add j)=⟨g,j,none⟩:=fun j=>by unfold Addr.add;split<;>simp_all
 have hc:=fun j u hj=>(e j)▸h.1.cells (g:=g) rfl j u hj
 refine ⟨hc _ _ (rowA_at ps i p hi).1,hc _ _ (rowA_at ps i p hi).2,fun j=>?_,(h.1.lt g rfl).1⟩
 rcases h.1.2 with ⟨hn,_⟩|⟨g',cap',cur,hv,_,hgg,_⟩
 ·cases hn
 ·injection hv with hv1
  injection hv1 with hv1
  injection hv1 with hv1
  subst hv1
  exact Lib.frozen_of_heap hgg _
end Go.Proofs.YtbkkchhimhlhcaaGreatDoor
/- slices.Sort and slices.Compact at an owned row of strings; slices.DeleteFunc where nothing is deleted. -/
namespace Go.Proofs.YtbkkchhimhlhcaaGreatDoor
open Go.RowKit Go.Sort
open Idn (L B Bs drop_L take_L size_L)
theorem sort_own (g cap : Nat) (q : List Bs) (base : Nat) (w : World) (hown : w.ownsRow base 9 1 (.slice (some ⟨g, 0, none⟩) q.length cap) q.length (q.map sv)) (hpos : 0 < q.length) (hlen : q.length ≤ 1000000000) (hb : base ≤ w.heap.size) :
  Calls Tryz.prog 135 #[.slice (some ⟨g,0,none⟩) q.length cap] w fun e w'=>e=.returned (.tuple #[])∧w'.ownsRow base 9 1 (.slice (some ⟨g,0,none⟩) q.length cap) q.length ((sorted q).map sv)∧w.grownBy w' (some g):=by
 rcases hown.2 with ⟨hnil,hn0⟩|⟨g',cap',cur,hu,hbase,hbk,h1,h2,h3,h4⟩
 ·omega
 injection hu with hu1 hu2 hu3
 injection hu1 with hu1
 injection hu1 with hu1
 subst hu1 hu3
 have hh:Holds encStr w g 0 q.toArray:=holds_of_block hbk (by have:=h4;rw[Nat.mul_one]at this;exact this)
 have hsl:(sorted q).length=q.length:=by simp[sorted]
 refine (Tryz.slices_Sort_string g 0 cap q w hh (Array.getElem?_eq_some_iff.1 hbk).1 (by omega)).mono ?_
 rintro e w2 ⟨rfl,n,os,rfl⟩
 exact ⟨rfl,ownsRow_sorted hsl hbase hbk h1 h2 h3,grownBy_sorted _⟩
theorem compact_own (g cap : Nat) (q : List Bs) (base : Nat) (w : World) (hown : w.ownsRow base 9 1 (.slice (some ⟨g, 0, none⟩) q.length cap) q.length (q.map sv)) (hpos : 0 < q.length) (hlen : q.length ≤ 1000000000) :
  Calls Tryz.prog 136 #[.slice (some ⟨g,0,none⟩) q.length cap] w fun e w'=>e=.returned (.slice (some ⟨g,0,none⟩) (Lib.compact q).length cap)∧w'.ownsRow base 9 1 (.slice (some ⟨g,0,none⟩) (Lib.compact q).length cap) (Lib.compact q).length ((Lib.compact q).map sv)∧w.grownBy w' (some g):=by
 rcases hown.2 with ⟨hnil,hn0⟩|⟨g',cap',cur,hu,hbase,hbk,h1,h2,h3,h4⟩
 ·omega
 injection hu with hu1 hu2 hu3
 injection hu1 with hu1
 injection hu1 with hu1
 subst hu1 hu3
 have hh:Holds encStr w g 0 q.toArray:=holds_of_block hbk (by have:=h4;rw[Nat.mul_one]at this;exact this)
 have hcl:=Lib.compact_length_le q
 refine (Tryz.slices_Compact_string g 0 cap q w hh (by omega) (by omega)).mono ?_
 rintro e w3 ⟨rfl,n,rfl⟩
 refine ⟨rfl,?_,?_⟩
 ·have e0:=(grow_empty (putRow encStr (Go.Sort.ahead w n) g 0 (Lib.compact q++List.replicate (q.length-(Lib.compact q).length) []).toArray)).symm
  rw[e0]
  have hlen:(Lib.compact q++List.replicate (q.length-(Lib.compact q).length) []).length=q.length:=by simp;omega
  refine ⟨by simp,.inr ⟨g,cap,_,rfl,hbase,heap_sorted _ hbk,by omega,h2,by simp[putCells,h3],?_⟩⟩
  have ht:=take_putCells cur (Lib.compact q++List.replicate (q.length-(Lib.compact q).length) []) (by omega)
  have ht2:=congrArg (List.take (Lib.compact q).length) ht
  rw[List.take_take,Nat.min_eq_left (by simp),←List.map_take,List.take_left' rfl]at ht2
  rw[Nat.mul_one]
  exact ht2
 ·have e0:=(grow_empty (putRow encStr (Go.Sort.ahead w n) g 0 (Lib.compact q++List.replicate (q.length-(Lib.compact q).length) []).toArray)).symm
  rw[e0]
  exact grownBy_sorted _
end Go.Proofs.YtbkkchhimhlhcaaGreatDoor
/- schema: Compare. -/
namespace Go.Proofs.YtbkkchhimhlhcaaGreatDoor
open Go.RowKit Go.Sort
open Idn (L B Bs drop_L take_L size_L)
def sComp (s:Idn.Sch) (n a b:Bs):Int×Int:=
 if (kNorm (sound s) n a).2.2 !=0 then (0,(kNorm (sound s) n a).2.2)
 else if (kNorm (sound s) n b).2.2 !=0 then (0,(kNorm (sound s) n b).2.2)
 else if (tyLook (sound s) n).1.syn=3 then (Lib.compareInt (Idn.readInt (kNorm (sound s) n a).2.1).1 (Idn.readInt (kNorm (sound s) n b).2.1).1,0)
 else if (tyLook (sound s) n).1.syn=4 then (cmpNm (kNorm (sound s) n a).2.1 (kNorm (sound s) n b).2.1,0)
 else (Lib.compareBytes (kNorm (sound s) n a).2.1 (kNorm (sound s) n b).2.1,0)
theorem kNorm_ty (s:Idn.Sch) (n v:Bs):(kNorm s n v).1=(tyLook s n).1:=by
 unfold kNorm;split
 ·rfl
 ·split<;>rfl
theorem kNorm_len (s:Idn.Sch) (n v:Bs) (h:v.length≤100000000):(kNorm s n v).2.1.length≤1000000000:=by
 unfold kNorm
 split
 ·simp
 ·split
  ·simp
  ·exact length_norm _ v h
theorem schCompare_any (u : Value) (s : Idn.Sch) (n v v2 : ByteArray) (w : World) (hu : SchV w w.heap.size u s) (hs : SSm s) (hE : Env w) (hU : EnvU w) (hn : n.size ≤ 1000000000) (hv : v.size ≤ 100000000) (hv2 : v2.size ≤ 100000000) :
  Calls Tryz.prog 187 #[u,.string n,.string v,.string v2] w fun e w'=>e=.returned (.tuple #[.int .i64 (sComp s (L n) (L v) (L v2)).1,.int .i64 (sComp s (L n) (L v) (L v2)).2])∧Below w.heap.size w w':=by
 have hLk:=fun W (hW:Below w.heap.size w W)=>look_any u s W (SchV.mono (SchV.keep hu hW) hW.size) hs
 obtain ⟨a,b,rfl,hT,hC⟩:=hu
 obtain ⟨A,ca,rfl,hca⟩:=SlV.shape hT
 obtain ⟨A',cb,rfl,hcb⟩:=SlV.shape hC
 clear hT hC
 generalize hrr:sComp s (L n) (L v) (L v2)=r at *
 have hty1:=kNorm_ty (sound s) (L n) (L v)
 have hty2:=kNorm_ty (sound s) (L n) (L v2)
 have hl1:=kNorm_len (sound s) (L n) (L v) (by have:=size_L v;omega)
 have hl2:=kNorm_len (sound s) (L n) (L v2) (by have:=size_L v2;omega)
 have HR0:Hid (r=if (kNorm (sound s) (L n) (L v)).2.2 !=0 then (0,(kNorm (sound s) (L n) (L v)).2.2)
  else if (kNorm (sound s) (L n) (L v2)).2.2 !=0 then (0,(kNorm (sound s) (L n) (L v2)).2.2)
  else if (tyLook (sound s) (L n)).1.syn=3 then (Lib.compareInt (Idn.readInt (kNorm (sound s) (L n) (L v)).2.1).1 (Idn.readInt (kNorm (sound s) (L n) (L v2)).2.1).1,0)
  else if (tyLook (sound s) (L n)).1.syn=4 then (cmpNm (kNorm (sound s) (L n) (L v)).2.1 (kNorm (sound s) (L n) (L v2)).2.1,0)
  else (Lib.compareBytes (kNorm (sound s) (L n) (L v)).2.1 (kNorm (sound s) (L n) (L v2)).2.1,0)):=hrr.symm
 clear hrr
 go_enter Tryz.func187,Tryz.ntmps187
 go_wp2_with fail
 with_reducible refine gen1 (R:=fun W=>Calls Tryz.prog 124 _ W _) ?_
 intro W hbW hszW _ _
 refine (hLk W hbW).mono ?_
 rintro e w1 ⟨m1,m2,rfl,hb1,hk⟩
 have hbw1:=hbW.trans (hb1.mono hbW.size)
 obtain ⟨es,h2,_⟩:=hk.2
 have hKN:=fun W' (hW:Below w1.heap.size w1 W')=>kNormal_any m1 m2 (sound s) n v W' (hk.1.keep hW) h2.shape (hE.keep (hbw1.trans (hW.mono hbw1.size))) (hU.keep (hbw1.trans (hW.mono hbw1.size))) hn hv
 have hKM:=fun W' (hW:Below w1.heap.size w1 W')=>kNormal_any m1 m2 (sound s) n v2 W' (hk.1.keep hW) h2.shape (hE.keep (hbw1.trans (hW.mono hbw1.size))) (hU.keep (hbw1.trans (hW.mono hbw1.size))) hn hv2
 obtain ⟨o1,rfl⟩:=hk.1.shape
 obtain ⟨o2,rfl⟩:=h2.shape
 clear hLk hk h2 hszW
 generalize kNorm (sound s) (L n) (L v)=kn at *
 generalize kNorm (sound s) (L n) (L v2)=km at *
 generalize tyLook (sound s) (L n)=tl at *
 obtain ⟨ty,no,ne⟩:=kn
 obtain ⟨ty2,mo,me⟩:=km
 dsimp only at hty1 hty2 hl1 hl2 HR0
 subst hty1 hty2
 obtain ⟨⟨ta,tb,tc⟩,td⟩:=tl
 unfold tyV at hKN hKM
 dsimp only[sv]at *
 go_wp2_with fail
 with_reducible refine gen1 (R:=fun W=>Calls Tryz.prog 184 _ W _) ?_
 intro W2 hbW2 hszW2 hc2 _
 have q0:W2.cell? ⟨w1.heap.size,0,none⟩=some (.map o1):=hc2 0 _ rfl
 have q1:W2.cell? ⟨w1.heap.size,1,none⟩=some (.map o2):=hc2 1 _ rfl
 clear hc2
 refine (hKN W2 hbW2).mono ?_
 rintro e w3 ⟨rfl,hb3⟩
 replace q0:=cell_later hb3 q0
 replace q1:=cell_later hb3 q1
 have hb13:Below w1.heap.size w1 w3:=hbW2.trans (hb3.mono hbW2.size)
 have hlq:w1.heap.size<w3.heap.size:=by have:=hb3.size;omega
 clear hKN hszW2 hbW2 hb3
 have hT3:=threeA w3 (.string (B ta)) (.int .i64 tb) (.bool tc) 89
 have ba3:=hb13.alloc hb13.size (.cells #[.string (B ta),.int .i64 tb,.bool tc] 89)
 have hbwa:=hbw1.trans (ba3.mono hbw1.size)
 by_cases hne:ne=0
 case neg=>
  have HF:Hid (r=(0,ne)):=by show _=_;rw[HR0.out,if_pos (by simpa using hne)]
  have e1:(ne==0)=false:=by simpa using hne
  have e2:(ne !=0)=true:=by simpa using hne
  clear hne HR0 hKM
  go_wp2
  go_ret2
  exact ⟨by rw[HF.out];rfl,hbwa⟩
 subst hne
 have hM:=hKM _ ba3
 clear hKM
 go_wp2_with fail
 refine hM.mono ?_
 rintro e w5 ⟨rfl,hb5⟩
 obtain ⟨⟨t0,t1,t2⟩,hgl⟩:=hT3.keep hb5
 have hbw5:=hbwa.trans (hb5.mono hbwa.size)
 have hlt5:w3.heap.size<w5.heap.size:=hgl
 clear hM hT3 q0 q1 hb5 ba3 hgl
 have hbw6:=hbw5.alloc hbw5.size (.cells #[.string (B ta),.int .i64 tb,.bool tc] 89)
 by_cases hme:me=0
 case neg=>
  have HF:Hid (r=(0,me)):=by show _=_;rw[HR0.out,if_neg (by decide),if_pos (by simpa using hme)]
  have e1:(me==0)=false:=by simpa using hme
  have e2:(me !=0)=true:=by simpa using hme
  clear hme HR0
  go_wp2
  go_ret2
  exact ⟨by rw[HF.out];rfl,hbw6⟩
 subst hme
 by_cases h3:tb=3
 ·have HF:Hid (r=(Lib.compareInt (Idn.readInt no).1 (Idn.readInt mo).1,0)):=by show _=_;rw[HR0.out,if_neg (by decide),if_neg (by decide),if_pos h3]
  have e3:(tb==3)=true:=by simpa using h3
  have hR1:=fun W (hW:Below w.heap.size w W)=>readInt_any (B no) W (hE.keep hW) (by rw[Idn.size_B];omega)
  have hR2:=fun W (hW:Below w.heap.size w W)=>readInt_any (B mo) W (hE.keep hW) (by rw[Idn.size_B];omega)
  rw[Idn.L_B]at hR1 hR2
  generalize Idn.readInt no=x1 at *
  generalize Idn.readInt mo=x2 at *
  obtain ⟨x1,y1⟩:=x1
  obtain ⟨x2,y2⟩:=x2
  dsimp only at *
  have hCI:=fun W=>(Tryz.cmp_Compare_int x1 x2 W).mono fun e w' ⟨h1,h2⟩=>(⟨h1,h2.symm⟩:_∧W=w')
  generalize Lib.compareInt x1 x2=ci at *
  clear h3 HR0
  go_wp2_with fail
  refine (hR1 _ hbw6).mono ?_
  rintro e w7 ⟨rfl,hb7⟩
  have hbw7:=hbw6.trans (hb7.mono hbw6.size)
  clear hR1
  go_wp2_with fail
  refine (hR2 _ hbw7).mono ?_
  rintro e w8 ⟨rfl,hb8⟩
  clear hR2
  go_wp2_with (go_at_call 113;refine (hCI _).mono ?_;rintro e w9 ⟨rfl,rfl⟩)
  go_ret2
  exact ⟨by rw[HF.out];rfl,hbw7.trans (hb8.mono hbw7.size)⟩
 by_cases h4:tb=4
 ·have HF:Hid (r=(cmpNm no mo,0)):=by show _=_;rw[HR0.out,if_neg (by decide),if_neg (by decide),if_neg h3,if_pos h4]
  have e3:(tb==3)=false:=by simpa using h3
  have e4:(tb==4)=true:=by simpa using h4
  have hCN:=fun W=>nm_compare_any (B no) (B mo) W (by rw[Idn.size_B];omega) (by rw[Idn.size_B];omega)
  simp only[Idn.L_B]at hCN
  generalize cmpNm no mo=cb at *
  clear h3 h4 HR0
  go_wp2_with fail
  refine (hCN _).mono ?_
  rintro e w7 ⟨rfl,hb7⟩
  go_wp2
  go_ret2
  exact ⟨by rw[HF.out];rfl,hbw6.trans (hb7.mono hbw6.size)⟩
 ·have HF:Hid (r=(Lib.compareBytes no mo,0)):=by show _=_;rw[HR0.out,if_neg (by decide),if_neg (by decide),if_neg h3,if_neg h4]
  have e3:(tb==3)=false:=by simpa using h3
  have e4:(tb==4)=false:=by simpa using h4
  have hCB:=fun W=>(Tryz.strings_Compare (B no) (B mo) W).mono fun e w' ⟨h1,h2⟩=>(⟨h1,h2.symm⟩:_∧W=w')
  have ec:Lib.compareBytes (B no).data.toList (B mo).data.toList=Lib.compareBytes no mo:=rfl
  rw[ec]at hCB
  generalize Lib.compareBytes no mo=cb at *
  clear h3 h4 HR0 ec
  go_wp2_with (go_at_call 235;refine (hCB _).mono ?_;rintro e w9 ⟨rfl,rfl⟩)
  go_ret2
  exact ⟨by rw[HF.out];rfl,hbw6⟩
end Go.Proofs.YtbkkchhimhlhcaaGreatDoor
/- identityref06: twice, checkValues, Check. -/
namespace Go.Proofs.YtbkkchhimhlhcaaGreatDoor
open Go.RowKit Go.Sort
open Idn (L B Bs drop_L take_L size_L)
def vErr (old:List Bs):List Bs→List Bs→Int
 |_,[]=>0
 |p,v :: l=>if Idn.clean v=false then 4 else if old.contains v=true then 7 else if p.contains v=true then 7 else vErr old (p++[v]) l
theorem vErr_nil:∀(l p:List Bs),vErr [] p l=Idn.valsErr p l
 |[],_=>rfl
 |v :: l,p=>by
  rw[vErr,Idn.valsErr,vErr_nil l]
  cases Idn.clean v<;>cases p.contains v<;>rfl
end Go.Proofs.YtbkkchhimhlhcaaGreatDoor
/- Plain law: normal forms of values are their own normal forms, and are totally ordered. -/
namespace Go.Proofs.YtbkkchhimhlhcaaGreatDoor
open Go.RowKit Go.Sort
open Idn (L B Bs Tot)
theorem normV_parts {x:Int} {v u:Bs} (h:Idn.normV x v=(u,true)):Idn.normSyn x v=(u,true)∧Idn.clean u=true:=by
 unfold Idn.normV at h
 injection h with h1 h2
 simp only[Bool.and_eq_true]at h2
 rw[h1]at h2
 exact ⟨Prod.ext h1 h2.1,h2.2.2⟩
theorem cmpB_eq (a:Bs):∀b,cmpB a b=Lib.compareBytes a b:=by
 induction a with
 |nil=>intro b;cases b<;>simp[cmpB,Lib.compareBytes]
 |cons x a ih=>
  intro b
  cases b with
  |nil=>simp[cmpB,Lib.compareBytes]
  |cons y b=>
   rw[Idn.cb_cons,←ih b]
   unfold cmpB
   simp only[List.cons_lt_cons_iff]
   by_cases h1:x<y
   ·simp[h1]
   ·by_cases h2:y<x
    ·have hne:¬x=y:=fun e=>by subst e;exact h1 h2
     have hne':¬y=x:=fun e=>hne e.symm
     simp[h1,h2,hne]
    ·have e:=Idn.u8_ext h1 h2
     subst e
     simp[h1]
theorem tot_cmpB:Tot cmpB:=by
 have:cmpB=Lib.compareBytes:=funext fun a=>funext fun b=>cmpB_eq a b
 rw[this];exact Idn.tot_bytes
theorem tot_pr:Tot cmpPr:=Idn.tot_pair tot_cmpB tot_cmpB
theorem cmpL_eqs:∀l m:List Idn.Pr,cmpL l m=Idn.cmpLs cmpPr l m
 |[],[]=>rfl
 |[],_ :: _=>rfl
 |_ :: _,[]=>rfl
 |p :: l,q :: m=>by rw[cmpL,Idn.cmpLs,cmpL_eqs l m]
theorem tot_cmpL:Tot cmpL:=by
 have:cmpL=Idn.cmpLs cmpPr:=funext fun a=>funext fun b=>cmpL_eqs a b
 rw[this];exact Idn.tot_list tot_pr
structure Ordr (f:Bs→Bs→Int) (N:Bs→Prop):Prop where
 rng:∀a b,N a→N b→f a b = -1∨f a b=0∨f a b=1
 neg:∀a b,N a→N b→f b a =-f a b
 eq:∀a b,N a→N b→(f a b=0↔a=b)
 tr:∀a b c,N a→N b→N c→f a b≤0→f b c≤0→f a c≤0
theorem Ordr.of_key {α:Type} {g:α→α→Int} (hg:Tot g) {f:Bs→Bs→Int} {N:Bs→Prop} (k:Bs→α) (hk:∀a b,N a→N b→f a b=g (k a) (k b)) (hi:∀a b,N a→N b→k a=k b→a=b):Ordr f N:=
 ⟨fun a b ha hb=>by rw[hk a b ha hb];exact hg.rng _ _,fun a b ha hb=>by rw[hk a b ha hb,hk b a hb ha];exact hg.neg _ _,
  fun a b ha hb=>by rw[hk a b ha hb,hg.eq];exact ⟨hi a b ha hb,fun e=>by rw[e]⟩,
  fun a b c ha hb hc h1 h2=>by rw[hk a b ha hb]at h1;rw[hk b c hb hc]at h2;rw[hk a c ha hc];exact hg.tr _ _ _ h1 h2⟩
end Go.Proofs.YtbkkchhimhlhcaaGreatDoor
/- slices.DeleteFunc at attributes that a call owns. -/
namespace Go.Proofs.YtbkkchhimhlhcaaGreatDoor
open Go.RowKit Go.Sort
open Idn (L B Bs drop_L take_L size_L)
def nmA (q:Idn.Att×Value):Bs×Nat:=(q.1.name,q.1.vals.length)
def PredG (g fn:Nat) (lb:Array Value) (p:Bs×Nat→Bool) (w:World):Prop:=
 ∀(W:World) (x:Bs×Nat) (A:Option Addr) (c:Nat),w.grownBy W (some g)→Calls Tryz.prog fn (#[.agg #[.string (B x.1),.slice A x.2 c]]++lb) W fun e w'=>e=.returned (.bool (p x))∧Below W.heap.size W w'
theorem grown_of_below {w W:World} (h:Below w.heap.size w W) (r:Option Nat):w.grownBy W r:=⟨h.os,h.tape,h.output,h.size,fun k hk _=>h.block k hk⟩
theorem PredG.pred {g fn:Nat} {lb:Array Value} {p:Bs×Nat→Bool} {w:World} (h:PredG g fn lb p w) (l:List (Bs×Nat)):PredA fn lb p l w:=fun W x A c _ hb=>h W x A c (grown_of_below hb _)
theorem rowA_set2:∀(ps:List (Idn.Att×Value)) (i:Nat) (p:Idn.Att×Value),i<ps.length→rowA (ps.set i p)=((rowA ps).set (i*2) (sv p.1.name)).set (i*2+1) p.2
 |[],i,p,h=>by simp at h
 |q :: ps,0,p,h=>rfl
 |q :: ps,i+1,p,h=>by
  have:=rowA_set2 ps i p (by simpa using h)
  show sv q.1.name :: q.2 :: rowA (ps.set i p)=((sv q.1.name :: q.2 :: rowA ps).set ((i+1)*2) _).set ((i+1)*2+1) _
  rw[this,show (i+1)*2+1=(i*2+1)+1+1 by omega,show (i+1)*2=i*2+1+1 by omega]
  rfl
theorem rowA_take (ps:List (Idn.Att×Value)):∀i,(rowA ps).take (i*2)=rowA (ps.take i):=by
 induction ps with
 |nil=>intro i;simp[rowA]
 |cons q ps ih=>
  intro i
  cases i with
  |zero=>simp[rowA]
  |succ i=>
   show (sv q.1.name :: q.2 :: rowA ps).take ((i+1)*2)=sv q.1.name :: q.2 :: rowA (ps.take i)
   rw[show (i+1)*2=i*2+1+1 by omega,List.take_succ_cons,List.take_succ_cons,ih]
theorem own_take {w : World} {base : Nat} {e : TypeId} {size n cap g : Nat} {xs : List Value} (h : w.ownsRow base e size (.slice (some ⟨g, 0, none⟩) n cap) n xs) (i : Nat) (hi : i ≤ n) :
  w.ownsRow base e size (.slice (some ⟨g,0,none⟩) i cap) i (xs.take (i*size)):=by
 have hle:i*size≤n*size:=Nat.mul_le_mul_right _ hi
 refine ⟨by rw[List.length_take,h.1];omega,?_⟩
 rcases h.2 with ⟨hn,_⟩|⟨g',cap',cur,hv,hb,hgg,h1,h2,h3,h4⟩
 ·cases hn
 ·injection hv with hv1 hv2 hv3
  injection hv1 with hv1
  injection hv1 with hv1
  subst hv1 hv3
  refine .inr ⟨g,cap,cur,rfl,hb,hgg,by omega,h2,h3,?_⟩
  rw[←h4,List.take_take,Nat.min_eq_left hle]
theorem own_setCells {base:Nat} {e:TypeId} {size n cap g:Nat} {xs:List Value}:∀(vs:List Value) (o:Nat) (w:World),w.ownsRow base e size (.slice (some ⟨g,0,none⟩) n cap) n xs→n*size≤o→(w.setCells g o vs).ownsRow base e size (.slice (some ⟨g,0,none⟩) n cap) n xs
 |[],_,_,h,_=>h
 |v :: vs,o,w,h,ho=>by
  rw[World.setCells]
  refine own_setCells vs (o+1) _ ?_ (by omega)
  refine ⟨h.1,?_⟩
  rcases h.2 with ⟨hn,_⟩|⟨g',cap',cur,hv,hb,hgg,h1,h2,h3,h4⟩
  ·cases hn
  ·injection hv with hv1 hv2 hv3
   injection hv1 with hv1
   injection hv1 with hv1
   subst hv1 hv3
   refine .inr ⟨g,cap,cur.setIfInBounds o v,rfl,hb,by simp[World.setCell,Array.getElem?_modify,hgg],h1,h2,by simpa using h3,?_⟩
   rw[Array.toList_setIfInBounds,List.take_set_of_le (by omega)];exact h4
theorem grown_setCells {w:World} {g:Nat}:∀(vs:List Value) (o:Nat) (W:World),w.grownBy W (some g)→w.grownBy (W.setCells g o vs) (some g)
 |[],_,_,h=>h
 |v :: vs,o,W,h=>by
  rw[World.setCells]
  exact grown_setCells vs (o+1) _ ⟨h.os,h.tape,h.output,by simpa using h.size,fun k hk hne=>by
   rw[←h.block k hk hne]
   have:g≠k:=fun e=>hne (by rw[e])
   simp[World.setCell,Array.getElem?_modify,this]⟩
theorem run_clear2 {P : Program} (w : World) (t e ty : TypeId) (z : Value) (ht : P.underlying t = some (.slice e)) (hv : ∀ w, (zeroValue e).run P w = .ok z w) (a b : Value) (hz : z.cells = #[a, b]) (h1 : a.oneCell' = true) (h2 : b.oneCell' = true) (g o n c : Nat) (hn : 0 < n)
  (hc:∀j,j<n*2→(w.cell? ⟨g,o+j,none⟩).isSome=true) (hf:∀j,j<n*2→w.frozen? ⟨g,o+j,none⟩=false) :
  (Builtin.clear_ #[t] ty #[.slice (some ⟨g,o,none⟩) n c]).run P w=.ok (.tuple #[]) (w.setCells g o (Builtin.zeroCells #[a,b] n).toList):=by
 have hlen:(Builtin.zeroCells #[a,b] n).toList.length=n*2:=by simp[Builtin.zeroCells]
 have hone:∀v∈(Builtin.zeroCells #[a,b] n).toList,v.oneCell'=true:=fun v hv'=>by
  simp[Builtin.zeroCells]at hv'
  obtain ⟨i,_,rfl⟩:=hv'
  rcases Nat.mod_two_eq_zero_or_one i with h0|h0<;>simp[h0,h1,h2]
 have hst:=run_storeCells_cells (P:=P) g o (Builtin.zeroCells #[a,b] n).toList 0 w (by rw[hlen];simpa using hc) (by rw[hlen];simpa using hf) hone
 simp only[Nat.add_zero]at hst
 obtain ⟨m,rfl⟩:∃m,n=m+1:=⟨n-1,by omega⟩
 simp[Builtin.clear_,run_underlying ht,hv,hz,hst]
theorem own_cell {w:World} {base:Nat} {e:TypeId} {size n cap g:Nat} {xs:List Value} (h:w.ownsRow base e size (.slice (some ⟨g,0,none⟩) n cap) n xs):(∀(j:Nat) u,xs[j]?=some u→w.cell? ⟨g,j,none⟩=some u)∧(∀j,w.frozen? ⟨g,j,none⟩=false)∧base≤g∧g<w.heap.size:=by
 have e0:∀j,((⟨g,0,none⟩:Addr).add j)=⟨g,j,none⟩:=fun j=>by unfold Addr.add;split<;>simp_all
 refine ⟨fun j u hj=>(e0 j)▸h.cells (g:=g) rfl j u hj,fun j=>?_,(h.lt g rfl).1,(h.lt g rfl).2⟩
 rcases h.2 with ⟨hn,_⟩|⟨g',cap',cur,hv,_,hgg,_⟩
 ·cases hn
 ·injection hv with hv1
  injection hv1 with hv1
  injection hv1 with hv1
  subst hv1
  exact Lib.frozen_of_heap hgg _
theorem run_zeroA (w:World):(zeroValue 96).run Tryz.prog w=.ok (.agg #[.string ⟨#[]⟩,.slice none 0 0]) w:=by kernel_rfl
theorem own_set2 {w : World} {base : Nat} {n cap g : Nat} {ps : List (Idn.Att × Value)} (h : w.ownsRow base 96 2 (.slice (some ⟨g, 0, none⟩) n cap) n (rowA ps)) (hn : ps.length = n) (i : Nat) (p : Idn.Att × Value) (hi : i < n) :
  ((w.setCell ⟨g,i*2,none⟩ (sv p.1.name)).setCell ⟨g,i*2+1,none⟩ p.2).ownsRow base 96 2 (.slice (some ⟨g,0,none⟩) n cap) n (rowA (ps.set i p)):=by
 rw[rowA_set2 ps i p (by omega)]
 exact own_set (own_set h (i*2) (by omega) _) (i*2+1) (by omega) _
theorem delRow_any (fn : Nat) (lb : Array Value) (eg : FnB fn) (p : Bs × Nat → Bool) (g cap base : Nat) (ps : List (Idn.Att × Value)) (w : World) (h : AttOwn w base (.slice (some ⟨g, 0, none⟩) ps.length cap) ps) (hl : ps.length ≤ 1000000) (hp : PredG g fn lb p w) :
    Calls Tryz.prog 133 #[.slice (some ⟨g,0,none⟩) ps.length cap,.func (.func fn) #[] lb] w fun e w'=>e=.returned (.slice (some ⟨g,0,none⟩) (ps.filter fun q=>!p (nmA q)).length cap)∧
     w'.ownsRow base 96 2 (.slice (some ⟨g,0,none⟩) (ps.filter fun q=>!p (nmA q)).length cap) (ps.filter fun q=>!p (nmA q)).length (rowA (ps.filter fun q=>!p (nmA q)))∧w.grownBy w' (some g):=by
 have hI:=idxA_any fn lb eg p _ (ps.map fun p=>(p.1.name,p.1.vals.length)) w h.names (by rw[List.length_map];omega) (hp.pred _)
 have hrow:=h.1
 have hsh:=fun q (hq:q∈ps)=>own_shape (h.2.1 q hq)
 unfold FnB at eg
 cases hx:(ps.map fun p=>(p.1.name,p.1.vals.length)).findIdx? p with
 |none=>
  have hfil:(ps.filter fun q=>!p (nmA q))=ps:=by
   rw[List.filter_eq_self]
   intro q hq
   have:=List.findIdx?_eq_none_iff.1 hx (nmA q) (List.mem_map.2 ⟨q,hq,rfl⟩)
   rw[this];rfl
  rw[idxP_none hx]at hI
  rw[hfil]
  clear hp hfil hx hsh h
  go_enter Tryz.func133,Tryz.ntmps133
  go_wp2_with fail
  refine hI.mono ?_
  rintro e w1 ⟨rfl,hb1⟩
  go_wp2
  go_ret
  exact ⟨rfl,own_below hrow hb1,grown_of_below hb1 _⟩
 |some k0=>
  obtain ⟨hk0,ht,hall⟩:=List.findIdx?_eq_some_iff_getElem.1 hx
  rw[List.length_map]at hk0
  have HT:Hid (ps.take k0=(ps.take (k0+1)).filter fun q=>!p (nmA q)):=by
   show _=_
   have e1:(ps.take k0).filter (fun q=>!p (nmA q))=ps.take k0:=by
    rw[List.filter_eq_self]
    intro q hq
    obtain ⟨j,hj,rfl⟩:=List.getElem_of_mem hq
    rw[List.length_take]at hj
    have:=hall j (by omega)
    simp only[List.getElem_map]at this
    rw[List.getElem_take]
    show (!p (ps[j].1.name,ps[j].1.vals.length))=true
    simpa using this
   have e2:p (nmA ps[k0])=true:=by simpa[nmA]using ht
   rw[List.take_succ_eq_append_getElem hk0,List.filter_append,e1,List.filter_cons_of_neg (by rw[e2];decide),List.filter_nil,List.append_nil]
  rw[idxP_some hx]at hI
  have hne1:((k0:Int) == -1)=false:=by rw[beq_eq_false_iff_ne];omega
  generalize hfil:(ps.filter fun q=>!p (nmA q))=fs
  have HFS:=Lib.hid hfil
  clear hx ht hall h hfil
  go_enter Tryz.func133,Tryz.ntmps133
  go_wp2_with fail
  refine hI.mono ?_
  rintro e w1 ⟨rfl,hb1⟩
  have hrow1:=own_below hrow hb1
  have hg1:=grown_of_below hb1 (some g)
  clear hI hrow hb1
  go_wp2_with fail
  go_loopw [5,6,7] (fun i j _ wr=>∃(i' j':Nat) (qs:List (Idn.Att×Value)),i=.int .i64 i'∧j=.int .i64 j'∧i'<j'∧j'≤ps.length∧qs.length=ps.length∧wr.ownsRow base 96 2 (.slice (some ⟨g,0,none⟩) ps.length cap) ps.length (rowA qs)∧Hid (qs.take i'=(ps.take j').filter fun q=>!p (nmA q))∧Hid (∀k,j'≤k→qs[k]?=ps[k]?)∧w.grownBy wr (some g)) (fun _ j _ _=>ps.length-(intOf j).toNat)
  case atStart=>exact ⟨k0,k0+1,ps,rfl,by go_num,by omega,by omega,rfl,hrow1,HT,fun _ _=>rfl,hg1⟩
  case round=>
   obtain ⟨i,j,qs,rfl,rfl,hij,hjn,hql,hown,hinv,hsame,hg⟩:=hrel
   have HQ:=Lib.hid hql
   clear hql
   obtain ⟨hcl,hfz,hbg,hgl⟩:=own_cell hown
   by_cases hlt:j<ps.length
   ·have hltI:(j:Int)<(ps.length:Int):=by omega
    have hj0:(0:Int)≤(j:Int):=by omega
    have hi0:(0:Int)≤(i:Int):=by omega
    have hiI:(i:Int)<(ps.length:Int):=by omega
    obtain ⟨Aq,cq1,hqv⟩:=hsh ps[j] (List.getElem_mem hlt)
    have hqj:qs[j]?=some ps[j]:=by rw[hsame.out j (Nat.le_refl _)];exact List.getElem?_eq_getElem hlt
    obtain ⟨r0,r1⟩:=rowA_at qs j ps[j] hqj
    have d0:=hcl _ _ r0
    have d1:=hcl _ _ r1
    have hqi:qs[i]?=some (qs[i]'(by have:=HQ.out;omega)):=List.getElem?_eq_getElem _
    obtain ⟨r2,r3⟩:=rowA_at qs i _ hqi
    have d2:=hcl _ _ r2
    have d3:=hcl _ _ r3
    rw[hqv]at d1
    have hstep:Hid ((ps.take (j+1)).filter (fun q=>!p (nmA q))=(ps.take j).filter (fun q=>!p (nmA q))++if p (nmA ps[j])then []else [ps[j]]):=by
     show _=_
     rw[List.take_succ_eq_append_getElem hlt,List.filter_append]
     congr 1
     cases hh:p (nmA ps[j])<;>simp[hh]
    have HS:=Lib.hid hqj
    clear hqj hsh hcl
    generalize ps[j]=q at *
    generalize qs[i]'(by have:=HQ.out;omega)=old at *
    replace d0:wr.cell? ⟨g,j*2,none⟩=some (.string (B q.1.name)):=d0
    replace d2:wr.cell? ⟨g,i*2,none⟩=some (.string (B old.1.name)):=d2
    clear r0 r1 r2 r3
    obtain ⟨wo,hwo⟩:∃wo:World,wo=wr:=⟨_,rfl⟩
    subst hwo
    go_upto_region 8 with fail
    with_reducible refine gen1 (R:=fun W=>Code.wp Tryz.prog _ _ _ W) ?_
    intro W hbW hszW hc1 _
    have x0:W.cell? ⟨wo.heap.size,0,none⟩=some (.string (B q.1.name)):=hc1 0 _ rfl
    have x1:W.cell? ⟨wo.heap.size,1,none⟩=some (.slice Aq q.1.vals.length cq1):=hc1 1 _ rfl
    have hgW:=hg.trans (grown_of_below hbW (some g))
    have hcall:=hp W (nmA q) Aq cq1 hgW
    dsimp only[nmA]at hcall
    clear hc1 hszW d0 d1
    cases hpq:p (nmA q)
    ·rw[show p (q.1.name,q.1.vals.length)=false from hpq]at hcall
     rw[hpq]at hstep
     clear hpq
     go_wp2_with fail
     refine hcall.mono ?_
     rintro e w2 ⟨rfl,hb2⟩
     have hb02:=hbW.trans (hb2.mono hbW.size)
     replace x0:=cell_later hb2 x0
     replace x1:=cell_later hb2 x1
     replace d2:=cell_later hb02 d2
     replace d3:=cell_later hb02 d3
     have hown2:=own_below hown hb02
     have hfz2:=(own_cell hown2).2.1
     have f0:=hfz2 (i*2)
     have f1:=hfz2 (i*2+1)
     have hg2:=hgW.trans (grown_of_below hb2 (some g))
     have hgl2:=(own_cell hown2).2.2.2
     clear hcall hown hfz hfz2 hg hgW hp
     have HI:Hid ((qs.set i q).take (i+1)=(ps.take (j+1)).filter fun q=>!p (nmA q)):=by
      show _=_
      have hi:i<(qs.set i q).length:=by rw[List.length_set];have:=HQ.out;omega
      rw[List.take_succ_eq_append_getElem hi,List.take_set_of_le (Nat.le_refl _),List.getElem_set_self,hinv.out,hstep.out]
      rfl
     have HK:Hid (∀k,j+1≤k→(qs.set i q)[k]?=ps[k]?):=fun k hk=>by
      rw[List.getElem?_set_ne (by omega)];exact hsame.out k (by omega)
     have hset:=own_set2 hown2 HQ.out i q (by omega)
     rw[hqv]at hset
     have hgs:=grown_setCells [sv q.1.name,.slice Aq q.1.vals.length cq1] (i*2) w2 hg2
     have HSET:=Lib.hid hset
     have HGS:=Lib.hid hgs
     clear hset hgs hstep hinv hsame
     go_wp2_with fail
     go_roundw
     case rel=>exact ⟨i+1,j+1,qs.set i q,by go_num,by go_num,by omega,by omega,by rw[List.length_set];exact HQ.out,HSET.out,HI,HK,HGS.out⟩
     case measure=>simp[intOf];omega
    ·rw[show p (q.1.name,q.1.vals.length)=true from hpq]at hcall
     rw[hpq]at hstep
     have HI:Hid (qs.take i=(ps.take (j+1)).filter fun q=>!p (nmA q)):=by
      show _=_
      rw[hinv.out,hstep.out,if_pos rfl,List.append_nil]
     clear hpq hstep hinv
     go_wp2_with fail
     refine hcall.mono ?_
     rintro e w2 ⟨rfl,hb2⟩
     have hb02:=hbW.trans (hb2.mono hbW.size)
     have hown2:=own_below hown hb02
     have hg2:=hgW.trans (grown_of_below hb2 (some g))
     clear hcall hown hfz hg hgW hp d2 d3 x0 x1
     go_wp2_with fail
     go_roundw
     case rel=>exact ⟨i,j+1,qs,rfl,by go_num,by omega,by omega,HQ.out,hown2,HI,fun k hk=>hsame.out k (by omega),hg2⟩
     case measure=>simp[intOf];omega
   ·obtain rfl:j=ps.length:=by omega
    have hltI:¬(ps.length:Int)<(ps.length:Int):=by omega
    have hiI:(i:Int)≤(ps.length:Int):=by omega
    have hi0:(0:Int)≤(i:Int):=by omega
    have hFE:fs=qs.take i:=by rw[hinv.out,←HFS.out,List.take_length]
    have hFL:fs.length=i:=by rw[hFE,List.length_take];have:=HQ.out;omega
    have hcap2:(ps.length:Int)≤(cap:Int):=by
     have:=(hown.2.resolve_left (fun h=>by cases h.1))
     obtain ⟨g',cap',cur,hv,_,_,h1,_⟩:=this
     injection hv with _ _ hv3
     subst hv3
     omega
    have hclr:∀ty,(Builtin.clear_ #[46] ty #[.slice (some ⟨g,i*2,none⟩) (ps.length-i) (cap-i)]).run Tryz.prog wr=.ok (.tuple #[]) (wr.setCells g (i*2) (Builtin.zeroCells #[.string ⟨#[]⟩,.slice none 0 0] (ps.length-i)).toList):=fun ty=>
     run_clear2 wr _ _ ty _ Tryz.underlying46 run_zeroA _ _ rfl rfl rfl g (i*2) _ _ (by omega) (fun t ht=>by
      have hlen:i*2+t<(rowA qs).length:=by rw[rowA_len,HQ.out];omega
      rw[hcl _ _ (List.getElem?_eq_getElem hlen)];rfl) (fun t _=>hfz _)
    have hfin:=own_setCells (Builtin.zeroCells #[.string ⟨#[]⟩,.slice none 0 0] (ps.length-i)).toList (i*2) wr (own_take hown i (by omega)) (Nat.le_refl _)
    have hgs:=grown_setCells (Builtin.zeroCells #[.string ⟨#[]⟩,.slice none 0 0] (ps.length-i)).toList (i*2) wr hg
    rw[rowA_take,←hFE]at hfin
    have HFE:=Lib.hid hFE
    have HFL:=Lib.hid hFL
    have HFIN:=Lib.hid hfin
    have HGS:=Lib.hid hgs
    clear hFE hFL hfin hgs hcl hfz hown hg hinv hsame
    go_wp2_with fail
    go_ret
    exact ⟨by rw[HFL.out];rfl,by rw[HFL.out];exact HFIN.out,HGS.out⟩
theorem delB_any (fn : Nat) (lb : Array Value) (eg : FnB fn) (p : Bs × Nat → Bool) (base : Nat) (v : Value) (ps : List (Idn.Att × Value)) (w : World) (h : AttOwn w base v ps) (hbase : base ≤ w.heap.size) (hl : ps.length ≤ 1000000) (hp : ∀ g, v.ownBlock = some g → PredG g fn lb p w) :
  Calls Tryz.prog 133 #[v,.func (.func fn) #[] lb] w fun e w'=>∃v',e=.returned v'∧AttOwn w' base v' (ps.filter fun q=>!p (nmA q))∧Below base w w'∧w.grownBy w' v.ownBlock∧v'.ownBlock=v.ownBlock:=by
 obtain ⟨A,cap,hv⟩:=own_shape h.1
 subst hv
 rcases h.1.2 with ⟨hnil,hn0⟩|⟨g,cap',cur,hv,hbg,hgg,h1,h2,h3,h4⟩
 ·have hps:ps=[]:=List.eq_nil_of_length_eq_zero hn0
  subst hps
  have hI:=idxA_any fn lb eg p _ [] w h.names (by simp) (fun W x A c hx _=>by cases hx)
  rw[idxP_none (by rfl)]at hI
  clear hn0 hp
  go_enter Tryz.func133,Tryz.ntmps133
  go_wp2_with fail
  refine hI.mono ?_
  rintro e w1 ⟨rfl,hb1⟩
  go_wp2
  go_ret
  exact ⟨_,rfl,h.keep hb1,hb1.mono hbase,grown_of_below hb1 _,rfl⟩
 ·injection hv with hv1 hv2 hv3
  subst hv1 hv3
  refine (delRow_any fn lb eg p g cap base ps w h hl (hp g rfl)).mono ?_
  rintro e w' ⟨rfl,hown,hg⟩
  refine ⟨_,rfl,⟨hown,fun q hq=>?_,h.2.2.sublist (List.filter_sublist)⟩,(Below.refl base w).grown hg hbase (fun x hx=>by injection hx with hx;omega),hg,rfl⟩
  have hq':=(List.mem_filter.1 hq).1
  exact own_kept (h.2.1 q hq') hg fun k hk hk'=>own_apart h.1 (h.2.1 q hq') (by decide) g rfl (by rw[hk',hk])
theorem delA_any (fn : Nat) (lb : Array Value) (eg : FnB fn) (p : Bs × Nat → Bool) (base : Nat) (v : Value) (ps : List (Idn.Att × Value)) (w : World) (h : AttOwn w base v ps) (hbase : base ≤ w.heap.size) (hl : ps.length ≤ 1000000) (hp : ∀ g, v.ownBlock = some g → PredG g fn lb p w) :
  Calls Tryz.prog 133 #[v,.func (.func fn) #[] lb] w fun e w'=>∃v',e=.returned v'∧AttOwn w' base v' (ps.filter fun q=>!p (nmA q))∧Below base w w':=
 (delB_any fn lb eg p base v ps w h hbase hl hp).mono fun _ _ ⟨v',h1,h2,h3,_,_⟩=>⟨v',h1,h2,h3⟩
end Go.Proofs.YtbkkchhimhlhcaaGreatDoor
/- schema: readNames, readClass. -/
namespace Go.Proofs.YtbkkchhimhlhcaaGreatDoor
open Go.RowKit Go.Sort
open Idn (L B Bs drop_L take_L size_L)
end Go.Proofs.YtbkkchhimhlhcaaGreatDoor
/- identityref05: Compare. -/
namespace Go.Proofs.YtbkkchhimhlhcaaGreatDoor
open Go.RowKit Go.Sort
open Idn (L B Bs drop_L take_L size_L)
end Go.Proofs.YtbkkchhimhlhcaaGreatDoor
