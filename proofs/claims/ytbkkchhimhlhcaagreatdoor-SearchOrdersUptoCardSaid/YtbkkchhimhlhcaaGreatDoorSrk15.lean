/- Part 15 of the proof that identitylaw12.SearchChecks returns true for every data that it may be called with: proof: the package variables hold what the program lays; nothing else is asked. -/
import Derived.Test.YtbkkchhimhlhcaaGreatDoorSrk09
import Derived.Shelf.Strings.SlTrimAscii
set_option linter.unusedVariables false
set_option linter.unusedSimpArgs false
set_option maxRecDepth 100000
set_option maxHeartbeats 16000000
/- codec.Int; schema: integer, truth. -/
namespace Go.Proofs.YtbkkchhimhlhcaaGreatDoor
open Go.RowKit
open Idn (L B Bs drop_L take_L size_L)
theorem readInt_bd (s:Bs) : -9223372036854775808≤(Idn.readInt s).1∧(Idn.readInt s).1≤9223372036854775807:=by
 unfold Idn.readInt Idn.tailR
 split
 ·simp
 ·split
  ·simp
  ·cases h:Lib.atoiAll s with
   |ok n=>exact Lib.atoiAll_bounds h
   |_=>simp
theorem int_any (n : Int) (w : World) (hE : Env w) (h : -9223372036854775808 ≤ n ∧ n ≤ 9223372036854775807) :
  Calls Tryz.prog 317 #[.int .i64 n] w fun e w'=>e=.returned (.string (B (Lib.itoa n)))∧Below w.heap.size w w':=by
 have hI:=Tryz.strconv_Itoa n h.1 h.2 w hE.2.1
 go_enter Tryz.func317,Tryz.ntmps317
 go_wp2_with (go_at_call 339;refine hI.mono ?_;rintro e w1 ⟨rfl,k,os,rfl⟩)
 have hb:Below w.heap.size w (Go.Sort.grow (w.drewN k) os):=⟨rfl,rfl,rfl,by show w.heap.size≤(w.heap++os).size;rw[Array.size_append];omega,fun _ hj=>Go.Sort.heap_grow_old (w.drewN k) os hj⟩
 go_wp2
 go_ret
 exact ⟨rfl,hb⟩
theorem dig_contains (c:UInt8):Idn.dig10.contains c=Idn.digit c:=by
 rw[Bool.eq_iff_iff,digit_range]
 simp only[Idn.dig10,List.contains_cons,List.contains_nil,Bool.or_false,Bool.or_eq_true,beq_iff_eq]
 constructor
 ·rintro (h|h|h|h|h|h|h|h|h|h)<;>subst h<;>decide
 ·intro h
  have key:c.toNat=48∨c.toNat=49∨c.toNat=50∨c.toNat=51∨c.toNat=52∨c.toNat=53∨c.toNat=54∨c.toNat=55∨c.toNat=56∨c.toNat=57:=by omega
  rcases key with h|h|h|h|h|h|h|h|h|h
  all_goals
   have e:=congrArg UInt8.ofNat h
   rw[UInt8.ofNat_toNat]at e
   subst e
   decide
theorem dropWhile_nil {p:UInt8→Bool}:∀{l:Bs},(l.dropWhile p=[])↔l.all p=true
 |[]=>by simp
 |c :: l=>by
  rw[List.dropWhile_cons,List.all_cons]
  cases h:p c
  ·simp
  ·simp only[if_true,Bool.true_and];exact dropWhile_nil
theorem trimS_nil (d:Bs):(Lib.trimS d Idn.dig10).isEmpty=d.all Idn.digit:=by
 have hc:(fun c=>Idn.dig10.contains c)=Idn.digit:=funext dig_contains
 unfold Lib.trimS Lib.trimLeftS Lib.trimRightS
 rw[show (fun x=>Idn.dig10.contains x)=Idn.digit from hc]
 rw[Bool.eq_iff_iff,List.isEmpty_iff,dropWhile_nil]
 constructor
 ·intro h
  have h1:∀x∈(d.reverse.dropWhile Idn.digit),Idn.digit x=true:=fun x hx=>List.all_eq_true.1 h x (by simpa using hx)
  have h2:d.reverse.dropWhile Idn.digit=[]:=by
   cases he:d.reverse.dropWhile Idn.digit with
   |nil=>rfl
   |cons x r=>
    have h3:=List.head?_dropWhile_not Idn.digit d.reverse
    rw[he]at h3 h1
    simp at h3
    have:=h1 x (by simp)
    rw[this]at h3;cases h3
  have:=dropWhile_nil.1 h2
  simpa using this
 ·intro h
  have:d.reverse.dropWhile Idn.digit=[]:=dropWhile_nil.2 (by simpa using h)
  rw[this];rfl
theorem info_set:(Tryz.prog.info? 300).map (fun i=>(i.zero,i.size))=some (some (.agg (Array.replicate 256 (.bool false))),256):=by kernel_rfl
theorem trimD_any (s : ByteArray) (w : World) (hs : s.size ≤ 1000000000) :
  Calls Tryz.prog 295 #[.string s,.string ⟨#[48,49,50,51,52,53,54,55,56,57]⟩] w fun e w'=>e=.returned (.string (B (Lib.trimS (L s) Idn.dig10)))∧Below w.heap.size w w':=
 Any.strings_Trim_laid Tryz.lays160 info_set s ⟨#[48,49,50,51,52,53,54,55,56,57]⟩ w (by omega) (by decide) (ascii_of_all (by decide))
theorem stripD_is (d:Bs):Lib.trimLeftB d 48=Idn.stripD d:=rfl
theorem length_strip (d:Bs):(Idn.stripD d).length≤d.length:=(List.dropWhile_sublist _).length_le
theorem digs_len (d:Bs):Idn.isDigs d=(!d.isEmpty&&(Lib.trimS d Idn.dig10).isEmpty):=by rw[Idn.isDigs,trimS_nil]
theorem integer_any (s : ByteArray) (w : World) (hE : Env w) (hs : s.size ≤ 100000000) :
  Calls Tryz.prog 287 #[.string s] w fun e w'=>e=.returned (.tuple #[.string (B (Idn.integer (L s)).1),.bool (Idn.integer (L s)).2])∧Below w.heap.size w w':=by
 have hCP:=fun W=>(Tryz.strings_CutPrefix s ⟨#[45]⟩ W).mono fun e w' ⟨h1,h2⟩=>(⟨h1,h2.symm⟩:_∧W=w')
 have e45:(⟨#[45]⟩:ByteArray).data.toList=[45]:=rfl
 rw[e45,data_L]at hCP
 generalize hrr:Idn.integer (L s)=r
 have HR:=Lib.hid hrr
 clear hrr e45
 have hd:L (⟨(Lib.trimPrefix (L s) [45]).toArray⟩:ByteArray)=Lib.trimPrefix (L s) [45]:=rfl
 have hdl:(Lib.trimPrefix (L s) [45]).length≤(L s).length:=by
  unfold Lib.trimPrefix;split<;>simp
 have hdig : Idn.integer (L s) = if !(!(Lib.trimPrefix (L s) [45]).isEmpty && (Lib.trimS (Lib.trimPrefix (L s) [45]) Idn.dig10).isEmpty) then ([], false)
   else if (Idn.stripD (Lib.trimPrefix (L s) [45])).isEmpty then ([48],true)
   else ((Lib.itoa (Idn.readInt (if Lib.hasPrefix (L s) [45]then 45 :: Idn.stripD (Lib.trimPrefix (L s) [45])else Idn.stripD (Lib.trimPrefix (L s) [45]))).1),(Idn.readInt (if Lib.hasPrefix (L s) [45]then 45 :: Idn.stripD (Lib.trimPrefix (L s) [45])else Idn.stripD (Lib.trimPrefix (L s) [45]))).2==0):=by
  rw[←digs_len];rfl
 rw[HR.out]at hdig
 clear HR
 generalize (⟨(Lib.trimPrefix (L s) [45]).toArray⟩:ByteArray)=d at *
 rw[←hd]at hdl hdig
 have HD:=Lib.hid hd
 clear hd
 have HR:=Lib.hid hdig
 clear hdig
 have hT:=fun W=>trimD_any d W (by have:=size_L s;have:=size_L d;omega)
 have hTL:=fun W=>(Tryz.strings_TrimLeft_one d 48 (by decide) W).mono fun e w' ⟨h1,h2⟩=>(⟨h1,h2.symm⟩:_∧W=w')
 rw[data_L,stripD_is]at hTL
 have hsl:=length_strip (L d)
 have hsz:=size_L d
 have hsz2:=size_L s
 generalize Lib.hasPrefix (L s) [45]=minus at *
 cases h1:(L d).isEmpty
 case true=>
  have HF:Hid (r=([],false)):=by show _=_;rw[HR.out,h1];rfl
  have e1:d.toList.isEmpty=true:=by rw[toList_L];exact h1
  clear h1 hT hTL hsz hsz2 hsl
  go_enter Tryz.func287,Tryz.ntmps287
  go_wp2_with (go_at_call 315;refine (hCP _).mono ?_;rintro e w1 ⟨rfl,rfl⟩)
  go_ret2
  exact ⟨by rw[HF.out];rfl,Below.refl _ _⟩
 have e1:d.toList.isEmpty=false:=by rw[toList_L];exact h1
 cases h2:(Lib.trimS (L d) Idn.dig10).isEmpty
 case false=>
  have HF:Hid (r=([],false)):=by show _=_;rw[HR.out,h1,h2];rfl
  have e2:(B (Lib.trimS (L d) Idn.dig10)).toList.isEmpty=false:=by rw[toList_L];exact h2
  generalize B (Lib.trimS (L d) Idn.dig10)=q at *
  clear h1 h2 hTL hsz hsz2 hsl HR HD
  go_enter Tryz.func287,Tryz.ntmps287
  go_wp2_with (first|(go_at_call 315;refine (hCP _).mono ?_;rintro e w1 ⟨rfl,rfl⟩)|(go_at_call 295;refine (hT _).mono ?_;rintro e w1 ⟨rfl,hb1⟩))
  go_ret2
  exact ⟨by rw[HF.out];rfl,hb1⟩
 have e2:(B (Lib.trimS (L d) Idn.dig10)).toList.isEmpty=true:=by rw[toList_L];exact h2
 have HR2:Hid (r=if (Idn.stripD (L d)).isEmpty then ([48],true)else ((Lib.itoa (Idn.readInt (if minus then 45 :: Idn.stripD (L d)else Idn.stripD (L d))).1),(Idn.readInt (if minus then 45 :: Idn.stripD (L d)else Idn.stripD (L d))).2==0)):=by
  show _=_;rw[HR.out,h1,h2];rfl
 generalize B (Lib.trimS (L d) Idn.dig10)=q at *
 clear HR h1 h2
 generalize Idn.stripD (L d)=z at *
 cases h3:z.isEmpty
 case true=>
  have HF:Hid (r=([48],true)):=by show _=_;rw[HR2.out,h3];rfl
  have e3:(⟨z.toArray⟩:ByteArray).toList.isEmpty=true:=by rw[toList_L];exact h3
  generalize (⟨z.toArray⟩:ByteArray)=zz at *
  clear h3 HR2 HD hsz hsz2 hsl hdl
  go_enter Tryz.func287,Tryz.ntmps287
  go_wp2_with (first|(go_at_call 315;refine (hCP _).mono ?_;rintro e w1 ⟨rfl,rfl⟩)|(go_at_call 295;refine (hT _).mono ?_;rintro e w1 ⟨rfl,hb1⟩)|(go_at_call 316;refine (hTL _).mono ?_;rintro e w2 ⟨rfl,rfl⟩))
  go_ret2
  exact ⟨by rw[HF.out];rfl,hb1⟩
 have e3:(⟨z.toArray⟩:ByteArray).toList.isEmpty=false:=by rw[toList_L];exact h3
 have ez:(⟨z.toArray⟩:ByteArray)=B z:=rfl
 rw[ez]at hTL e3
 cases minus
 ·have HF:Hid (r=(Lib.itoa (Idn.readInt z).1,(Idn.readInt z).2==0)):=by show _=_;rw[HR2.out,h3];rfl
  have hRI:=fun W hW=>readInt_any (B z) W hW (by rw[Idn.size_B];omega)
  rw[Idn.L_B]at hRI
  have hbd:=readInt_bd z
  have hI:=fun W hW=>int_any (Idn.readInt z).1 W hW hbd
  clear h3 HR2 HD hsz hsz2 hsl hdl hbd
  generalize Idn.readInt z=rr at *
  obtain ⟨ra,rb⟩:=rr
  dsimp only at *
  go_enter Tryz.func287,Tryz.ntmps287
  go_wp2_with (first|(go_at_call 315;refine (hCP _).mono ?_;rintro e w1 ⟨rfl,rfl⟩)|(go_at_call 295;refine (hT _).mono ?_;rintro e w1 ⟨rfl,hb1⟩)|(go_at_call 316;refine (hTL _).mono ?_;rintro e w2 ⟨rfl,rfl⟩)|(go_at_call 234;refine (hRI _ (hE.keep hb1)).mono ?_;rintro e w2 ⟨rfl,hb2⟩)|(go_at_call 317;refine (hI _ (hE.keep (hb1.trans (hb2.mono hb1.size)))).mono ?_;rintro e w3 ⟨rfl,hb3⟩))
  go_ret2
  have hb12:=hb1.trans (hb2.mono hb1.size)
  exact ⟨by rw[HF.out];rfl,hb12.trans (hb3.mono hb12.size)⟩
 ·have HF:Hid (r=(Lib.itoa (Idn.readInt (45 :: z)).1,(Idn.readInt (45 :: z)).2==0)):=by show _=_;rw[HR2.out,h3];rfl
  have hRI:=fun W hW=>readInt_any (B (45 :: z)) W hW (by rw[Idn.size_B];simp;omega)
  rw[Idn.L_B]at hRI
  have hbd:=readInt_bd (45 :: z)
  have hI:=fun W hW=>int_any (Idn.readInt (45 :: z)).1 W hW hbd
  have hadd:=fun W=>run_add (P:=Tryz.prog) (a:=[45]) (b:=z) (s:=⟨#[45]⟩) rfl rfl (by simp;omega) W
  rw[List.cons_append,List.nil_append]at hadd
  clear h3 HR2 HD hsz hsz2 hsl hdl hbd
  generalize Idn.readInt (45 :: z)=rr at *
  generalize B (45 :: z)=bz at *
  obtain ⟨ra,rb⟩:=rr
  dsimp only at *
  go_enter Tryz.func287,Tryz.ntmps287
  go_wp2_with (first|(go_at_call 315;refine (hCP _).mono ?_;rintro e w1 ⟨rfl,rfl⟩)|(go_at_call 295;refine (hT _).mono ?_;rintro e w1 ⟨rfl,hb1⟩)|(go_at_call 316;refine (hTL _).mono ?_;rintro e w2 ⟨rfl,rfl⟩)|(go_at_call 234;refine (hRI _ (hE.keep hb1)).mono ?_;rintro e w2 ⟨rfl,hb2⟩)|(go_at_call 317;refine (hI _ (hE.keep (hb1.trans (hb2.mono hb1.size)))).mono ?_;rintro e w3 ⟨rfl,hb3⟩))
  go_ret2
  have hb12:=hb1.trans (hb2.mono hb1.size)
  exact ⟨by rw[HF.out];rfl,hb12.trans (hb3.mono hb12.size)⟩
theorem truth_any (s : ByteArray) (w : World) (hU : EnvU w) (hs : s.size ≤ 100000000) :
  Calls Tryz.prog 288 #[.string s] w fun e w'=>e=.returned (.tuple #[.string (B (Idn.truth (L s)).1),.bool (Idn.truth (L s)).2])∧Below w.heap.size w w':=by
 have hl:=lower_any s w (by omega)
 have hUp:=fun W hW=>Tryz.strings_ToUpper_any (B (Idn.lower (L s))) W (by rw[Idn.size_B,Idn.length_lower];have:=size_L s;omega) (EnvU.keep hU hW).1 (EnvU.keep hU hW).2
 have e0:(⟨(Lib.toUpperD (B (Idn.lower (L s))).data.toList).toArray⟩:ByteArray)=B (Lib.toUpperD (Idn.lower (L s))):=rfl
 simp only[e0]at hUp
 have HR:Hid (Idn.truth (L s)=(Lib.toUpperD (Idn.lower (L s)),(Idn.lower (L s)==[116,114,117,101])||(Idn.lower (L s)==[102,97,108,115,101]))):=rfl
 generalize Idn.truth (L s)=r at *
 generalize Idn.lower (L s)=q at *
 generalize Lib.toUpperD q=up at *
 have hq:(B q).toList=q:=by rw[toList_L];rfl
 clear e0
 cases h1:(q==[116,114,117,101])
 ·have e1:((B q).toList==[116,114,117,101])=false:=by rw[hq];exact h1
  have e2:((B q).toList==[102,97,108,115,101])=(q==[102,97,108,115,101]):=by rw[hq]
  have HF:Hid (r=(up,(q==[102,97,108,115,101]))):=by show _=_;rw[HR.out,h1];rfl
  generalize (q==[102,97,108,115,101])=fl at *
  generalize B q=bq at *
  clear hq h1 HR
  go_enter Tryz.func288,Tryz.ntmps288
  go_wp2_with (first|(go_at_call 125;refine hl.mono ?_;rintro e w1 ⟨rfl,hb1⟩)|(go_at_call 318;refine (hUp _ hb1).mono ?_;rintro e w2 ⟨rfl,hb2⟩))
  go_ret2
  exact ⟨by rw[HF.out];rfl,hb1.trans (hb2.mono hb1.size)⟩
 ·have e1:((B q).toList==[116,114,117,101])=true:=by rw[hq];exact h1
  have HF:Hid (r=(up,true)):=by show _=_;rw[HR.out,h1];rfl
  generalize B q=bq at *
  clear hq h1 HR
  go_enter Tryz.func288,Tryz.ntmps288
  go_wp2_with (first|(go_at_call 125;refine hl.mono ?_;rintro e w1 ⟨rfl,hb1⟩)|(go_at_call 318;refine (hUp _ hb1).mono ?_;rintro e w2 ⟨rfl,hb2⟩))
  go_ret2
  exact ⟨by rw[HF.out];rfl,hb1.trans (hb2.mono hb1.size)⟩
end Go.Proofs.YtbkkchhimhlhcaaGreatDoor
