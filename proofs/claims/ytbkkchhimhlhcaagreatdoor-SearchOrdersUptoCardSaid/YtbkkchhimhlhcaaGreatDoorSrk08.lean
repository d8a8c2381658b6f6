/- Part 8 of the proof that identitylaw12.SearchChecks returns true for every data that it may be called with: proof: the package variables hold what the program lays; nothing else is asked. -/
import Derived.Test.YtbkkchhimhlhcaaGreatDoorSrk04
import Derived.Test.YtbkkchhimhlhcaaGreatDoorSrk05
import Derived.Test.YtbkkchhimhlhcaaGreatDoorSrk06
import Derived.Test.YtbkkchhimhlhcaaGreatDoorSrk07
set_option linter.unusedVariables false
set_option linter.unusedSimpArgs false
set_option maxRecDepth 100000
set_option maxHeartbeats 16000000
/- What the walks ask of the library's variables. -/
namespace Go.Proofs.YtbkkchhimhlhcaaGreatDoor
open Go.RowKit
theorem var_keep {P:Program} {w w':World} {n:String} {cs:Array Value} (h:w.var? P n=some cs) (hb:Below w.heap.size w w'):w'.var? P n=some cs:=by
 unfold World.var? at h⊢
 cases hg:P.globalNamed n with
 |none=>rw[hg]at h;cases h
 |some g=>
  rw[hg]at h
  simp only[Option.bind_some]at h⊢
  cases hh:w.heap[g]? with
  |none=>rw[hh]at h;cases h
  |some o=>rw[hb.block g (Array.getElem?_eq_some_iff.1 hh).1,hh];rw[hh]at h;exact h
def Env (w:World):Prop:=
 (∃ m : Int, w.cell? ⟨0, 0, none⟩ = some (.int .i64 m)) ∧ Lib.TabIs Tryz.prog w "internal/strconv.uint64pow10" .u64 Lib.pow10Tab ∧ ∃ tp p, w.var? Tryz.prog "strconv.ErrRange" = some #[.iface tp p]
def EnvU (w:World):Prop:=Lib.CaseVar 3 Lib.caseA w∧Lib.Utf8Tabs 4 5 w
theorem EnvU.keep {w w':World} (h:EnvU w) (hb:Below w.heap.size w w'):EnvU w':=⟨Lib.CaseVar_below h.1 hb,Utf8Tabs_below h.2 hb⟩
theorem Env.keep {w w':World} (h:Env w) (hb:Below w.heap.size w w'):Env w':=by
 obtain ⟨⟨m,h1⟩,h2,tp,p,h3⟩:=h
 exact ⟨⟨m,cell_later hb h1⟩,var_keep h2 hb,tp,p,var_keep h3 hb⟩
theorem gen2g {R : World → Prop} {w : World} {C1 C2 : Array Value} {t1 t2 : TypeId}
  (h:∀W,Below w.heap.size w W→W.heap.size=w.heap.size+2→(∀(i:Nat) (v:Value),C1[i]?=some v→W.cell? ⟨w.heap.size,i,none⟩=some v)→(∀(i:Nat) (v:Value),C2[i]?=some v→W.cell? ⟨w.heap.size+1,i,none⟩=some v)→
   (∀i,W.frozen? ⟨w.heap.size,i,none⟩=false)→(∀i,W.frozen? ⟨w.heap.size+1,i,none⟩=false)→R W):R ((w.alloc (.cells C1 t1)).alloc (.cells C2 t2)):=by
 have e1:(w.alloc (.cells C1 t1)).heap.size=w.heap.size+1:=by simp
 have hnew:((w.alloc (.cells C1 t1)).alloc (.cells C2 t2)).heap[w.heap.size+1]?=some (.cells C2 t2 (0,0)):=by
  rw[←e1];exact heap_alloc_new _ _
 have hold:((w.alloc (.cells C1 t1)).alloc (.cells C2 t2)).heap[w.heap.size]?=some (.cells C1 t1 (0,0)):=by
  rw[Below.heap_alloc _ _ _ (by rw[e1];omega)];exact heap_alloc_new w _
 refine gen2 (R:=fun W=>W=((w.alloc (.cells C1 t1)).alloc (.cells C2 t2))→R W) (fun W a b c d e=>?_) rfl
 subst e
 exact h _ a b c d (fun i=>Lib.frozen_of_heap hold i) (fun i=>Lib.frozen_of_heap hnew i)
theorem frozen_later {w w':World} {b i:Nat} (hb:Below w.heap.size w w') (h:w.frozen? ⟨b,i,none⟩=false) (hl:b<w.heap.size):w'.frozen? ⟨b,i,none⟩=false:=
 (hb.frozen (p:=⟨b,i,none⟩) hl).trans h
end Go.Proofs.YtbkkchhimhlhcaaGreatDoor
/- Walks of the layer fold (second part): Trim, Fold, Clean. -/
namespace Go.Proofs.YtbkkchhimhlhcaaGreatDoor
open Go.RowKit
open Idn (L B Bs drop_L take_L size_L)
def trimL' (l:Bs):Bs:=Idn.trimL l
theorem trimL_sp (a:Bs):(trimL' a=[]→trimL' (a++[32])=[])∧(trimL' a≠[]→trimL' (a++[32])=trimL' a++[32]):=by
 unfold trimL'
 induction a with
 |nil=>simp[Idn.trimL]
 |cons y a ih=>
  by_cases hy:y=32
  ·subst hy;simpa[Idn.trimL]using ih
  ·rw[Idn.trimL_of_head y a hy,List.cons_append,Idn.trimL_of_head y _ hy];simp
theorem trim_comm (m:Bs):Idn.trimL ((Idn.trimL m).reverse)=(Idn.trimL (Idn.trimL m.reverse).reverse).reverse:=by
 induction m with
 |nil=>rfl
 |cons x m ih=>
  by_cases hx:x=32
  ·subst hx
   have e1:Idn.trimL ((32:UInt8) :: m)=Idn.trimL m:=by simp[Idn.trimL]
   rw[e1,ih,List.reverse_cons]
   obtain ⟨h1,h2⟩:=trimL_sp m.reverse
   unfold trimL' at h1 h2
   by_cases he:Idn.trimL m.reverse=[]
   ·rw[h1 he,he]
   ·rw[h2 he,List.reverse_append]
    have e2:∀l:Bs,Idn.trimL ([32].reverse++l)=Idn.trimL l:=fun l=>by simp[Idn.trimL]
    rw[e2]
  ·rw[Idn.trimL_of_head x m hx,List.reverse_cons,Idn.trimL_snoc _ _ hx,List.reverse_append]
   have e3:([x].reverse++(Idn.trimL m.reverse).reverse:Bs)=x :: (Idn.trimL m.reverse).reverse:=by simp
   rw[e3,Idn.trimL_of_head _ _ hx]
   simp
theorem trimB_is (l:Bs):Lib.trimB l 32=Idn.trim l:=by
 have:=trim_comm l.reverse
 rw[List.reverse_reverse]at this
 exact this
theorem trim_any (s : ByteArray) (w : World) (hs : s.size ≤ 1000000000000) :
  Calls Tryz.prog 238 #[.string s] w fun e w'=>e=.returned (.string (B (Idn.trim (L s))))∧Below w.heap.size w w':=by
 have hT:=fun W=>Tryz.strings_Trim_one s 32 (by decide) W (by omega)
 have e1:Lib.trimB s.data.toList 32=Idn.trim (L s):=trimB_is (L s)
 rw[e1]at hT
 clear e1
 go_enter Tryz.func238,Tryz.ntmps238
 go_wp2_with (go_at_call 295;refine (hT _).mono ?_;rintro e w' ⟨rfl,hw⟩)
 have hb:Below w.heap.size w w':=by
  rcases hw with rfl|rfl
  ·exact Below.refl _ _
  ·exact (Below.refl _ _).drew
 clear hw
 go_wp2
 go_ret
 exact ⟨rfl,hb⟩
theorem clean_any (s : ByteArray) (w : World) (hs : s.size ≤ 1000000000000) :
  Calls Tryz.prog 193 #[.string s] w fun e w'=>e=.returned (.bool (Idn.clean (L s)))∧Below w.heap.size w w':=by
 go_enter Tryz.func193,Tryz.ntmps193
 go_wp2
 go_loopw [4] (fun _ wr=>∃k:Nat,k≤s.size∧wr.heap[w.heap.size]?=some (.stringIter s k)∧Below w.heap.size w wr∧Hid ((L s).all Idn.printable=((L s).drop k).all Idn.printable)) (fun _ wr=>s.size-wr.iterPos w.heap.size)
 case atStart=>exact ⟨0,Nat.zero_le _,by simpa using World.iter_heap w s 0,(Below.refl _ w).alloc (Nat.le_refl _) _,rfl⟩
 case round=>
  obtain ⟨k,hk,hit,hb,hinv⟩:=hrel
  by_cases hlt:k<s.size
  ·have hnx:∀ty,(Instr.next (.pointer (some ⟨w.heap.size,0,none⟩)) true ty).run Tryz.prog wr=_:=fun ty=>Lib.run_next_any_at wr w.heap.size s k ty hit hlt
   have hb2:=Lib.below_iterAt hb (k:=w.heap.size) (Nat.le_refl _) s (k+(Utf8.decode s k).2)
   by_cases hp:Idn.printable s[k]=true
   ·have ha:(s[k]).toNat<128:=by simp[Idn.printable]at hp;omega
    have h1:(32:Int)≤(s[k].toNat:Int):=by simp[Idn.printable]at hp;omega
    have h2:(s[k].toNat:Int)≤126:=by simp[Idn.printable]at hp;omega
    rw[decode_ascii s k hlt ha]at hnx hb2
    have hit2:=Lib.iterAt_heap wr w.heap.size s k (k+1) hit
    have hd:=drop_L s k hlt
    have HF:Hid ((L s).all Idn.printable=((L s).drop (k+1)).all Idn.printable):=by show _=_;rw[hinv.out,hd];simp[hp]
    clear hd hp
    go_wp2
    go_roundw
    case rel=>exact ⟨k+1,by omega,hit2,hb2,HF⟩
    case measure=>simp only[World.iterPos,hit2,hit];omega
   ·have hd:=drop_L s k hlt
    have HF:Hid ((L s).all Idn.printable=false):=by show _=_;rw[hinv.out,hd];simp[hp]
    have hc:(Utf8.decode s k).1<32∨126<(Utf8.decode s k).1:=by
     by_cases ha:(s[k]).toNat<128
     ·rw[decode_ascii s k hlt ha];simp[Idn.printable]at hp;omega
     ·have:=(decode_high s k hlt (by omega)).1;omega
    clear hd hp
    rcases hc with hc|hc
    all_goals
     go_wp2
     go_ret
     exact ⟨ret_bool (by simp[Idn.clean,HF.out]),hb2⟩
  ·have hnx:∀ty,(Instr.next (.pointer (some ⟨w.heap.size,0,none⟩)) true ty).run Tryz.prog wr=_:=fun ty=>Lib.run_next_end_at wr w.heap.size s k ty hit hlt
   have HF:Hid ((L s).all Idn.printable=true):=by show _=_;rw[hinv.out,List.drop_eq_nil_of_le (by have:=size_L s;omega)];rfl
   have hT:=trim_any s wr hs
   cases he:(L s).isEmpty
   ·have he':=he
    rw[←toList_L]at he'
    by_cases h256:(s.size:Int)≤256
    ·go_wp2_with (go_at_call 238;refine hT.mono ?_;rintro e w' ⟨rfl,hb'⟩)
     go_ret
     refine ⟨ret_bool ?_,hb.trans (hb'.mono hb.size)⟩
     have h256':(L s).length≤256:=by have:=size_L s;omega
     simp[Idn.clean,HF.out,he,h256',toList_L]
     rfl
    ·go_wp2
     go_ret
     have h256':¬(L s).length≤256:=by have:=size_L s;omega
     refine ⟨ret_bool ?_,hb⟩
     simp[Idn.clean,he,h256']
   ·have he':=he
    rw[←toList_L]at he'
    go_wp2
    go_ret
    refine ⟨ret_bool ?_,hb⟩
    simp[Idn.clean,he]
theorem info_u8:(Tryz.prog.info? 5).map (fun i=>(i.zero,i.size,i.bytes))=some (some (.int .u8 0),1,1):=by kernel_rfl
def prevB (t:Bs) (k:Nat):UInt8:=if k=0 then 0 else t.getD (k-1) 0
theorem head_trim (s:ByteArray) (l:Bs) (h:L s=Idn.lower (Idn.trim l)) (hp:0<s.size):(s[0]==32)=false:=by
 have h0:=drop_L s 0 hp
 simp only[List.drop_zero]at h0
 rw[h0]at h
 have h1:Idn.trim l=Idn.trimL (Idn.trim l):=Idn.trim_trimL l
 cases ht:Idn.trim l with
 |nil=>rw[ht]at h;simp[Idn.lower]at h
 |cons x r=>
  rw[ht]at h h1
  have:=Idn.trimL_head _ x r h1.symm
  simp only[Idn.lower,List.map_cons,List.cons.injEq]at h
  rw[h.1]
  exact Idn.low_ne32 x this
theorem fold_any (s : ByteArray) (w : World) (hs : s.size ≤ 1000000000000) :
  Calls Tryz.prog 218 #[.string s] w fun e w'=>e=.returned (.string (B (Idn.fold (L s))))∧Below w.heap.size w w':=by
 have hT:=trim_any s w hs
 have hl1:=Idn.length_trim (L s)
 have hlow:=fun W=>lower_any (B (Idn.trim (L s))) W (by rw[Idn.size_B];have:=size_L s;omega)
 go_enter Tryz.func218,Tryz.ntmps218
 go_wp2_with (first|(go_at_call 238;refine hT.mono ?_;rintro e w1 ⟨rfl,hb1⟩)|(go_at_call 125;refine (hlow _).mono ?_;rintro e w2 ⟨rfl,hb2⟩))
 have hb12:Below w.heap.size w w2:=hb1.trans (hb2.mono hb1.size)
 have ht:L (B (Idn.lower (L (B (Idn.trim (L s))))))=Idn.lower (Idn.trim (L s)):=rfl
 have hsz:(B (Idn.lower (L (B (Idn.trim (L s)))))).size≤s.size:=by
  rw[Idn.size_B,Idn.length_lower]
  show (Idn.trim (L s)).length≤_
  have:=size_L s;omega
 generalize B (Idn.lower (L (B (Idn.trim (L s)))))=t at *
 have Ht:=Lib.hid ht
 clear ht hlow hT hl1
 go_loopw [4,5,11] (fun v _ i wr=>∃(k:Nat) (acc:Bs),k≤t.size∧i=.int .i64 k∧wr.ownsRow w.heap.size 5 1 v acc.length (acc.map bc)∧Below w.heap.size w wr∧acc.length≤k∧Hid (acc++Idn.sq (prevB (L t) k) ((L t).drop k)=Idn.fold (L s))) (fun _ _ i _=>t.size-(intOf i).toNat)
 case atStart=>exact ⟨0,[],Nat.zero_le _,rfl,World.ownsRow_nil _ _ _ _,hb12,Nat.le_refl _,by show _=_;rw[Ht.out];rfl⟩
 case round=>
  obtain ⟨k,acc,hk,rfl,hown,hb,hacc,hinv⟩:=hrel
  clear hb1 hb2 hb12
  by_cases hlt:k<t.size
  ·have hd:=drop_L t k hlt
   have hprev:prevB (L t) (k+1)=t[k]:=by
    have:=Idn.get_L t k hlt
    simp only[prevB,Nat.add_sub_cancel]
    rw[if_neg (by omega),←this,List.getD_eq_getElem?_getD,List.getElem?_eq_getElem];rfl
   -- does the round keep the byte?
   by_cases hkeep:t[k]=32∧prevB (L t) k=32
   ·have hk0:k≠0:=by intro e;have h2:=hkeep.2;rw[prevB,if_pos e]at h2;exact absurd h2 (by decide)
    have hk1:(1:Int)≤(k:Int):=by omega
    have hp:t[k-1]'(by omega)=32:=by
     have h2:=hkeep.2
     rw[prevB,if_neg hk0,List.getD_eq_getElem?_getD,List.getElem?_eq_getElem (by have:=size_L t;omega)]at h2
     exact h2
    have h1:((t[k].toNat:Int) !=32)=false:=by rw[hkeep.1];rfl
    have HF:Hid (acc++Idn.sq (prevB (L t) (k+1)) ((L t).drop (k+1))=Idn.fold (L s)):=by
     show _=_
     rw[←hinv.out,hd,hprev,hkeep.1,hkeep.2];simp[Idn.sq]
    clear hd hprev
    have h2:((t[k-1].toNat:Int) !=32)=false:=by rw[hp];rfl
    clear hkeep hp
    go_wp2
    go_roundw
    case rel=>exact ⟨k+1,acc,by omega,by go_num,hown,hb,by omega,HF⟩
    case measure=>simp[intOf];omega
   ·have HF : Hid ((acc ++ [t[k]]) ++ Idn.sq (prevB (L t) (k+1)) ((L t).drop (k+1)) = Idn.fold (L s)) := by
     show _=_
     rw[←hinv.out,hd,hprev,Idn.sq_keep _ _ _ hkeep,List.append_assoc];rfl
    clear hd hprev
    by_cases hx:t[k]=32
    ·have h1:((t[k].toNat:Int) !=32)=false:=by rw[hx];rfl
     have hk0:k≠0:=by
      intro e;subst e
      have:=head_trim t (L s) Ht.out hlt
      rw[hx]at this;exact absurd this (by decide)
     have hk1:(1:Int)≤(k:Int):=by omega
     have h2:((t[k-1].toNat:Int) !=32)=true:=by
      rw[bne_iff_ne];intro e
      apply hkeep
      refine ⟨hx,?_⟩
      rw[prevB,if_neg hk0,List.getD_eq_getElem?_getD,List.getElem?_eq_getElem (by have:=size_L t;omega)]
      show t[k-1]=32
      apply UInt8.toNat_inj.1
      simpa using (by omega:t[k-1].toNat=32)
     clear hkeep hx
     go_wp2_with (at_builtin;refine wpList_push wr rfl _ _ 179 rfl w.heap.size 5 (.int .u8 0) 1 1 Tryz.underlying179 info_u8 rfl (by decide) _ acc.length _ hown rfl [bc t[k]] rfl rfl (by intro u hu;simp at hu;subst hu;rfl) (by omega) hb.size ?_ rfl)
     intro v' w1' hown' _ _ hb' _
     clear hown
     go_wp2
     go_roundw
     case rel=>exact ⟨k+1,acc++[t[k]],by omega,by go_num,by simpa using hown',hb.trans hb',by simp;omega,HF⟩
     case measure=>simp[intOf];omega
    ·have h1 : ((t[k].toNat : Int) != 32) = true := by
      rw[bne_iff_ne];intro e
      apply hx
      apply UInt8.toNat_inj.1
      simpa using (by omega:t[k].toNat=32)
     clear hkeep hx
     go_wp2_with (at_builtin;refine wpList_push wr rfl _ _ 179 rfl w.heap.size 5 (.int .u8 0) 1 1 Tryz.underlying179 info_u8 rfl (by decide) _ acc.length _ hown rfl [bc t[k]] rfl rfl (by intro u hu;simp at hu;subst hu;rfl) (by omega) hb.size ?_ rfl)
     intro v' w1' hown' _ _ hb' _
     clear hown
     go_wp2
     go_roundw
     case rel=>exact ⟨k+1,acc++[t[k]],by omega,by go_num,by simpa using hown',hb.trans hb',by simp;omega,HF⟩
     case measure=>simp[intOf];omega
  ·go_wp2_with (with_reducible refine wpList_str _ rfl _ 179 9 5 rfl Tryz.underlying179 Tryz.underlying9 Tryz.underlying5 w.heap.size _ acc hown rfl ?_)
   go_wp2
   go_ret
   refine ⟨ret_str (congrArg B ?_),hb⟩
   have e2:(L t).drop k=[]:=List.drop_eq_nil_of_le (by have:=size_L t;omega)
   rw[←hinv.out,e2];simp[Idn.sq]
end Go.Proofs.YtbkkchhimhlhcaaGreatDoor
/- codec.ReadInt, codec.Int. -/
namespace Go.Proofs.YtbkkchhimhlhcaaGreatDoor
open Go.RowKit
open Idn (L B Bs drop_L take_L size_L)
theorem digit_range (c:UInt8):Idn.digit c=true↔48≤c.toNat∧c.toNat≤57:=by simp[Idn.digit]
theorem noSyntax:∀(l:Bs) (acc:Nat),l.all Idn.digit=true→Lib.parseUint10 acc l≠.syntax
 |[],acc,_=>by simp[Lib.parseUint10]
 |c :: r,acc,h=>by
  rw[List.all_cons,Bool.and_eq_true]at h
  have hc:=(digit_range c).1 h.1
  simp only[Lib.parseUint10]
  rw[if_pos hc]
  split
  ·simp
  ·split
   ·simp
   ·exact noSyntax r _ h.2
theorem noSyntax2 (l:Bs) (h0:l≠[]) (h:l.all Idn.digit=true):Lib.parseMag l≠.syntax:=by
 unfold Lib.parseMag;rw[if_neg h0];exact noSyntax l 0 h
theorem atoi_no (s:Bs) (h0:Lib.trimPrefix s [45]≠[]) (h:(Lib.trimPrefix s [45]).all Idn.digit=true):Lib.atoiAll s≠.syntax:=by
 cases s with
 |nil=>exact absurd rfl h0
 |cons c r=>
  by_cases hc:c=45
  ·subst hc
   have e:Lib.trimPrefix (45 :: r) [45]=r:=by simp[Lib.trimPrefix,Lib.hasPrefix,List.isPrefixOf]
   rw[e]at h0 h
   have:=noSyntax2 r h0 h
   unfold Lib.atoiAll
   simp
   split
   ·rename_i h2;exact absurd h2 this
   ·simp
   ·(repeat' split)<;>simp
  ·have e : Lib.trimPrefix (c :: r) [45] = c :: r := by
     have:(45==c)=false:=by simpa using fun h=>hc h.symm
     simp[Lib.trimPrefix,Lib.hasPrefix,List.isPrefixOf,this]
   rw[e]at h0 h
   have hd:Idn.digit c=true:=by rw[List.all_cons,Bool.and_eq_true]at h;exact h.1
   have hr:=(digit_range c).1 hd
   have:=noSyntax2 (c :: r) (by simp) h
   have hn:¬(c.toNat=43∨c.toNat=45):=by omega
   unfold Lib.atoiAll
   simp only[if_neg hn]
   split
   ·rename_i h2;exact absurd h2 this
   ·simp
   ·(repeat' split)<;>simp
theorem readInt_any (s : ByteArray) (w : World) (hE : Env w) (hs : s.size ≤ 1000000000) :
    Calls Tryz.prog 234 #[.string s] w fun e w'=>e=.returned (.tuple #[.int .i64 (Idn.readInt (L s)).1,.int .i64 (Idn.readInt (L s)).2])∧Below w.heap.size w w':=by
 have hTP:=fun W=>(Tryz.strings_TrimPrefix s ⟨#[45]⟩ W).mono fun e w' ⟨h1,h2⟩=>(⟨h1,h2.symm⟩:_∧W=w')
 have e45:(⟨#[45]⟩:ByteArray).data.toList=[45]:=rfl
 rw[e45,data_L]at hTP
 have hns:=atoi_no (L s)
 generalize hrr:Idn.readInt (L s)=r
 have HR:=Lib.hid hrr
 clear hrr e45
 have hd:L (⟨(Lib.trimPrefix (L s) [45]).toArray⟩:ByteArray)=Lib.trimPrefix (L s) [45]:=rfl
 have hdl:(Lib.trimPrefix (L s) [45]).length≤(L s).length:=by
  unfold Lib.trimPrefix;split<;>simp
 have hd48:L s=[48]→Lib.trimPrefix (L s) [45]=[48]:=fun h=>by rw[h];decide
 generalize (⟨(Lib.trimPrefix (L s) [45]).toArray⟩:ByteArray)=d at *
 rw[←hd]at hns hdl hd48
 have HD:=Lib.hid hd
 clear hd
 have hcase:(L s=[48])∨(L s≠[48]∧(L d).isEmpty=true)∨(L s≠[48]∧∃h:0<d.size,d[0]=48)∨(L s≠[48]∧∃h:0<d.size,d[0]≠48):=by
  by_cases h1:L s=[48]
  ·exact .inl h1
  ·by_cases h2:(L d).isEmpty=true
   ·exact .inr (.inl ⟨h1,h2⟩)
   ·have h3 : 0 < d.size := by
      rcases Nat.eq_zero_or_pos d.size with h|h
      ·exact absurd (empty_true d (by omega)) h2
      ·exact h
    by_cases h4:d[0]=48
    ·exact .inr (.inr (.inl ⟨h1,h3,h4⟩))
    ·exact .inr (.inr (.inr ⟨h1,h3,h4⟩))
 have stops:∀(hA:Idn.readInt (L s)=(0,4)),r=(0,4):=fun hA=>by rw[←HR.out,hA]
 rcases hcase with h1|⟨h1,h2⟩|⟨h1,h3,h4⟩|⟨h1,h3,h4⟩
 case inr.inl=>
  have HF:Hid (r=(0,4)):=stops (by unfold Idn.readInt;rw[←HD.out,decide_eq_true h1,h2];rfl)
  have e1:(s.toList==[48])=false:=by rw[toList_L];simpa using h1
  have e2:d.toList.isEmpty=true:=by rw[toList_L];exact h2
  clear h1 h2 stops hns hd48 hdl
  go_enter Tryz.func234,Tryz.ntmps234
  go_wp2_with (go_at_call 291;refine (hTP _).mono ?_;rintro e w1 ⟨rfl,rfl⟩)
  go_ret2
  exact ⟨by rw[HF.out];rfl,Below.refl _ _⟩
 case inr.inr.inl=>
  have HF:Hid (r=(0,4)):=stops (by
   unfold Idn.readInt
   rw[←HD.out,decide_eq_true h1,head_L d h3,h4]
   simp)
  have e1:(s.toList==[48])=false:=by rw[toList_L];simpa using h1
  have e2:d.toList.isEmpty=false:=by rw[toList_L];exact empty_false d h3
  have e3:((d[0].toNat:Int)==48)=true:=by rw[h4];rfl
  clear h1 h4 stops hns hd48 hdl
  go_enter Tryz.func234,Tryz.ntmps234
  go_wp2_with (go_at_call 291;refine (hTP _).mono ?_;rintro e w1 ⟨rfl,rfl⟩)
  go_ret2
  exact ⟨by rw[HF.out];rfl,Below.refl _ _⟩
 case inl=>
  have hdd:=hd48 h1
  have h3:0<d.size:=by have:=size_L d;rw[hdd]at this;simp at this;omega
  have e1:(s.toList==[48])=true:=by rw[toList_L,h1];rfl
  have HF:Hid (r=Idn.tailR (L d) (L s)):=by
   show _=_
   rw[←HR.out]
   unfold Idn.readInt
   rw[←HD.out,h1]
   rfl
  clear h1 hd48 hdd stops HR
  go_enter Tryz.func234,Tryz.ntmps234
  go_wp2_with (go_at_call 291;refine (hTP _).mono ?_;rintro e w1 ⟨rfl,rfl⟩)
  go_loopw [6] (fun _ wr=>∃k:Nat,k≤d.size∧wr.heap[w.heap.size]?=some (.stringIter d k)∧Below w.heap.size w wr∧Hid ((L d).all Idn.digit=((L d).drop k).all Idn.digit)) (fun _ wr=>d.size-wr.iterPos w.heap.size)
  case atStart=>exact ⟨0,Nat.zero_le _,by simpa using World.iter_heap w d 0,(Below.refl _ w).alloc (Nat.le_refl _) _,rfl⟩
  case round=>
   obtain ⟨k,hk,hit,hb,hinv⟩:=hrel
   by_cases hlt:k<d.size
   ·have hnx:∀ty,(Instr.next (.pointer (some ⟨w.heap.size,0,none⟩)) true ty).run Tryz.prog wr=_:=fun ty=>Lib.run_next_any_at wr w.heap.size d k ty hit hlt
    have hb2:=Lib.below_iterAt hb (k:=w.heap.size) (Nat.le_refl _) d (k+(Utf8.decode d k).2)
    by_cases hp:Idn.digit d[k]=true
    ·have hp2:=(digit_range _).1 hp
     have ha:(d[k]).toNat<128:=by omega
     have h1:(48:Int)≤(d[k].toNat:Int):=by omega
     have h2:(d[k].toNat:Int)≤57:=by omega
     rw[decode_ascii d k hlt ha]at hnx hb2
     have hit2:=Lib.iterAt_heap wr w.heap.size d k (k+1) hit
     have hdr:=drop_L d k hlt
     have HG:Hid ((L d).all Idn.digit=((L d).drop (k+1)).all Idn.digit):=by show _=_;rw[hinv.out,hdr];simp[hp]
     clear hdr hp hp2
     go_wp2
     go_roundw
     case rel=>exact ⟨k+1,by omega,hit2,hb2,HG⟩
     case measure=>simp only[World.iterPos,hit2,hit];omega
    ·have hdr:=drop_L d k hlt
     have HG:Hid (r=(0,4)):=by
      show _=_
      rw[HF.out,Idn.tailR,hinv.out,hdr,List.all_cons,Bool.eq_false_iff.2 hp];rfl
     have hc:(Utf8.decode d k).1<48∨57<(Utf8.decode d k).1:=by
      by_cases ha:(d[k]).toNat<128
      ·rw[decode_ascii d k hlt ha]
       have hq:¬(48≤d[k].toNat∧d[k].toNat≤57):=fun h=>hp ((digit_range _).2 h)
       show d[k].toNat<48∨57<d[k].toNat
       omega
      ·have:=(decode_high d k hlt (by omega)).1;omega
     clear hdr hp
     rcases hc with hc|hc
     all_goals
      go_wp2
      go_ret2
      exact ⟨by rw[HG.out];rfl,hb2⟩
   ·have hnx:∀ty,(Instr.next (.pointer (some ⟨w.heap.size,0,none⟩)) true ty).run Tryz.prog wr=_:=fun ty=>Lib.run_next_end_at wr w.heap.size d k ty hit hlt
    have hall:(L d).all Idn.digit=true:=by rw[hinv.out,List.drop_eq_nil_of_le (by have:=size_L d;omega)];rfl
    have hnn:=hns (by intro e;have:=size_L d;rw[e,List.length_nil]at this;omega) hall
    obtain ⟨_,_,tp,pv,hvar⟩:=hE.keep hb
    cases hat:Lib.atoiAll (L s)with
    |ok n=>
     have HG:Hid (r=(n,0)):=by show _=_;rw[HF.out,Idn.tailR,hall,hat];rfl
     have hAt:=Tryz.strconv_Atoi_ok s (by omega) n hat wr
     clear hat hall hinv HF
     go_wp2_with (go_at_call 292;refine hAt.mono ?_;rintro e w2 ⟨rfl,hw2⟩)
     have hb2:Below wr.heap.size wr w2:=by
      rcases hw2 with rfl|⟨t,rfl⟩
      ·exact Below.refl _ _
      ·exact Lib.bytesWorld_below _ _ _
     clear hw2
     go_wp2
     go_ret2
     exact ⟨by rw[HG.out];rfl,hb.trans (hb2.mono hb.size)⟩
    |range=>
     have HG:Hid (r=(0,27)):=by show _=_;rw[HF.out,Idn.tailR,hall,hat];rfl
     have hAt:=Tryz.strconv_Atoi_range_var s (by omega) hat tp pv wr hvar
     clear hat hall hinv HF
     go_wp2_with (go_at_call 292;refine hAt.mono ?_;rintro e w2 ⟨N,rfl,_,_,hb2⟩)
     go_ret2
     exact ⟨by rw[HG.out];rfl,hb.trans (hb2.mono hb.size)⟩
    |_=>exact absurd hat hnn
 case inr.inr.inr=>
  have HF:Hid (r=Idn.tailR (L d) (L s)):=by
   show _=_
   rw[←HR.out]
   unfold Idn.readInt
   rw[←HD.out,decide_eq_true h1,empty_false d h3,head_L d h3]
   have:(d[0]==48)=false:=by simpa using h4
   rw[this];rfl
  have e1:(s.toList==[48])=false:=by rw[toList_L];simpa using h1
  have e2:d.toList.isEmpty=false:=by rw[toList_L];exact empty_false d h3
  have e3:((d[0].toNat:Int)==48)=false:=by
   rw[beq_eq_false_iff_ne];intro e
   exact h4 (UInt8.toNat_inj.1 (by simpa using (by omega:d[0].toNat=48)))
  clear h1 h4 hd48 stops HR
  go_enter Tryz.func234,Tryz.ntmps234
  go_wp2_with (go_at_call 291;refine (hTP _).mono ?_;rintro e w1 ⟨rfl,rfl⟩)
  go_loopw [6] (fun _ wr=>∃k:Nat,k≤d.size∧wr.heap[w.heap.size]?=some (.stringIter d k)∧Below w.heap.size w wr∧Hid ((L d).all Idn.digit=((L d).drop k).all Idn.digit)) (fun _ wr=>d.size-wr.iterPos w.heap.size)
  case atStart=>exact ⟨0,Nat.zero_le _,by simpa using World.iter_heap w d 0,(Below.refl _ w).alloc (Nat.le_refl _) _,rfl⟩
  case round=>
   obtain ⟨k,hk,hit,hb,hinv⟩:=hrel
   by_cases hlt:k<d.size
   ·have hnx:∀ty,(Instr.next (.pointer (some ⟨w.heap.size,0,none⟩)) true ty).run Tryz.prog wr=_:=fun ty=>Lib.run_next_any_at wr w.heap.size d k ty hit hlt
    have hb2:=Lib.below_iterAt hb (k:=w.heap.size) (Nat.le_refl _) d (k+(Utf8.decode d k).2)
    by_cases hp:Idn.digit d[k]=true
    ·have hp2:=(digit_range _).1 hp
     have ha:(d[k]).toNat<128:=by omega
     have h1:(48:Int)≤(d[k].toNat:Int):=by omega
     have h2:(d[k].toNat:Int)≤57:=by omega
     rw[decode_ascii d k hlt ha]at hnx hb2
     have hit2:=Lib.iterAt_heap wr w.heap.size d k (k+1) hit
     have hdr:=drop_L d k hlt
     have HG:Hid ((L d).all Idn.digit=((L d).drop (k+1)).all Idn.digit):=by show _=_;rw[hinv.out,hdr];simp[hp]
     clear hdr hp hp2
     go_wp2
     go_roundw
     case rel=>exact ⟨k+1,by omega,hit2,hb2,HG⟩
     case measure=>simp only[World.iterPos,hit2,hit];omega
    ·have hdr:=drop_L d k hlt
     have HG:Hid (r=(0,4)):=by
      show _=_
      rw[HF.out,Idn.tailR,hinv.out,hdr,List.all_cons,Bool.eq_false_iff.2 hp];rfl
     have hc:(Utf8.decode d k).1<48∨57<(Utf8.decode d k).1:=by
      by_cases ha:(d[k]).toNat<128
      ·rw[decode_ascii d k hlt ha]
       have hq:¬(48≤d[k].toNat∧d[k].toNat≤57):=fun h=>hp ((digit_range _).2 h)
       show d[k].toNat<48∨57<d[k].toNat
       omega
      ·have:=(decode_high d k hlt (by omega)).1;omega
     clear hdr hp
     rcases hc with hc|hc
     all_goals
      go_wp2
      go_ret2
      exact ⟨by rw[HG.out];rfl,hb2⟩
   ·have hnx:∀ty,(Instr.next (.pointer (some ⟨w.heap.size,0,none⟩)) true ty).run Tryz.prog wr=_:=fun ty=>Lib.run_next_end_at wr w.heap.size d k ty hit hlt
    have hall:(L d).all Idn.digit=true:=by rw[hinv.out,List.drop_eq_nil_of_le (by have:=size_L d;omega)];rfl
    have hnn:=hns (by intro e;have:=size_L d;rw[e,List.length_nil]at this;omega) hall
    obtain ⟨_,_,tp,pv,hvar⟩:=hE.keep hb
    cases hat:Lib.atoiAll (L s)with
    |ok n=>
     have HG:Hid (r=(n,0)):=by show _=_;rw[HF.out,Idn.tailR,hall,hat];rfl
     have hAt:=Tryz.strconv_Atoi_ok s (by omega) n hat wr
     clear hat hall hinv HF
     go_wp2_with (go_at_call 292;refine hAt.mono ?_;rintro e w2 ⟨rfl,hw2⟩)
     have hb2:Below wr.heap.size wr w2:=by
      rcases hw2 with rfl|⟨t,rfl⟩
      ·exact Below.refl _ _
      ·exact Lib.bytesWorld_below _ _ _
     clear hw2
     go_wp2
     go_ret2
     exact ⟨by rw[HG.out];rfl,hb.trans (hb2.mono hb.size)⟩
    |range=>
     have HG:Hid (r=(0,27)):=by show _=_;rw[HF.out,Idn.tailR,hall,hat];rfl
     have hAt:=Tryz.strconv_Atoi_range_var s (by omega) hat tp pv wr hvar
     clear hat hall hinv HF
     go_wp2_with (go_at_call 292;refine hAt.mono ?_;rintro e w2 ⟨N,rfl,_,_,hb2⟩)
     go_ret2
     exact ⟨by rw[HG.out];rfl,hb.trans (hb2.mono hb.size)⟩
    |_=>exact absurd hat hnn
end Go.Proofs.YtbkkchhimhlhcaaGreatDoor
/- The program's maps of types and classes. -/
namespace Go.Proofs.YtbkkchhimhlhcaaGreatDoor
open Go.RowKit Go.Sort
open Idn (L B Bs drop_L take_L size_L)
def tyV (t:Idn.AT):Value:=.agg #[sv t.name,.int .i64 t.syn,.bool t.single]
def tyE (l:List Idn.AT):List (Bs×Value):=l.map fun t=>(Idn.lower t.name,tyV t)
theorem zeroAT (w:World):(zeroValue 89).run Tryz.prog w=.ok (.agg #[.string ⟨#[]⟩,.int .i64 0,.bool false]) w:=by kernel_rfl
theorem zeroCL (w:World):(zeroValue 91).run Tryz.prog w=.ok (.agg #[.string ⟨#[]⟩,.string ⟨#[]⟩,.slice none 0 0,.slice none 0 0]) w:=by kernel_rfl
theorem lk_map {α:Type} (f:α→Bs) (g:α→Value) (l:List α) (n:Bs):lk (l.map fun t=>(f t,g t)) n=(l.find? fun t=>decide (f t=n)).map g:=by
 unfold lk
 induction l with
 |nil=>rfl
 |cons x l ih=>
  simp only[List.map_cons,List.find?_cons]
  cases hx:decide (f x=n)
  ·exact ih
  ·rfl
theorem find_ix {α:Type} (p:α→Bool) (l:List α):l.find? p=(l.findIdx? p).bind fun k=>l[k]?:=by
 induction l with
 |nil=>rfl
 |cons x l ih=>
  rw[List.find?_cons,List.findIdx?_cons]
  cases hx:p x
  ·simp only[cond_false,Bool.false_eq_true,if_false];rw[ih];cases l.findIdx? p<;>rfl
  ·rfl
theorem lk_ty (l:List Idn.AT) (n:Bs):lk (tyE l) (Idn.lower n)=(Idn.ixT l n).bind fun k=>l[k]?.map tyV:=by
 rw[tyE,lk_map,find_ix]
 unfold Idn.ixT
 cases h:l.findIdx? _<;>rfl
theorem lk_ty_none {l:List Idn.AT} {n:Bs} (h:Idn.ixT l n=none):lk (tyE l) (Idn.lower n)=none:=by rw[lk_ty,h];rfl
theorem lk_ty_some {l:List Idn.AT} {n:Bs} {k:Nat} (h:Idn.ixT l n=some k):∃t,l[k]?=some t∧lk (tyE l) (Idn.lower n)=some (tyV t):=by
 have hk:=Idn.ixT_lt _ _ _ h
 exact ⟨l[k],List.getElem?_eq_getElem hk,by rw[lk_ty,h];simp[hk]⟩
theorem addType_any (b1 b2 : Nat) (prev : List Idn.AT) (t : Idn.AT) (w : World) (hm : MapIs w b1 (tyE prev)) (hs : t.name.length ≤ 1000000000) :
  Calls Tryz.prog 188 #[.agg #[.map (some b1),.map (some b2)],tyV t] w fun e w'=>e=.returned (.int .i64 (Idn.tyErr prev t))∧But b1 w w'∧(Idn.tyErr prev t=0→MapIs w' b1 (tyE (prev++[t]))):=by
 have hl:=fun W=>lower_any (B t.name) W (by rw[Idn.size_B];omega)
 have hN:=fun W=>name_any (B t.name) W (by rw[Idn.size_B];omega)
 unfold tyV
 rw[sv]
 rw[Idn.L_B]at hN hl
 have hlk:∃a b c,(lk (tyE prev) (L (B (Idn.lower t.name)))).getD (.agg #[.string ⟨#[]⟩,.int .i64 0,.bool false])=.agg #[.string a,.int .i64 b,.bool c]:=by
  rw[Idn.L_B]
  cases h:Idn.ixT prev t.name with
  |none=>rw[lk_ty_none h];exact ⟨_,_,_,rfl⟩
  |some k=>obtain ⟨t',_,h2⟩:=lk_ty_some h;rw[h2];exact ⟨_,_,_,rfl⟩
 obtain ⟨va,vb,vc,hva⟩:=hlk
 have hsome:(lk (tyE prev) (L (B (Idn.lower t.name)))).isSome=(Idn.ixT prev t.name).isSome:=by
  rw[Idn.L_B]
  cases h:Idn.ixT prev t.name with
  |none=>rw[lk_ty_none h];rfl
  |some k=>obtain ⟨t',_,h2⟩:=lk_ty_some h;rw[h2];rfl
 generalize hrr:Idn.tyErr prev t=r
 have hR0:Hid _:=hrr
 clear hrr
 go_enter Tryz.func188,Tryz.ntmps188
 go_wp2_with fail
 with_reducible refine gen2 (R:=fun W=>Calls Tryz.prog 125 _ W _) ?_
 intro W hbW hszW hc1 hc2
 refine (hl W).mono ?_
 rintro e w1 ⟨rfl,hb1⟩
 have b0:=cell_later hb1 (hc1 0 _ rfl)
 have d0:=cell_later hb1 (hc2 0 _ rfl)
 have d1:=cell_later hb1 (hc2 1 _ rfl)
 have d2:=cell_later hb1 (hc2 2 _ rfl)
 clear hc1 hc2 hl
 have hm1:MapIs w1 b1 (tyE prev):=(hm.keep hbW).keep hb1
 have hbw1:Below w.heap.size w w1:=hbW.trans (hb1.mono hbW.size)
 have ba:=(Below.refl w1.heap.size w1).alloc (Nat.le_refl _) (.cells #[.string va,.int .i64 vb,.bool vc] 89)
 have B0:=cell_later ba b0
 have D0:=cell_later ba d0
 have D1:=cell_later ba d1
 have D2:=cell_later ba d2
 have hm2:=hm1.alloc (.cells #[.string va,.int .i64 vb,.bool vc] 89)
 have hbwa:=hbw1.trans (ba.mono hbw1.size)
 clear ba d0 d1 d2
 cases n0:Idn.name t.name
 ·have HF:Hid (r=5):=by show _=_;rw[←hR0.out,Idn.tyErr,n0];rfl
  rw[n0]at hN
  go_wp2_with (first|(at_lookup;refine wpList_look w1 rfl _ _ 166 rfl 9 89 Tryz.underlying9 Tryz.underlying166 (zeroAT _) hm1.v rfl _ rfl hva hsome ?_)|(go_at_call 82;refine (hN _).mono ?_;rintro e w' ⟨rfl,rfl⟩))
  go_ret
  exact ⟨ret_int (by rw[HF.out]),But.of_below hbwa _,fun h=>by rw[HF.out]at h;cases h⟩
 rw[n0]at hN
 cases n1:(Idn.ixT prev t.name).isSome
 ·rw[n1]at hsome
  by_cases n2:t.syn<1
  ·have HF:Hid (r=8):=by show _=_;rw[←hR0.out,Idn.tyErr,n0,n1,decide_eq_true n2];rfl
   go_wp2_with (first|(at_lookup;refine wpList_look w1 rfl _ _ 166 rfl 9 89 Tryz.underlying9 Tryz.underlying166 (zeroAT _) hm1.v rfl _ rfl hva hsome ?_)|(go_at_call 82;refine (hN _).mono ?_;rintro e w' ⟨rfl,rfl⟩))
   go_ret
   exact ⟨ret_int (by rw[HF.out]),But.of_below hbwa _,fun h=>by rw[HF.out]at h;cases h⟩
  by_cases n3:5<t.syn
  ·have HF:Hid (r=8):=by show _=_;rw[←hR0.out,Idn.tyErr,n0,n1,decide_eq_false n2,decide_eq_true n3];rfl
   have n2':(1:Int)≤t.syn:=by omega
   clear n2
   go_wp2_with (first|(at_lookup;refine wpList_look w1 rfl _ _ 166 rfl 9 89 Tryz.underlying9 Tryz.underlying166 (zeroAT _) hm1.v rfl _ rfl hva hsome ?_)|(go_at_call 82;refine (hN _).mono ?_;rintro e w' ⟨rfl,rfl⟩))
   go_ret
   exact ⟨ret_int (by rw[HF.out]),But.of_below hbwa _,fun h=>by rw[HF.out]at h;cases h⟩
  have HF:Hid (r=0):=by show _=_;rw[←hR0.out,Idn.tyErr,n0,n1,decide_eq_false n2,decide_eq_false n3];rfl
  have n2':(1:Int)≤t.syn:=by omega
  have n3':t.syn≤5:=by omega
  have hnone:lk (tyE prev) (L (B (Idn.lower t.name)))=none:=Option.isSome_eq_false_iff.1 hsome |> Option.isNone_iff_eq_none.1
  clear n2 n3
  go_wp2_with (first|(at_mapUpdate;refine wpList_put _ rfl _ _ _ 166 rfl 9 89 Tryz.underlying9 Tryz.underlying166 b1 rfl hm2 _ rfl _ rfl hnone ?_;intro w3 hm3 hbut)|(first|(at_lookup;refine wpList_look w1 rfl _ _ 166 rfl 9 89 Tryz.underlying9 Tryz.underlying166 (zeroAT _) hm1.v rfl _ rfl hva hsome ?_)|(go_at_call 82;refine (hN _).mono ?_;rintro e w' ⟨rfl,rfl⟩)))
  go_ret
  exact ⟨ret_int (by rw[HF.out]),(But.of_below hbwa _).trans hbut,fun _=>by rw[tyE,List.map_append];exact hm3⟩
 ·have HF:Hid (r=7):=by show _=_;rw[←hR0.out,Idn.tyErr,n0,n1];rfl
  rw[n1]at hsome
  go_wp2_with (first|(at_lookup;refine wpList_look w1 rfl _ _ 166 rfl 9 89 Tryz.underlying9 Tryz.underlying166 (zeroAT _) hm1.v rfl _ rfl hva hsome ?_)|(go_at_call 82;refine (hN _).mono ?_;rintro e w' ⟨rfl,rfl⟩))
  go_ret
  exact ⟨ret_int (by rw[HF.out]),But.of_below hbwa _,fun h=>by rw[HF.out]at h;cases h⟩
end Go.Proofs.YtbkkchhimhlhcaaGreatDoor
/- Walks of the layer name (first part): special, index. -/
namespace Go.Proofs.YtbkkchhimhlhcaaGreatDoor
open Go.RowKit
open Idn (L B Bs drop_L take_L size_L)
theorem byte_ne (c d:UInt8):((c.toNat:Int) !=(d.toNat:Int))=(c !=d):=by
 simp only[bne,byte_eq]
theorem byte_is {c d:UInt8} (h:c=d):((c.toNat:Int)==(d.toNat:Int))=true:=by rw[byte_eq];simpa using h
theorem byte_not {c d:UInt8} (h:¬c=d):((c.toNat:Int)==(d.toNat:Int))=false:=by rw[byte_eq];simpa using h
theorem special_any (c : UInt8) (w : World) :
  Calls Tryz.prog 219 #[.int .u8 (c.toNat:Int)] w fun e w'=>e=.returned (.bool (Idn.special c))∧w=w':=by
 have e1:=byte_eq c 44
 have e2:=byte_eq c 61
 have e3:=byte_eq c 43
 have e4:=byte_eq c 92
 cases h1:c==44<;>cases h2:c==61<;>cases h3:c==43
 all_goals
  rw[h1]at e1
  rw[h2]at e2
  rw[h3]at e3
  replace e1:((c.toNat:Int)==44)=_:=e1
  replace e2:((c.toNat:Int)==61)=_:=e2
  replace e3:((c.toNat:Int)==43)=_:=e3
  replace e4:((c.toNat:Int)==92)=_:=e4
  have E4:=Lib.hid e4
  clear e4
  go_enter Tryz.func219,Tryz.ntmps219
  go_wp2
  go_ret
  refine ⟨ret_bool ?_,rfl⟩
  simp[Idn.special,h1,h2,h3]
  try exact E4.out
theorem drop_end (s:ByteArray) (k:Nat) (h:¬k<s.size):(L s).drop k=[]:=List.drop_eq_nil_of_le (by have:=size_L s;omega)
theorem drop_last (s:ByteArray) (k:Nat) (h:k<s.size) (h':¬k+1<s.size):(L s).drop k=[s[k]]:=by rw[drop_L s k h,drop_end s (k+1) h']
theorem drop_two (s:ByteArray) (k:Nat) (h:k+1<s.size):(L s).drop k=s[k] :: s[k+1] :: (L s).drop (k+2):=by rw[drop_L s k (by omega),drop_L s (k+1) h]
theorem index_any (s : ByteArray) (c : UInt8) (w : World) (hs : s.size ≤ 1000000000000) :
  Calls Tryz.prog 284 #[.string s,.int .u8 (c.toNat:Int)] w fun e w'=>e=.returned (.int .i64 (Idn.idxI c (L s)))∧w=w':=by
 go_enter Tryz.func284,Tryz.ntmps284
 go_wp2
 go_loop [5] (fun i=>∃k:Nat,k≤s.size+1∧i=.int .i64 k∧Hid (Idn.idx c (L s)=(Idn.idx c ((L s).drop k)).map (·+k))) (fun i=>s.size+1-(intOf i).toNat)
 case atStart=>exact ⟨0,Nat.zero_le _,rfl,by show _=_;simp⟩
 case round=>
  obtain ⟨k,hk,rfl,hinv⟩:=hrel
  by_cases hlt:k<s.size
  ·by_cases hc:s[k]=c
   ·have e1:=byte_is hc
    have HF:Hid (Idn.idxI c (L s)=k):=by
     show _=_
     have:Idn.idx c (L s)=some k:=by
      rw[hinv.out]
      by_cases h2:k+1<s.size
      ·rw[drop_two s k h2];simp[Idn.idx,hc]
      ·rw[drop_last s k hlt h2];simp[Idn.idx,hc]
     rw[Idn.idxI,this]
    clear hc
    go_wp2
    go_ret
    exact ⟨ret_int HF.out.symm,rfl⟩
   ·have e1:=byte_not hc
    by_cases h92:s[k]=92
    ·have e2:((s[k].toNat:Int)==92)=true:=by rw[h92];rfl
     have HF:Hid (Idn.idx c (L s)=(Idn.idx c ((L s).drop (k+2))).map (·+(k+2))):=by
      show _=_
      rw[hinv.out]
      by_cases h2:k+1<s.size
      ·rw[drop_two s k h2,Idn.idx,if_neg (by simpa using hc),if_pos (by simpa using h92)]
       simp[Function.comp_def,Nat.add_assoc,Nat.add_comm 2 k]
      ·rw[drop_last s k hlt h2,drop_end s (k+2) (by omega)];simp[Idn.idx,hc]
     clear hc h92
     go_wp2
     go_round
     case rel=>exact ⟨k+2,by omega,by go_num,HF⟩
     case measure=>simp[intOf];omega
    ·have e2:((s[k].toNat:Int)==92)=false:=byte_not (d:=92) h92
     have HF:Hid (Idn.idx c (L s)=(Idn.idx c ((L s).drop (k+1))).map (·+(k+1))):=by
      show _=_
      rw[hinv.out]
      by_cases h2:k+1<s.size
      ·rw[drop_two s k h2,Idn.idx,if_neg (by simpa using hc),if_neg (by simpa using h92),drop_L s (k+1) h2]
       simp[Function.comp_def,Nat.add_assoc,Nat.add_comm 1 k]
      ·rw[drop_last s k hlt h2,drop_end s (k+1) (by omega)];simp[Idn.idx,hc]
     clear hc h92
     go_wp2
     go_round
     case rel=>exact ⟨k+1,by omega,by go_num,HF⟩
     case measure=>simp[intOf];omega
  ·have HF : Hid (Idn.idxI c (L s) = -1) := by
    show _=_
    have:Idn.idx c (L s)=none:=by rw[hinv.out,drop_end s k hlt];rfl
    rw[Idn.idxI,this]
   go_wp2
   go_ret
   exact ⟨ret_int HF.out.symm,rfl⟩
theorem idxI_none {c:UInt8} {l:Bs} (h:Idn.idx c l=none):Idn.idxI c l = -1:=by rw[Idn.idxI,h]
theorem idxI_some {c:UInt8} {l:Bs} {k:Nat} (h:Idn.idx c l=some k):Idn.idxI c l=k:=by rw[Idn.idxI,h]
theorem pieces_any (s : ByteArray) (w : World) (hs : s.size ≤ 1000000000000) :
    Calls Tryz.prog 229 #[.string s] w (RetS w (Idn.pcs (L s))):=by
 go_enter Tryz.func229,Tryz.ntmps229
 go_wp2
 go_loopw [0,3,4] (fun t v _ wr=>∃(x:ByteArray) (ps:List Bs),t=.string x∧wr.ownsRow w.heap.size 9 1 v ps.length (ps.map sv)∧Below w.heap.size w wr∧ps.length+x.size≤s.size∧Hid (ps++Idn.pcs (L x)=Idn.pcs (L s))) (fun t _ _ _=>strLen t)
 case atStart=>exact ⟨s,[],rfl,World.ownsRow_nil _ _ _ _,Below.refl _ _,by simp,rfl⟩
 case round=>
  obtain ⟨x,ps,rfl,hown,hb,hl,hinv⟩:=hrel
  have hI:=index_any x 44 wr (by omega)
  have hp:=Idn.pcs_idx (L x)
  cases hi:Idn.idx 44 (L x)with
  |none=>
   rw[idxI_none hi]at hI
   rw[hi]at hp
   have HF:Hid (Idn.pcs (L s)=ps++[L x]):=by show _=_;rw[←hinv.out,hp]
   clear hp hi
   go_wp2_with (first|(go_at_call 284;refine hI.mono ?_;rintro e w' ⟨rfl,rfl⟩)|(at_builtin;refine wpList_push wr rfl _ _ 26 rfl w.heap.size 9 (.string ⟨#[]⟩) 1 16 Tryz.underlying26 info_str rfl (by decide) _ ps.length _ hown rfl [.string x] rfl rfl (by intro u hu;simp at hu;subst hu;rfl) (by omega) hb.size ?_ rfl))
   intro v' w1' hown' _ _ hb' _
   go_wp2
   go_ret
   refine ⟨v',rfl,?_,hb.trans hb'⟩
   rw[HF.out,List.map_append,List.length_append]
   exact hown'
  |some k=>
   rw[idxI_some hi]at hI
   rw[hi]at hp
   have hk:=Idn.idx_lt _ _ _ hi
   rw[←size_L]at hk
   have HF:Hid ((ps++[(L x).take k])++Idn.pcs (L (x.extract (k+1) x.size))=Idn.pcs (L s)):=by
    show _=_;rw[←hinv.out,hp,extract_drop];simp[Idn.L_B]
   clear hp hi
   have hsz:(x.extract (k+1) x.size).size=x.size-(k+1):=by simp
   go_wp2_with (first|(go_at_call 284;refine hI.mono ?_;rintro e w' ⟨rfl,rfl⟩)|(at_builtin;refine wpList_push wr rfl _ _ 26 rfl w.heap.size 9 (.string ⟨#[]⟩) 1 16 Tryz.underlying26 info_str rfl (by decide) _ ps.length _ hown rfl [.string (x.extract 0 k)] rfl rfl (by intro u hu;simp at hu;subst hu;rfl) (by omega) hb.size ?_ rfl))
   intro v' w1' hown' _ _ hb' _
   clear hown
   go_wp2
   go_roundw
   case rel=>
    refine ⟨_,ps++[(L x).take k],rfl,?_,hb.trans hb',?_,HF⟩
    ·rw[List.map_append,List.length_append];rw[extract_take]at hown';exact hown'
    ·simp;omega
   case measure=>simp[strLen];omega
end Go.Proofs.YtbkkchhimhlhcaaGreatDoor
/- Walks of the layer name: check. -/
namespace Go.Proofs.YtbkkchhimhlhcaaGreatDoor
open Go.RowKit
open Idn (L B Bs drop_L take_L size_L)
def PSm (l:List (Bs×Bs)):Prop:=∀p∈l,p.1.length≤1000000000000∧p.2.length≤1000000000000
theorem check_any (v : Value) (l : List (Bs × Bs)) (w : World) (hv : PairsV w w.heap.size v l) (hs : PSm l) (hl : l.length ≤ 1000000000000) :
  Calls Tryz.prog 215 #[v] w fun e w'=>e=.returned (.int .i64 (Idn.check l))∧Below w.heap.size w w':=by
 obtain ⟨A,c,rfl,hc⟩:=hv.shape
 go_enter Tryz.func215,Tryz.ntmps215
 go_wp2
 go_loopw [4,7] (fun _ i wr=>∃k:Nat,k≤l.length∧i=.int .i64 k∧Below w.heap.size w wr∧Hid (Idn.check1 l=Idn.check1 (l.drop k))) (fun _ i _=>l.length-(intOf i).toNat)
 case atStart=>exact ⟨0,Nat.zero_le _,rfl,Below.refl _ _,rfl⟩
 case round=>
  obtain ⟨k,hk,rfl,hb,hinv⟩:=hrel
  by_cases hlt:k<l.length
  ·obtain ⟨b,off,rfl,hbl,c0,c1⟩:=PairsV.cell (hv.keep hb) hlt
   have hd:=List.drop_eq_getElem_cons hlt
   have hmem:=hs l[k] (List.getElem_mem hlt)
   have hN:=fun W=>name_any (B l[k].1) W (by rw[Idn.size_B];exact hmem.1)
   have hC:=fun W=>clean_any (B l[k].2) W (by rw[Idn.size_B];exact hmem.2)
   rw[Idn.L_B]at hN hC
   cases h1:Idn.name l[k].1
   ·rw[h1]at hN
    have HF:Hid (Idn.check1 l=5):=by show _=_;rw[hinv.out,hd];simp[Idn.check1,h1]
    clear hd h1 hC
    go_wp2_with (go_at_call 82;refine (hN _).mono ?_;rintro e w' ⟨rfl,rfl⟩)
    go_ret
    refine ⟨ret_int ?_,?_⟩
    ·simp[Idn.check,HF.out]
    ·exact hb.alloc hb.size _
   ·rw[h1]at hN
    cases h2:Idn.clean l[k].2
    ·rw[h2]at hC
     have HF:Hid (Idn.check1 l=8):=by show _=_;rw[hinv.out,hd];simp[Idn.check1,h1,h2]
     clear hd h1 h2
     go_wp2_with (first|(go_at_call 82;refine (hN _).mono ?_;rintro e w' ⟨rfl,rfl⟩)|(go_at_call 193;refine (hC _).mono ?_;rintro e w' ⟨rfl,hb'⟩))
     go_ret
     refine ⟨ret_int ?_,?_⟩
     ·simp[Idn.check,HF.out]
     ·exact (hb.alloc hb.size _).trans (hb'.mono (by simp;have:=hb.size;omega))
    ·rw[h2]at hC
     have HF:Hid (Idn.check1 l=Idn.check1 (l.drop (k+1))):=by show _=_;rw[hinv.out,hd];simp[Idn.check1,h1,h2]
     clear hd h1 h2
     go_wp2_with (first|(go_at_call 82;refine (hN _).mono ?_;rintro e w' ⟨rfl,rfl⟩)|(go_at_call 193;refine (hC _).mono ?_;rintro e w' ⟨rfl,hb'⟩))
     go_roundw
     case rel=>exact ⟨k+1,by omega,by go_num,(hb.alloc hb.size _).trans (hb'.mono (by simp;have:=hb.size;omega)),HF⟩
     case measure=>simp[intOf];omega
  ·have HF:Hid (Idn.check1 l=0):=by show _=_;rw[hinv.out,List.drop_eq_nil_of_le (by omega)];rfl
   go_wp2
   all_goals
    go_ret
    refine ⟨ret_int ?_,hb⟩
    simp only[Idn.check,HF.out]
    first|(rw[if_neg (by decide),if_pos (by omega)])|(rw[if_neg (by decide),if_neg (by omega)])
end Go.Proofs.YtbkkchhimhlhcaaGreatDoor
/- attrs: values, Check. -/
namespace Go.Proofs.YtbkkchhimhlhcaaGreatDoor
open Go.RowKit Go.Sort
open Idn (L B Bs drop_L take_L size_L)
theorem contains_any (v : Value) (l : List Bs) (x : ByteArray) (w : World) (hv : StrsV w w.heap.size v l) (hl : l.length ≤ 1000000000) :
  Calls Tryz.prog 194 #[v,.string x] w fun e w'=>e=.returned (.bool (l.contains (L x)))∧w=w':=by
 obtain ⟨A,c,rfl,hc⟩:=hv.shape
 by_cases h0:l.length=0
 ·have hl0:l=[]:=List.eq_nil_of_length_eq_zero h0
  subst hl0
  exact (Tryz.slices_Contains_string_empty A c x w).mono fun e w' ⟨h1,h2⟩=>⟨h1,h2.symm⟩
 ·obtain ⟨b,off,rfl,hb,_⟩:=StrsV.cell hv (k:=0) (by omega)
  refine (Tryz.slices_Contains_string b off l.length c (l.map B) x w (by simp) (by omega) (fun j hj=>?_)).mono fun e w' ⟨h1,h2⟩=>⟨?_,h2.symm⟩
  ·rw[List.length_map]at hj
   obtain ⟨b',off',hA',_,hcc⟩:=StrsV.cell hv hj
   injection hA' with hA'
   injection hA' with h1 h2
   subst h1 h2
   rw[hcc]
   simp[List.getD_eq_getElem?_getD,hj]
  ·rw[h1]
   have ht:(l.map B).take l.length=l.map B:=by rw[List.take_of_length_le];simp
   rw[ht]
   congr 2
   rw[Bool.eq_iff_iff,Lib.containsS_iff,List.contains_iff_mem,List.mem_map]
   constructor
   ·rintro ⟨a,ha,rfl⟩;exact ha
   ·intro h;exact ⟨L x,h,Idn.B_L x⟩
def EA (w:World) (hi:Nat) (x:Idn.Att) (cs:List Value):Prop:=∃v,cs=[sv x.name,v]∧StrsV w hi v x.vals
abbrev AttsV (w:World) (hi:Nat) (v:Value) (l:List Idn.Att):Prop:=SlV (EA w hi) w hi 2 v l
theorem EA.keep {w w':World} {hi:Nat} {x:Idn.Att} {cs:List Value} (h:EA w hi x cs) (hb:Below hi w w'):EA w' hi x cs:=by
 obtain ⟨v,h1,h2⟩:=h
 exact ⟨v,h1,SlV.keep h2 hb⟩
theorem EA.mono {w:World} {hi hi':Nat} {x:Idn.Att} {cs:List Value} (h:EA w hi x cs) (hh:hi≤hi'):EA w hi' x cs:=by
 obtain ⟨v,h1,h2⟩:=h
 exact ⟨v,h1,SlV.mono h2 hh⟩
theorem AttsV.keep {w w':World} {hi:Nat} {v:Value} {l:List Idn.Att} (h:AttsV w hi v l) (hb:Below hi w w'):AttsV w' hi v l:=SlV.keepE h hb fun _ _ _ he=>he.keep hb
theorem AttsV.mono {w:World} {hi hi':Nat} {v:Value} {l:List Idn.Att} (h:AttsV w hi v l) (hh:hi≤hi'):AttsV w hi' v l:=
 SlV.mono (SlV.keepE h (Below.refl _ _) fun _ _ _ he=>he.mono hh) hh
theorem AttsV.cell {w : World} {hi : Nat} {A : Option Addr} {n c : Nat} {l : List Idn.Att} (h : AttsV w hi (.slice A n c) l) {k : Nat} (hk : k < l.length) :
  ∃b off v,A=some ⟨b,off,none⟩∧b<hi∧w.cell? ⟨b,off+k*2,none⟩=some (.string (B l[k].name))∧w.cell? ⟨b,off+k*2+1,none⟩=some v∧StrsV w hi v l[k].vals:=by
 obtain ⟨b,off,hA,hb,cs,h1,⟨v,h2,h4⟩,h3⟩:=h.at_ hk
 subst h2
 exact ⟨b,off,v,hA,hb,by simpa[sv]using h3 0 _ rfl,by simpa[Nat.add_assoc]using h3 1 _ rfl,h4⟩
def ASm (l:List Idn.Att):Prop:=l.length≤1000000000∧∀a∈l,a.name.length≤1000000000∧Sm a.vals
theorem values_any (v : Value) (l : List Bs) (w : World) (hv : StrsV w w.heap.size v l) (hs : Sm l) :
  Calls Tryz.prog 129 #[v] w fun e w'=>e=.returned (.int .i64 (Idn.valsErr [] l))∧Below w.heap.size w w':=by
 obtain ⟨A,c,rfl,hc⟩:=hv.shape
 generalize hrr:Idn.valsErr [] l=r
 have HR:=Lib.hid hrr
 clear hrr
 have hl9:=hs.1
 go_enter Tryz.func129,Tryz.ntmps129
 go_wp2
 go_loopw [3,4,7] (fun _ _ i wr=>∃k:Nat,k≤l.length∧i=.int .i64 k∧Below w.heap.size w wr∧Hid (r=Idn.valsErr (l.take k) (l.drop k))) (fun _ _ i _=>l.length-(intOf i).toNat)
 case atStart=>exact ⟨0,Nat.zero_le _,rfl,Below.refl _ _,by show _=_;rw[←HR.out];simp⟩
 case round=>
  obtain ⟨k,hk,rfl,hb,hinv⟩:=hrel
  by_cases hlt:k<l.length
  ·obtain ⟨b,off,rfl,hbl,c0⟩:=StrsV.cell (SlV.keep hv hb) hlt
   have hltI:(k:Int)<(l.length:Int):=by omega
   have hkc:(k:Int)≤(c:Int):=by omega
   have hk0:(0:Int)≤(k:Int):=by omega
   obtain ⟨s1,s2,s3⟩:=Idn.vals_step l k hlt _ hinv.out
   have hsz:=hs.2 l[k] (List.getElem_mem hlt)
   have hC:=clean_any (B l[k]) wr (by rw[Idn.size_B];omega)
   rw[Idn.L_B]at hC
   clear hinv
   cases h1:Idn.clean l[k]
   ·have HF:Hid (r=4):=s1 h1
    rw[h1]at hC
    clear s1 s2 s3 h1
    go_wp2_with (go_at_call 193;refine hC.mono ?_;rintro e w2 ⟨rfl,hb2⟩)
    go_ret
    exact ⟨ret_int (by rw[HF.out]),hb.trans (hb2.mono hb.size)⟩
   ·rw[h1]at hC
    have hCt:=fun W (hW:Below w.heap.size w W)=>contains_any _ (l.take k) (B l[k]) W (SlV.take (SlV.mono (SlV.keep hv hW) hW.size) k hk) (by rw[List.length_take];omega)
    rw[Idn.L_B]at hCt
    cases h2:(l.take k).contains l[k]
    ·have HF:Hid (r=Idn.valsErr (l.take (k+1)) (l.drop (k+1))):=s3 h1 h2
     rw[h2]at hCt
     clear s1 s2 s3 h1 h2
     go_wp2_with (first|(go_at_call 193;refine hC.mono ?_;rintro e w2 ⟨rfl,hb2⟩)|(go_at_call 194;refine (hCt _ (hb.trans (hb2.mono hb.size))).mono ?_;rintro e w3 ⟨rfl,rfl⟩))
     go_roundw
     case rel=>exact ⟨k+1,by omega,by go_num,hb.trans (hb2.mono hb.size),HF⟩
     case measure=>simp[intOf];omega
    ·have HF:Hid (r=7):=s2 h1 h2
     rw[h2]at hCt
     clear s1 s2 s3 h1 h2
     go_wp2_with (first|(go_at_call 193;refine hC.mono ?_;rintro e w2 ⟨rfl,hb2⟩)|(go_at_call 194;refine (hCt _ (hb.trans (hb2.mono hb.size))).mono ?_;rintro e w3 ⟨rfl,rfl⟩))
     go_ret
     exact ⟨ret_int (by rw[HF.out]),hb.trans (hb2.mono hb.size)⟩
  ·have HF:Hid (r=0):=by show _=_;rw[hinv.out,List.drop_eq_nil_of_le (by omega)];rfl
   have hltI:¬(k:Int)<(l.length:Int):=by omega
   clear hinv
   go_wp2
   go_ret
   exact ⟨ret_int (by rw[HF.out]),hb⟩
end Go.Proofs.YtbkkchhimhlhcaaGreatDoor
/- Walks of the reference of layer 1 (identityref01): Lower, Trim, Fold, Clean, Name. -/
namespace Go.Proofs.YtbkkchhimhlhcaaGreatDoor
open Go.RowKit
open Idn (L B Bs drop_L take_L size_L)
theorem r_letter_any (c : UInt8) (w : World) :
  Calls Tryz.prog 161 #[.int .u8 (c.toNat:Int)] w fun e w'=>e=.returned (.bool (Idn.letter c))∧w=w':=by
 have hl:=byte_lt c
 by_cases h1:(97:Int)≤(c.toNat:Int)<;>by_cases h2:(c.toNat:Int)≤122<;>by_cases h3:(65:Int)≤(c.toNat:Int)
 all_goals
  go_enter Tryz.func161,Tryz.ntmps161
  go_wp2
  go_ret
  exact ⟨ret_bool (by rw[Bool.eq_iff_iff];simp[Idn.letter,Idn.up];omega),rfl⟩
theorem r_digit_any (c : UInt8) (w : World) :
  Calls Tryz.prog 162 #[.int .u8 (c.toNat:Int)] w fun e w'=>e=.returned (.bool (Idn.digit c))∧w=w':=by
 by_cases h1:(48:Int)≤(c.toNat:Int)
 all_goals
  go_enter Tryz.func162,Tryz.ntmps162
  go_wp2
  go_ret
  exact ⟨ret_bool (by rw[Bool.eq_iff_iff];simp[Idn.digit];omega),rfl⟩
theorem sub65 (x:UInt8) (h:(x.toNat:Int)≤90):bc (x+32)=Value.int .u8 ((x.toNat:Int)+97-65):=by
 have h1:((x+32).toNat:Int)=(x.toNat:Int)+97-65:=by
  rw[UInt8.toNat_add];simp;omega
 rw[bc,h1]
theorem r_lower_any (s : ByteArray) (w : World) (hs : s.size ≤ 1000000000000) :
  Calls Tryz.prog 56 #[.string s] w fun e w'=>e=.returned (.string (B (Idn.lower (L s))))∧Below w.heap.size w w':=by
 go_enter Tryz.func56,Tryz.ntmps56
 go_wp2
 go_loopw [3,4,5] (fun v i _ wr=>∃k:Nat,k≤s.size∧i=.int .i64 k∧wr.ownsRow w.heap.size 5 1 v ((L s).take k).length ((Idn.lower ((L s).take k)).map bc)∧Below w.heap.size w wr) (fun _ i _ _=>s.size-(intOf i).toNat)
 case atStart=>exact ⟨0,Nat.zero_le _,rfl,World.ownsRow_nil _ _ _ _,Below.refl _ _⟩
 case round=>
  obtain ⟨k,hk,rfl,hown,hb⟩:=hrel
  have hlen:((L s).take k).length=k:=by rw[List.length_take];have:=size_L s;omega
  rw[hlen]at hown
  by_cases hlt:k<s.size
  ·have ht:Idn.lower ((L s).take (k+1))=Idn.lower ((L s).take k)++[Idn.low s[k]]:=by rw[take_L s k hlt];simp[Idn.lower]
   have hlen':((L s).take (k+1)).length=k+1:=by rw[List.length_take];have:=size_L s;omega
   have HT:=Lib.hid ht
   have HL:=Lib.hid hlen'
   clear ht hlen hlen'
   cases hu:Idn.up s[k]
   ·have hlow:Hid (bc (Idn.low s[k])=Value.int .u8 (s[k].toNat:Int)):=by show _=_;simp[Idn.low,hu,bc]
    have hu':(s[k].toNat:Int)<65∨90<(s[k].toNat:Int):=by simp[Idn.up]at hu;omega
    clear hu
    by_cases h65:(65:Int)≤(s[k].toNat:Int)
    all_goals
     go_wp2_with (at_builtin;refine wpList_push wr rfl _ _ 179 rfl w.heap.size 5 (.int .u8 0) 1 1 Tryz.underlying179 info_u8 rfl (by decide) _ k _ hown rfl [.int .u8 (s[k].toNat:Int)] rfl rfl (by intro u hu;simp at hu;subst hu;rfl) (by omega) hb.size ?_ rfl)
     intro v' w1' hown' _ _ hb' _
     clear hown
     go_wp2
     go_roundw
     case rel=>exact ⟨k+1,by omega,by go_num,by rw[HL.out,HT.out,List.map_append];simp only[List.map_cons,List.map_nil];rw[hlow.out];exact hown',hb.trans hb'⟩
     case measure=>simp[intOf];omega
   ·have h65:(65:Int)≤(s[k].toNat:Int):=by simp[Idn.up]at hu;omega
    have h90:(s[k].toNat:Int)≤90:=by simp[Idn.up]at hu;omega
    have hlow:Hid (bc (Idn.low s[k])=Value.int .u8 ((s[k].toNat:Int)+97-65)):=by show _=_;simp only[Idn.low,hu,if_true];exact sub65 _ h90
    clear hu
    go_wp2_with (at_builtin;refine wpList_push wr rfl _ _ 179 rfl w.heap.size 5 (.int .u8 0) 1 1 Tryz.underlying179 info_u8 rfl (by decide) _ k _ hown rfl _ rfl rfl (by intro u hu;simp at hu;subst hu;rfl) (by omega) hb.size ?_ rfl)
    intro v' w1' hown' _ _ hb' _
    clear hown
    go_wp2
    go_roundw
    case rel=>exact ⟨k+1,by omega,by go_num,by rw[HL.out,HT.out,List.map_append];simp only[List.map_cons,List.map_nil];rw[hlow.out];exact hown',hb.trans hb'⟩
    case measure=>simp[intOf];omega
  ·have e1:(L s).take k=L s:=List.take_of_length_le (by have:=size_L s;omega)
   rw[e1]at hown
   have hown2:wr.ownsRow w.heap.size 5 1 u3 (Idn.lower (L s)).length ((Idn.lower (L s)).map bc):=by
    rw[Idn.length_lower,(show (L s).length=k by rw[←e1];exact hlen)];exact hown
   clear hown e1 hlen
   go_wp2_with (with_reducible refine wpList_str _ rfl _ 179 9 5 rfl Tryz.underlying179 Tryz.underlying9 Tryz.underlying5 w.heap.size _ _ hown2 rfl ?_)
   go_wp2
   go_ret
   exact ⟨rfl,hb⟩
theorem trimL_drop (s:ByteArray) (h:0<s.size) (h32:s[0]=32):Idn.trimL (L (s.extract 1 s.size))=Idn.trimL (L s):=by
 have hd:=drop_L s 0 h
 simp only[List.drop_zero]at hd
 rw[extract_drop,Idn.L_B,hd]
 simp[Idn.trimL,h32]
theorem trimL_here (s:ByteArray) (h:0<s.size) (h32:¬s[0]=32):Idn.trimL (L s)=L s:=by
 have hd:=drop_L s 0 h
 simp only[List.drop_zero]at hd
 rw[hd];exact Idn.trimL_of_head _ _ h32
theorem trimL_zero (s:ByteArray) (h:¬0<s.size):Idn.trimL (L s)=L s:=by
 have hd:=drop_end s 0 h
 simp only[List.drop_zero]at hd
 rw[hd];rfl
theorem snoc_L (s:ByteArray) (h:0<s.size):L s=L (s.extract 0 (s.size-1))++[s[s.size-1]]:=by
 rw[extract_take,Idn.L_B]
 have h1:=take_L s (s.size-1) (by omega)
 rw[←h1,List.take_of_length_le (by have:=size_L s;omega)]
def trimR (l:Bs):Bs:=(Idn.trimL l.reverse).reverse
theorem trimR_drop (s:ByteArray) (h:0<s.size) (h32:s[s.size-1]=32):trimR (L (s.extract 0 (s.size-1)))=trimR (L s):=by
 rw[snoc_L s h];simp[trimR,Idn.trimL,h32]
theorem trimR_here (s:ByteArray) (h:0<s.size) (h32:¬s[s.size-1]=32):trimR (L s)=L s:=by
 rw[snoc_L s h];simp[trimR,Idn.trimL,h32]
theorem trimR_zero (s:ByteArray) (h:¬0<s.size):trimR (L s)=L s:=by
 have hd:=drop_end s 0 h
 simp only[List.drop_zero]at hd
 rw[hd];rfl
theorem r_trim_any (s : ByteArray) (w : World) (hs : s.size ≤ 1000000000000) :
  Calls Tryz.prog 270 #[.string s] w fun e w'=>e=.returned (.string (B (Idn.trim (L s))))∧w=w':=by
 go_enter Tryz.func270,Tryz.ntmps270
 go_wp2
 go_loop [0] (fun t=>∃x:ByteArray,t=.string x∧x.size≤s.size∧Hid (Idn.trimL (L x)=Idn.trimL (L s))) (fun t=>strLen t)
 case atStart=>exact ⟨s,rfl,Nat.le_refl _,rfl⟩
 case round=>
  obtain ⟨x,rfl,hx,hinv⟩:=hrel
  by_cases hgo:∃h:0<x.size,x[0]=32
  ·obtain ⟨h0,h32⟩:=hgo
   have e1:((x[0].toNat:Int)==32)=true:=by rw[h32];rfl
   have HF:Hid (Idn.trimL (L (x.extract 1 x.size))=Idn.trimL (L s)):=by show _=_;rw[trimL_drop x h0 h32];exact hinv.out
   have hsz:(x.extract 1 x.size).size=x.size-1:=by simp
   clear h32
   go_wp2
   go_round
   case rel=>exact ⟨_,rfl,by omega,HF⟩
   case measure=>simp[strLen];omega
  ·have HX : Hid (L x = Idn.trimL (L s)) := by
    show _=_
    rw[←hinv.out]
    by_cases h0:0<x.size
    ·exact (trimL_here x h0 (fun h=>hgo ⟨h0,h⟩)).symm
    ·exact (trimL_zero x h0).symm
   have hcase:(∃h:0<x.size,((x[0].toNat:Int)==32)=false)∨¬0<x.size:=by
    by_cases h0:0<x.size
    ·exact .inl ⟨h0,byte_not (d:=32) (fun h=>hgo ⟨h0,h⟩)⟩
    ·exact .inr h0
   clear hinv hgo
   rcases hcase with ⟨h0,e1⟩|h0
   all_goals
    go_wp2
    go_loop [0] (fun t=>∃y:ByteArray,t=.string y∧y.size≤s.size∧Hid (trimR (L y)=trimR (L x))) (fun t=>strLen t)
    case atStart=>exact ⟨x,rfl,hx,rfl⟩
    case round=>
     obtain ⟨y,rfl,hy,hinv⟩:=hrel
     by_cases hgo:∃h:0<y.size,y[y.size-1]=32
     ·obtain ⟨h1,h32⟩:=hgo
      have e2:((y[y.size-1].toNat:Int)==32)=true:=by rw[h32];rfl
      have HF:Hid (trimR (L (y.extract 0 (y.size-1)))=trimR (L x)):=by show _=_;rw[trimR_drop y h1 h32];exact hinv.out
      have hsz:(y.extract 0 (y.size-1)).size=y.size-1:=by simp
      clear h32
      go_wp2
      go_round
      case rel=>exact ⟨_,rfl,by omega,HF⟩
      case measure=>simp[strLen];omega
     ·have HY : Hid (L y = Idn.trim (L s)) := by
       show _=_
       have h1:trimR (L y)=L y:=by
        by_cases h1:0<y.size
        ·exact trimR_here y h1 (fun h=>hgo ⟨h1,h⟩)
        ·exact trimR_zero y h1
       rw[←h1,hinv.out,HX.out];rfl
      have hcase:(∃h:0<y.size,((y[y.size-1].toNat:Int)==32)=false)∨¬0<y.size:=by
       by_cases h1:0<y.size
       ·exact .inl ⟨h1,byte_not (d:=32) (fun h=>hgo ⟨h1,h⟩)⟩
       ·exact .inr h1
      clear hinv hgo
      rcases hcase with ⟨h1,e2⟩|h1
      all_goals
       go_wp2
       go_ret
       exact ⟨ret_str (by rw[←HY.out];rfl),rfl⟩
theorem r_fold_any (s : ByteArray) (w : World) (hs : s.size ≤ 1000000000000) :
  Calls Tryz.prog 222 #[.string s] w fun e w'=>e=.returned (.string (B (Idn.fold (L s))))∧Below w.heap.size w w':=by
 have hT:=r_trim_any s w hs
 have hl1:=Idn.length_trim (L s)
 have hlow:=fun W=>r_lower_any (B (Idn.trim (L s))) W (by rw[Idn.size_B];have:=size_L s;omega)
 go_enter Tryz.func222,Tryz.ntmps222
 go_wp2_with (first|(go_at_call 270;refine hT.mono ?_;rintro e w1 ⟨rfl,rfl⟩)|(go_at_call 56;refine (hlow _).mono ?_;rintro e w2 ⟨rfl,hb2⟩))
 have ht:L (B (Idn.lower (L (B (Idn.trim (L s))))))=Idn.lower (Idn.trim (L s)):=rfl
 have hsz:(B (Idn.lower (L (B (Idn.trim (L s)))))).size≤s.size:=by
  rw[Idn.size_B,Idn.length_lower]
  show (Idn.trim (L s)).length≤_
  have:=size_L s;omega
 generalize B (Idn.lower (L (B (Idn.trim (L s)))))=t at *
 have Ht:=Lib.hid ht
 clear ht hlow hT hl1
 go_loopw [4,5] (fun v i wr=>∃(k:Nat) (acc:Bs),k≤t.size∧i=.int .i64 k∧wr.ownsRow w.heap.size 5 1 v acc.length (acc.map bc)∧Below w.heap.size w wr∧acc.length≤k∧Hid (acc++Idn.sq (prevB (L t) k) ((L t).drop k)=Idn.fold (L s))) (fun _ i _=>t.size-(intOf i).toNat)
 case atStart=>exact ⟨0,[],Nat.zero_le _,rfl,World.ownsRow_nil _ _ _ _,hb2,Nat.le_refl _,by show _=_;rw[Ht.out];rfl⟩
 case round=>
  obtain ⟨k,acc,hk,rfl,hown,hb,hacc,hinv⟩:=hrel
  clear hb2
  by_cases hlt:k<t.size
  ·have hd:=drop_L t k hlt
   have hprev:prevB (L t) (k+1)=t[k]:=by
    have:=Idn.get_L t k hlt
    simp only[prevB,Nat.add_sub_cancel]
    rw[if_neg (by omega),←this,List.getD_eq_getElem?_getD,List.getElem?_eq_getElem];rfl
   by_cases hkeep:t[k]=32∧prevB (L t) k=32
   ·have hk0:k≠0:=by intro e;have h2:=hkeep.2;rw[prevB,if_pos e]at h2;exact absurd h2 (by decide)
    have hk1:(1:Int)≤(k:Int):=by omega
    have hp:t[k-1]'(by omega)=32:=by
     have h2:=hkeep.2
     rw[prevB,if_neg hk0,List.getD_eq_getElem?_getD,List.getElem?_eq_getElem (by have:=size_L t;omega)]at h2
     exact h2
    have h0:((k:Int)==0)=false:=by simp;omega
    have h1:((t[k].toNat:Int) !=32)=false:=by rw[hkeep.1];rfl
    have h2:((t[k-1].toNat:Int) !=32)=false:=by rw[hp];rfl
    have HF:Hid (acc++Idn.sq (prevB (L t) (k+1)) ((L t).drop (k+1))=Idn.fold (L s)):=by
     show _=_
     rw[←hinv.out,hd,hprev,hkeep.1,hkeep.2];simp[Idn.sq]
    clear hd hprev hkeep hp
    go_wp2
    go_roundw
    case rel=>exact ⟨k+1,acc,by omega,by go_num,hown,hb,by omega,HF⟩
    case measure=>simp[intOf];omega
   ·have HF : Hid ((acc ++ [t[k]]) ++ Idn.sq (prevB (L t) (k+1)) ((L t).drop (k+1)) = Idn.fold (L s)) := by
     show _=_
     rw[←hinv.out,hd,hprev,Idn.sq_keep _ _ _ hkeep,List.append_assoc];rfl
    clear hd hprev
    have hcase:((k:Int)==0)=true∨(((k:Int)==0)=false∧((t[k].toNat:Int) !=32)=true)∨(((k:Int)==0)=false∧((t[k].toNat:Int) !=32)=false∧(1:Int)≤(k:Int)∧((t[k-1].toNat:Int) !=32)=true):=by
     by_cases hk0:k=0
     ·exact .inl (by simp;omega)
     ·have h0:((k:Int)==0)=false:=by simp;omega
      by_cases hx:t[k]=32
      ·refine .inr (.inr ⟨h0,by rw[hx];rfl,by omega,?_⟩)
       rw[bne_iff_ne];intro e
       apply hkeep
       refine ⟨hx,?_⟩
       rw[prevB,if_neg hk0,List.getD_eq_getElem?_getD,List.getElem?_eq_getElem (by have:=size_L t;omega)]
       show t[k-1]=32
       apply UInt8.toNat_inj.1
       simpa using (by omega:t[k-1].toNat=32)
      ·refine .inr (.inl ⟨h0,?_⟩)
       rw[bne_iff_ne];intro e
       apply hx
       apply UInt8.toNat_inj.1
       simpa using (by omega:t[k].toNat=32)
    clear hkeep
    rcases hcase with h0|⟨h0,h1⟩|⟨h0,h1,hk1,h2⟩
    all_goals
     go_wp2_with (at_builtin;refine wpList_push wr rfl _ _ 179 rfl w.heap.size 5 (.int .u8 0) 1 1 Tryz.underlying179 info_u8 rfl (by decide) _ acc.length _ hown rfl [bc t[k]] rfl rfl (by intro u hu;simp at hu;subst hu;rfl) (by omega) hb.size ?_ rfl)
     intro v' w1' hown' _ _ hb' _
     clear hown
     go_wp2
     go_roundw
     case rel=>exact ⟨k+1,acc++[t[k]],by omega,by go_num,by simpa using hown',hb.trans hb',by simp;omega,HF⟩
     case measure=>simp[intOf];omega
  ·go_wp2_with (with_reducible refine wpList_str _ rfl _ 179 9 5 rfl Tryz.underlying179 Tryz.underlying9 Tryz.underlying5 w.heap.size _ acc hown rfl ?_)
   go_wp2
   go_ret
   refine ⟨ret_str (congrArg B ?_),hb⟩
   have e2:(L t).drop k=[]:=List.drop_eq_nil_of_le (by have:=size_L t;omega)
   rw[←hinv.out,e2];simp[Idn.sq]
end Go.Proofs.YtbkkchhimhlhcaaGreatDoor
/- Walks of the reference of layer 1 (identityref01): Clean, Name. -/
namespace Go.Proofs.YtbkkchhimhlhcaaGreatDoor
open Go.RowKit
open Idn (L B Bs drop_L take_L size_L)
theorem length_trimR (l:Bs):(trimR l).length≤l.length:=by
 have:=Idn.length_trimL l.reverse
 simpa[trimR]using this
theorem trim_eq_trimR (l:Bs):Idn.trim l=trimR (Idn.trimL l):=rfl
theorem trim_self (s:ByteArray) (h:0<s.size) (h1:¬s[0]=32) (h2:¬s[s.size-1]=32):Idn.trim (L s)=L s:=by
 rw[trim_eq_trimR,trimL_here s h h1,trimR_here s h h2]
theorem trim_less1 (s:ByteArray) (h:0<s.size) (h1:s[0]=32):(Idn.trim (L s)==L s)=false:=by
 rw[beq_eq_false_iff_ne];intro e
 have e1:=congrArg List.length e
 rw[trim_eq_trimR,←trimL_drop s h h1]at e1
 have a:=length_trimR (Idn.trimL (L (s.extract 1 s.size)))
 have b:=Idn.length_trimL (L (s.extract 1 s.size))
 have c:(L (s.extract 1 s.size)).length=s.size-1:=by rw[←size_L];simp
 have d:=size_L s
 omega
theorem trim_less2 (s:ByteArray) (h:0<s.size) (h1:¬s[0]=32) (h2:s[s.size-1]=32):(Idn.trim (L s)==L s)=false:=by
 rw[beq_eq_false_iff_ne];intro e
 have e1:=congrArg List.length e
 rw[trim_eq_trimR,trimL_here s h h1,←trimR_drop s h h2]at e1
 have a:=length_trimR (L (s.extract 0 (s.size-1)))
 have c:(L (s.extract 0 (s.size-1))).length=s.size-1:=by rw[←size_L];simp
 have d:=size_L s
 omega
theorem r_clean_any (s : ByteArray) (w : World) (hs : s.size ≤ 1000000000000) :
  Calls Tryz.prog 200 #[.string s] w fun e w'=>e=.returned (.bool (Idn.clean (L s)))∧w=w':=by
 have HSZ:=Lib.hid (size_L s)
 by_cases h0:0<s.size
 ·have hne:(L s).isEmpty=false:=empty_false s h0
  by_cases h256:s.size≤256
  ·by_cases hbad:s[0]=32∨s[s.size-1]=32
   ·have HF : Hid (Idn.clean (L s) = false) := by
     show _=_
     have:(Idn.trim (L s)==L s)=false:=by
      by_cases h1:s[0]=32
      ·exact trim_less1 s h0 h1
      ·exact trim_less2 s h0 h1 (hbad.resolve_left h1)
     simp[Idn.clean,this]
    have hcase:((s[0].toNat:Int)==32)=true∨(((s[0].toNat:Int)==32)=false∧((s[s.size-1].toNat:Int)==32)=true):=by
     by_cases h1:s[0]=32
     ·exact .inl (byte_is (d:=32) h1)
     ·exact .inr ⟨byte_not (d:=32) h1,byte_is (d:=32) (hbad.resolve_left h1)⟩
    clear hbad
    rcases hcase with e1|⟨e1,e2⟩
    all_goals
     go_enter Tryz.func200,Tryz.ntmps200
     go_wp2
     go_ret
     exact ⟨ret_bool HF.out.symm,rfl⟩
   ·have h1:¬s[0]=32:=fun h=>hbad (.inl h)
    have h2:¬s[s.size-1]=32:=fun h=>hbad (.inr h)
    have e1:=byte_not (d:=32) h1
    have e2:=byte_not (d:=32) h2
    replace e1:((s[0].toNat:Int)==32)=false:=e1
    replace e2:((s[s.size-1].toNat:Int)==32)=false:=e2
    have HC:Hid (Idn.clean (L s)=(L s).all Idn.printable):=by
     show _=_
     have:(L s).length≤256:=by have:=HSZ.out;omega
     simp[Idn.clean,trim_self s h0 h1 h2,hne,this]
    clear hbad h1 h2
    go_enter Tryz.func200,Tryz.ntmps200
    go_wp2
    go_loop [3] (fun i=>∃k:Nat,k≤s.size∧i=.int .i64 k∧Hid ((L s).all Idn.printable=((L s).drop k).all Idn.printable)) (fun i=>s.size-(intOf i).toNat)
    case atStart=>exact ⟨0,Nat.zero_le _,rfl,rfl⟩
    case round=>
     obtain ⟨k,hk,rfl,hinv⟩:=hrel
     clear e1 e2
     by_cases hlt:k<s.size
     ·have hd:=drop_L s k hlt
      by_cases hp:Idn.printable s[k]=true
      ·have h1:(32:Int)≤(s[k].toNat:Int):=by simp[Idn.printable]at hp;omega
       have h2:(s[k].toNat:Int)≤126:=by simp[Idn.printable]at hp;omega
       have HF:Hid ((L s).all Idn.printable=((L s).drop (k+1)).all Idn.printable):=by show _=_;rw[hinv.out,hd];simp[hp]
       clear hd hp
       go_wp2
       go_round
       case rel=>exact ⟨k+1,by omega,by go_num,HF⟩
       case measure=>simp[intOf];omega
      ·have HF:Hid ((L s).all Idn.printable=false):=by show _=_;rw[hinv.out,hd];simp[hp]
       have hc:(s[k].toNat:Int)<32∨126<(s[k].toNat:Int):=by simp[Idn.printable]at hp;omega
       clear hd hp
       rcases hc with hc|hc
       all_goals
        go_wp2
        go_ret
        exact ⟨ret_bool (by rw[HC.out,HF.out]),rfl⟩
     ·have HF:Hid ((L s).all Idn.printable=true):=by show _=_;rw[hinv.out,drop_end s k hlt];rfl
      go_wp2
      go_ret
      exact ⟨ret_bool (by rw[HC.out,HF.out]),rfl⟩
  ·have HF : Hid (Idn.clean (L s) = false) := by
    show _=_
    have:¬(L s).length≤256:=by have:=HSZ.out;omega
    simp[Idn.clean,this]
   go_enter Tryz.func200,Tryz.ntmps200
   go_wp2
   go_ret
   exact ⟨ret_bool HF.out.symm,rfl⟩
 ·have HF : Hid (Idn.clean (L s) = false) := by
   show _=_
   have:(L s).isEmpty=true:=empty_true s h0
   simp[Idn.clean,this]
  go_enter Tryz.func200,Tryz.ntmps200
  go_wp2
  go_ret
  exact ⟨ret_bool HF.out.symm,rfl⟩
theorem r_name_any (s : ByteArray) (w : World) (hs : s.size ≤ 1000000000000) :
    Calls Tryz.prog 84 #[.string s] w fun e w'=>e=.returned (.bool (Idn.name (L s)))∧w=w':=by
 have HSZ:=Lib.hid (size_L s)
 by_cases h0:0<s.size
 ·have hne:(L s).isEmpty=false:=empty_false s h0
  have hL0:=r_letter_any s[0] w
  by_cases h64:s.size≤64
  ·cases hl:Idn.letter s[0]
   ·rw[hl]at hL0
    have HF:Hid (Idn.name (L s)=false):=by show _=_;rw[Idn.name,head_L s h0,hl];simp
    clear hl
    go_enter Tryz.func84,Tryz.ntmps84
    go_wp2_with (go_at_call 161;refine hL0.mono ?_;rintro e w' ⟨rfl,rfl⟩)
    go_ret
    exact ⟨ret_bool HF.out.symm,rfl⟩
   ·rw[hl]at hL0
    have HC:Hid (Idn.name (L s)=(L s).all Idn.nameC):=by
     show _=_
     have:(L s).length≤64:=by have:=HSZ.out;omega
     rw[Idn.name,head_L s h0,hl];simp[Idn.made,hne,this]
    clear hl
    go_enter Tryz.func84,Tryz.ntmps84
    go_wp2_with (go_at_call 161;refine hL0.mono ?_;rintro e w' ⟨rfl,rfl⟩)
    go_loop [3] (fun i=>∃k:Nat,k≤s.size∧i=.int .i64 k∧Hid ((L s).all Idn.nameC=((L s).drop k).all Idn.nameC)) (fun i=>s.size-(intOf i).toNat)
    case atStart=>exact ⟨0,Nat.zero_le _,rfl,rfl⟩
    case round=>
     obtain ⟨k,hk,rfl,hinv⟩:=hrel
     clear hL0
     by_cases hlt:k<s.size
     ·have hd:=drop_L s k hlt
      have hL:=r_letter_any s[k] w
      have hD:=r_digit_any s[k] w
      cases h1:Idn.letter s[k]<;>cases h2:Idn.digit s[k]<;>cases h3:s[k]==45
      all_goals
       rw[h1]at hL
       rw[h2]at hD
       have e3:((s[k].toNat:Int) !=45)=!(s[k]==45):=byte_ne _ 45
       rw[h3]at e3
       first
        | (have HF : Hid ((L s).all Idn.nameC = ((L s).drop (k+1)).all Idn.nameC) := by
             show _=_;rw[hinv.out,hd];simp[Idn.nameC,h1,h2,h3];done
           clear hd h1 h2 h3
           go_wp2_with (first|(go_at_call 161;refine hL.mono ?_;rintro e w' ⟨rfl,rfl⟩)|(go_at_call 162;refine hD.mono ?_;rintro e w' ⟨rfl,rfl⟩))
           go_round
           case rel=>exact ⟨k+1,by omega,by go_num,HF⟩
           case measure=>simp[intOf];omega)
        | (have HF : Hid ((L s).all Idn.nameC = false) := by
             show _=_;rw[hinv.out,hd];simp[Idn.nameC,h1,h2,h3];done
           clear hd h1 h2 h3
           go_wp2_with (first|(go_at_call 161;refine hL.mono ?_;rintro e w' ⟨rfl,rfl⟩)|(go_at_call 162;refine hD.mono ?_;rintro e w' ⟨rfl,rfl⟩))
           go_ret
           exact ⟨ret_bool (by rw[HC.out,HF.out]),rfl⟩)
     ·have HF:Hid ((L s).all Idn.nameC=true):=by show _=_;rw[hinv.out,drop_end s k hlt];rfl
      go_wp2
      go_ret
      exact ⟨ret_bool (by rw[HC.out,HF.out]),rfl⟩
  ·have HF : Hid (Idn.name (L s) = false) := by
     show _=_
     have:¬(L s).length≤64:=by have:=HSZ.out;omega
     simp[Idn.name,Idn.made,this]
   clear hL0
   go_enter Tryz.func84,Tryz.ntmps84
   go_wp2
   go_ret
   exact ⟨ret_bool HF.out.symm,rfl⟩
 ·have HF : Hid (Idn.name (L s) = false) := by
    show _=_
    have:(L s).isEmpty=true:=empty_true s h0
    simp[Idn.name,Idn.made,this]
  go_enter Tryz.func84,Tryz.ntmps84
  go_wp2
  go_ret
  exact ⟨ret_bool HF.out.symm,rfl⟩
end Go.Proofs.YtbkkchhimhlhcaaGreatDoor
/- Walks of the reference of layer 7: Lists, same. -/
namespace Go.Proofs.YtbkkchhimhlhcaaGreatDoor
open Go.RowKit
open Idn (L B Bs drop_L take_L size_L)
end Go.Proofs.YtbkkchhimhlhcaaGreatDoor
/- Walks of the reference of layer 7: typeAt, classAt. -/
namespace Go.Proofs.YtbkkchhimhlhcaaGreatDoor
open Go.RowKit
open Idn (L B Bs drop_L take_L size_L)
end Go.Proofs.YtbkkchhimhlhcaaGreatDoor
/- Walks of the reference of layer 7: class. -/
namespace Go.Proofs.YtbkkchhimhlhcaaGreatDoor
open Go.RowKit Go.Sort
open Idn (L B Bs drop_L take_L size_L)
end Go.Proofs.YtbkkchhimhlhcaaGreatDoor
/- Walks of the reference of layer 7: class, the last way. -/
namespace Go.Proofs.YtbkkchhimhlhcaaGreatDoor
open Go.RowKit Go.Sort
open Idn (L B Bs drop_L take_L size_L)
end Go.Proofs.YtbkkchhimhlhcaaGreatDoor
/- Walks of the reference of layer 7: class joined, Check. -/
namespace Go.Proofs.YtbkkchhimhlhcaaGreatDoor
open Go.RowKit Go.Sort
open Idn (L B Bs drop_L take_L size_L)
end Go.Proofs.YtbkkchhimhlhcaaGreatDoor
/- What an entry reads as. -/
namespace Go.Proofs.YtbkkchhimhlhcaaGreatDoor
open Go.RowKit Go.Sort
open Idn (L B Bs)
def EntV (w:World) (hi:Nat) (v:Value) (l:List Idn.Att):Prop:=∃nm a,v=.agg #[.string nm,a]∧AttsV w hi a l
theorem EntV.keep {w w':World} {hi:Nat} {v:Value} {l:List Idn.Att} (h:EntV w hi v l) (hb:Below hi w w'):EntV w' hi v l:=by
 obtain ⟨nm,a,e,h1⟩:=h
 exact ⟨nm,a,e,AttsV.keep h1 hb⟩
theorem EntV.mono {w:World} {hi hi':Nat} {v:Value} {l:List Idn.Att} (h:EntV w hi v l) (hh:hi≤hi'):EntV w hi' v l:=by
 obtain ⟨nm,a,e,h1⟩:=h
 exact ⟨nm,a,e,AttsV.mono h1 hh⟩
end Go.Proofs.YtbkkchhimhlhcaaGreatDoor
/- fold.Lower, with what it draws; worlds behind draws and new blocks. -/
namespace Go.Proofs.YtbkkchhimhlhcaaGreatDoor
open Go.RowKit Go.Sort
open Idn (L B Bs drop_L take_L size_L)
theorem grown_form {w w':World} (hb:Below w.heap.size w w') (hd:w.drawn≤w'.drawn):∃q os,w'=grow (w.drewN q) os:=by
 obtain ⟨⟨d,os⟩,rfl⟩:=regrown_of_below hb
 refine ⟨d-w.drawn,os,?_⟩
 have hd':w.drawn≤d:=hd
 have e:w.drawn+(d-w.drawn)=d:=by omega
 show grow (redrawn w d) os=grow { w with drawn:=w.drawn+(d-w.drawn) } os
 rw[e];rfl
end Go.Proofs.YtbkkchhimhlhcaaGreatDoor
