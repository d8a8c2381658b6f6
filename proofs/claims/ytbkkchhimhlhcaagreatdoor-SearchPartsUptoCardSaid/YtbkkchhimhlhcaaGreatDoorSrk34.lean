/- Part 34 of the proof that identitylaw12.SearchChecks returns true for every data that it may be called with: proof: the package variables hold what the program lays; nothing else is asked. -/
import Derived.Test.YtbkkchhimhlhcaaGreatDoorSrk30
import Derived.Test.YtbkkchhimhlhcaaGreatDoorSrk31
import Derived.Shelf.SlIter.Nil
set_option linter.unusedVariables false
set_option linter.unusedSimpArgs false
set_option maxRecDepth 100000
set_option maxHeartbeats 16000000
/- Lists of names in order: slices.SortFunc by name.Compare; the names of a set, in order. -/
namespace Go.Proofs.YtbkkchhimhlhcaaGreatDoor
open Go.RowKit Go.Sort Go.Maps
open Idn (L B Bs)
theorem compareD_any (a b : Bs) (w : World) (ha : a.length ≤ 1000000000) (hb : b.length ≤ 1000000000) :
  Calls Tryz.prog 41 #[sv a,sv b] w fun e w'=>e=.returned (.int .i64 (cmpNm a b))∧∃q os',w'=grow (w.drewN q) os':=by
 have h:=calls_drawn_up (nm_compare_any (B a) (B b) w (by rw[Idn.size_B];exact ha) (by rw[Idn.size_B];exact hb)) (fun e w' h he=>by rw[he]at h;cases h.1)
 rw[Idn.L_B,Idn.L_B]at h
 exact h.mono fun e w' ⟨⟨he,hb⟩,hd⟩=>⟨he,grown_form hb hd⟩
theorem fn_compare:∀args w,(callFunc 41 args).run Tryz.prog w=.ok (.enter 41 args) w:=enters_of Tryz.func41 (by kernel_rfl) rfl
section
variable {α:Type} [Inhabited α] (enc:α→Value)
theorem heap_sortedN {w : World} {g n : Nat} {os : Array Obj} {cur : Array Value} {e : TypeId} {fr : Nat × Nat} (d : Array α) (hb : w.heap[g]? = some (.cells cur e fr)) :
  (grow (putRow enc (Go.Sort.ahead w n) g 0 d) os).heap[g]?=some (.cells (putCells enc 0 d cur) e fr):=by
 have hg:g<w.heap.size:=(Array.getElem?_eq_some_iff.1 hb).1
 rw[heap_grow_old _ _ (by simpa using hg)]
 simp[putRow,mapBlock,Go.Sort.ahead,Array.getElem?_modify,hb,onCells]
theorem grownBy_sortedN {w:World} {g n:Nat} {os:Array Obj} (d:Array α):w.grownBy (grow (putRow enc (Go.Sort.ahead w n) g 0 d) os) (some g):=by
 refine ⟨rfl,rfl,rfl,by simp,fun k hk hne=>?_⟩
 rw[heap_grow_old _ _ (by simpa using hk)]
 have:g≠k:=fun e=>hne (by rw[e])
 simp[putRow,mapBlock,Go.Sort.ahead,Array.getElem?_modify,this]
theorem take_putCellsN (cur:Array Value) (ts:List α) (h:ts.length≤cur.size):(putCells enc 0 ts.toArray cur).toList.take ts.length=ts.map enc:=by
 apply List.ext_getElem?
 intro j
 by_cases hj:j<ts.length
 ·rw[List.getElem?_take_of_lt hj,Array.getElem?_toList]
  simp[putCells,hj,show j<cur.size by omega]
 ·rw[List.getElem?_take_eq_none (by omega),List.getElem?_eq_none (by simp;omega)]
theorem holds_of_blockN {w:World} {g:Nat} {cur:Array Value} {e:TypeId} {ts:List α} (hb:w.heap[g]?=some (.cells cur e (0,0))) (ht:cur.toList.take ts.length=ts.map enc):Holds enc w g 0 ts.toArray:=by
 intro j hj
 have hj':j<ts.length:=by simpa using hj
 refine ⟨?_,by simp[World.frozen?,hb]⟩
 have h1:(cur.toList.take ts.length)[j]?=(ts.map enc)[j]?:=by rw[ht]
 rw[List.getElem?_take_of_lt hj']at h1
 simp only[World.cell?,hb,Nat.zero_add]
 simp only[Option.isSome_none,Bool.false_eq_true,if_false]
 rw[←Array.getElem?_toList,h1]
 simp[hj']
end
section
variable {ss:List Bs}
def encN (x:{x:Bs // x∈ss}):Value:=sv x.1
def cfN (x y:{x:Bs // x∈ss}):Int:=cmpNm x.1 y.1
theorem ltN (x y:{x:Bs // x∈ss}):ltOf cfN x y=decide (cmpNm x.1 y.1<0):=rfl
theorem swoN (hv:∀x∈ss,validN x=true):SWO (ltOf (cfN (ss:=ss))) where
 irrefl x:=by rw[ltN,nm_irr (hv _ x.2)];rfl
 trans x y z h1 h2:=by
  rw[ltN,decide_eq_true_eq]at *
  exact nm_lt (hv _ x.2) (hv _ y.2) (hv _ z.2) h1 h2
 ntrans x y z h1 h2:=by
  rw[ltN,decide_eq_false_iff_not]at *
  have e1:=ordr_nm.neg x.1 y.1 (hv _ x.2) (hv _ y.2)
  have e2:=ordr_nm.neg y.1 z.1 (hv _ y.2) (hv _ z.2)
  have e3:=ordr_nm.neg x.1 z.1 (hv _ x.2) (hv _ z.2)
  have:=ordr_nm.tr z.1 y.1 x.1 (hv _ z.2) (hv _ y.2) (hv _ x.2) (by omega) (by omega)
  omega
theorem totN (hv:∀x∈ss,validN x=true) (x y:{x:Bs // x∈ss}) (h1:ltOf cfN x y=false) (h2:ltOf cfN y x=false):x=y:=by
 rw[ltN,decide_eq_false_iff_not]at *
 have e1:=ordr_nm.neg x.1 y.1 (hv _ x.2) (hv _ y.2)
 exact Subtype.ext ((ordr_nm.eq x.1 y.1 (hv _ x.2) (hv _ y.2)).1 (by omega))
end
theorem sortN_any (v : Value) (base : Nat) (ss : List Bs) (w : World) (hown : w.ownsRow base 9 1 v ss.length (ss.map sv)) (hbase : base ≤ w.heap.size) (hlen : ss.length ≤ 1000000000) (hnd : ss.Nodup) (hv : ∀ x ∈ ss, validN x = true) (hl : ∀ x ∈ ss, x.length ≤ 1000000000) :
  Calls Tryz.prog 180 #[v,.func (.func 41) #[] #[]] w fun e w'=>e=.returned (.tuple #[])∧∃ts:List Bs,ts.Perm ss∧srtN ts∧w'.ownsRow base 9 1 v ts.length (ts.map sv)∧Below base w w':=by
 by_cases h0:ss=[]
 ·subst h0
  obtain ⟨A,c,hv'⟩:=own_shape hown
  have h:=AnyF.slices_SortFunc_none { Tryz.sortS with } A c (.func (.func 41) #[] #[]) w
  change Calls Tryz.prog 180 _ _ _ at h
  rw[hv']
  refine h.mono ?_
  rintro e w' ⟨rfl,rfl⟩
  exact ⟨rfl,[],List.Perm.refl _,List.Pairwise.nil,by rw[←hv'];exact hown,Below.refl _ _⟩
 ·have hpos:0<ss.length:=List.length_pos_iff.2 h0
  rcases hown.2 with ⟨_,hn0⟩|⟨g,cap,cur,hu,hbg,hbk,h1,h2,h3,h4⟩
  ·omega
  letI:Inhabited {x:Bs // x∈ss}:=⟨⟨ss[0],List.getElem_mem hpos⟩⟩
  have hsz:ss.attach.toArray.size=ss.length:=by simp
  have hat:ss.attach.map encN=ss.map sv:=by
   have:=congrArg (List.map sv) (List.attach_map_subtype_val ss)
   rw[List.map_map]at this
   exact this
  have hH:Holds encN w g 0 ss.attach.toArray:=holds_of_blockN encN hbk (by rw[List.length_attach,hat,←h4,Nat.mul_one])
  have hcmp:CmpLays1 Tryz.prog 41 #[] encN (cfN (ss:=ss)) g 0 ss.attach.toArray.size w:=fun m os dk _ x y=>compareD_any x.1 y.1 _ (hl _ x.2) (hl _ y.2)
  have h:=Any.slices_SortFunc_total Tryz.sortS encN (fun _=>rfl) cfN (swoN hv) 41 #[] g 0 cap ss.attach.toArray w fn_compare hcmp hH (Array.getElem?_eq_some_iff.1 hbk).1 (by rw[hsz];omega) (totN hv)
  change Calls Tryz.prog 180 _ _ _ at h
  rw[hsz]at h
  rw[hu]
  refine h.mono ?_
  rintro e w' ⟨rfl,n,os,rfl⟩
  clear h
  generalize hms:(ss.attach.toArray.toList.mergeSort fun x y=>!ltOf cfN y x)=ms
  have hperm:(ms.map (·.1)).Perm ss:=by
   rw[←hms]
   have:=(List.mergeSort_perm ss.attach fun x y=>!ltOf cfN y x).map Subtype.val
   rwa[List.attach_map_subtype_val]at this
  have hml:ms.length=ss.length:=by simpa using hperm.length_eq
  have hsrt:ms.Pairwise fun x y=>(!ltOf cfN y x)=true:=by
   rw[←hms]
   have hS:=swoN hv
   exact List.pairwise_mergeSort (fun a b c h1 h2=>by
    simp only[Bool.not_eq_true']at *
    exact hS.ntrans _ _ _ h2 h1) (fun a b=>by
    cases e:ltOf cfN b a
    ·rfl
    ·cases e2:ltOf cfN a b
     ·simp
     ·have:=hS.trans _ _ _ e e2
      rw[hS.irrefl]at this
      cases this) _
  have hg:w.grownBy (sortWorld encN w g 0 n ms.toArray os) (some g):=grownBy_sortedN encN _
  refine ⟨rfl,ms.map (·.1),hperm,?_,?_,(Below.refl base w).grown hg hbase (fun k hk=>by injection hk with hk;omega)⟩
  ·have hnd':(ms.map (·.1)).Nodup:=hperm.nodup_iff.2 hnd
   rw[srtN,List.pairwise_map]
   rw[List.Nodup,List.pairwise_map]at hnd'
   refine (hsrt.and hnd').imp fun {x y} h=>?_
   obtain ⟨h1,h2⟩:=h
   rw[Bool.not_eq_true',ltN,decide_eq_false_iff_not]at h1
   have e1:=ordr_nm.neg x.1 y.1 (hv _ x.2) (hv _ y.2)
   rcases Int.lt_or_eq_of_le (show cmpNm x.1 y.1≤0 by omega)with h|h
   ·exact h
   ·exact absurd ((ordr_nm.eq x.1 y.1 (hv _ x.2) (hv _ y.2)).1 h) h2
  ·rw[List.length_map,hml]
   refine ⟨by rw[List.length_map,List.length_map,hml,Nat.mul_one],.inr ⟨g,cap,_,rfl,hbg,heap_sortedN encN _ hbk,h1,h2,by simp[putCells,h3],?_⟩⟩
   rw[Nat.mul_one,←hml,List.map_map]
   exact take_putCellsN encN cur ms (by omega)
theorem keysN_any (mb:Option Nat) (w:World):CallsIn Fence.wide 6 Tryz.prog 186 #[.map mb] w fun e w'=>e=.returned (.func (.func 233) #[] #[.pointer (some ⟨w.heap.size,0,none⟩)])∧w'=w.alloc (.cells #[.map mb] 121):=
 AnyZ.keys_in Tryz.keysN Fence.wide 6 trivial rfl mb w
theorem collN_any (b : Nat) (D : DataW Value) (w : World) (hown : w.ownsMap Tryz.prog 9 heldR b (Maps.size D) D) (hmax : Maps.size D ≤ 1000000000) :
    CallsIn Fence.wide 6 Tryz.prog 232 #[.func (.func 233) #[] #[.pointer (some ⟨w.heap.size,0,none⟩)]] (w.alloc (.cells #[.map (some b)] 121)) fun e w'=>∃(v:Value) (ss:List Bs),e=.returned v∧ss.Perm (strKeys D)∧
     w'.ownsRow (w.alloc (.cells #[.map (some b)] 121)).heap.size 9 1 v ss.length (ss.map sv)∧Below (w.alloc (.cells #[.map (some b)] 121)).heap.size (w.alloc (.cells #[.map (some b)] 121)) w':=by
 have hbl:=hown.lt
 have hseq:SeqGives Fence.wide 4 Tryz.prog 233 #[.pointer (some ⟨w.heap.size,0,none⟩)] encStr (fun ss=>ss.Perm (strKeys D)) (Maps.size D) (w.alloc (.cells #[.map (some b)] 121)):=
  AnyZ.keys_gives (ρ:=Tryz.keysN_ren) { Tryz.keysN with } Fence.wide _ trivial rfl (by omega) w.heap.size b (Maps.size D) D _ (by simp) (by simp) (by
   obtain ⟨es,clock,hb,Ft,hs,hD⟩:=hown
   exact ⟨es,clock,(Below.heap_alloc _ _ b hbl).trans hb,Ft,hs,hD⟩)
 exact (AnyZ.collect_in Tryz.collS Fence.wide 6 trivial trivial rfl (by omega) 233 #[.pointer (some ⟨w.heap.size,0,none⟩)] trivial (enters_of Tryz.func233 (by kernel_rfl) rfl) _ _ (by unfold maxLen;omega) (by omega) _ hseq).mono fun e w' ⟨v,ss,h1,h2,h3,_,h4⟩=>⟨v,ss,h1,h2,h3,h4⟩
theorem collNil_any (w : World) :
  CallsIn Fence.wide 6 Tryz.prog 232 #[.func (.func 233) #[] #[.pointer (some ⟨w.heap.size,0,none⟩)]] (w.alloc (.cells #[.map none] 121)) fun e w'=>e=.returned (.slice none 0 0)∧Below (w.alloc (.cells #[.map none] 121)).heap.size (w.alloc (.cells #[.map none] 121)) w':=by
 have hseq:SeqGives Fence.wide 4 Tryz.prog 233 #[.pointer (some ⟨w.heap.size,0,none⟩)] encStr (fun ss:List Bs=>ss=[]) 0 (w.alloc (.cells #[.map none] 121)):=
  AnyZ.keys_gives_nil (ρ:=Tryz.keysN_ren) { Tryz.keysN with } Fence.wide _ trivial rfl w.heap.size _ (by simp) (by simp)
 exact (AnyZ.collect_in Tryz.collS Fence.wide 6 trivial trivial rfl (by omega) 233 #[.pointer (some ⟨w.heap.size,0,none⟩)] trivial (enters_of Tryz.func233 (by kernel_rfl) rfl) _ _ (by unfold maxLen;omega) (by omega) _ hseq).mono fun e w' ⟨v,ss,h1,h2,h3,hn,h4⟩=>⟨by rw[h1,hn.2 h2],h4⟩
theorem sortedFunc_any (b : Nat) (f : Bs → Option Value) (w : World) (hf : MapF w b f) {l : List Bs} (hfl : ∀ x, f x ≠ none → x ∈ l) (hll : l.length ≤ 1000000000) (hv : ∀ x, f x ≠ none → validN x = true) (hl : ∀ x, f x ≠ none → x.length ≤ 1000000000) :
  CallsIn Fence.wide 7 Tryz.prog 185 #[.func (.func 233) #[] #[.pointer (some ⟨w.heap.size,0,none⟩)],.func (.func 41) #[] #[]] (w.alloc (.cells #[.map (some b)] 121)) fun e w'=>∃(v:Value) (ts:List Bs),e=.returned v∧srtN ts∧(∀x,x∈ts↔f x≠none)∧
   w'.ownsRow w.heap.size 9 1 v ts.length (ts.map sv)∧Below w.heap.size w w':=by
 obtain ⟨ks,hnd,hks,D,hown,hdv,hsz,hst⟩:=hf.keys
 have hlen:ks.length≤l.length:=nodup_lenS hnd fun y hy=>hfl y ((hks y).1 hy)
 have hC:=collN_any b D w hown (by omega)
 have hba:Below w.heap.size w (w.alloc (.cells #[.map (some b)] 121)):=(Below.refl _ w).alloc (Nat.le_refl _) _
 have has:=hba.size
 generalize w.alloc (.cells #[.map (some b)] 121)=W at *
 have hfC:Fence.wide.fn 232:=trivial
 have hfS:Fence.wide.fn 180:=trivial
 refine callsIn_of_wp Tryz.func185 rfl trivial ?_ rfl
 simp only[Tryz.ntmps185,List.size_toArray,List.length_cons,List.length_nil,Nat.reduceAdd,Nat.reduceSub,Array.replicate_succ,Array.replicate_zero,List.push_toArray,List.append_toArray,List.nil_append,List.cons_append]
 gi_wp2_with (gi_at_call 232;refine hC.mono ?_;rintro e w1 ⟨v,ss,rfl,hp,hrow,hb1⟩)
 rw[hst]at hp
 have hS:=sortN_any v W.heap.size ss w1 hrow hb1.size (by rw[hp.length_eq];omega) (hp.nodup_iff.2 hnd) (fun x hx=>hv x ((hks x).1 (hp.mem_iff.1 hx))) (fun x hx=>hl x ((hks x).1 (hp.mem_iff.1 hx)))
 gi_wp2_with (gi_at_call 180;refine (callsIn_wide.2 hS).mono ?_;rintro e w2 ⟨rfl,ts,hpt,hst2,hrow2,hb2⟩)
 go_ret
 refine ⟨v,ts,rfl,hst2,fun x=>?_,ownsRow_base_a hrow2 has,hba.trans ((hb1.trans hb2).mono has)⟩
 rw[hpt.mem_iff,hp.mem_iff,hks]
theorem sortedFuncNil_any (w : World) :
  CallsIn Fence.wide 7 Tryz.prog 185 #[.func (.func 233) #[] #[.pointer (some ⟨w.heap.size,0,none⟩)],.func (.func 41) #[] #[]] (w.alloc (.cells #[.map none] 121)) fun e w'=>e=.returned (.slice none 0 0)∧Below w.heap.size w w':=by
 have hC:=collNil_any w
 have hba:Below w.heap.size w (w.alloc (.cells #[.map none] 121)):=(Below.refl _ w).alloc (Nat.le_refl _) _
 have has:=hba.size
 generalize w.alloc (.cells #[.map none] 121)=W at *
 have hfC:Fence.wide.fn 232:=trivial
 have hfS:Fence.wide.fn 180:=trivial
 refine callsIn_of_wp Tryz.func185 rfl trivial ?_ rfl
 simp only[Tryz.ntmps185,List.size_toArray,List.length_cons,List.length_nil,Nat.reduceAdd,Nat.reduceSub,Array.replicate_succ,Array.replicate_zero,List.push_toArray,List.append_toArray,List.nil_append,List.cons_append]
 gi_wp2_with (gi_at_call 232;refine hC.mono ?_;rintro e w1 ⟨rfl,hb1⟩)
 have hS:=sortN_any (.slice none 0 0) W.heap.size [] w1 (World.ownsRow_nil _ _ _ _) hb1.size (by simp) (by simp) (by simp) (by simp)
 gi_wp2_with (gi_at_call 180;refine (callsIn_wide.2 hS).mono ?_;rintro e w2 ⟨rfl,ts,hpt,hst2,hrow2,hb2⟩)
 go_ret
 exact ⟨rfl,hba.trans ((hb1.trans hb2).mono has)⟩
theorem srtNames_any (b : Nat) (f : Bs → Option Value) (w : World) (hf : MapF w b f) {l : List Bs} (hfl : ∀ x, f x ≠ none → x ∈ l) (hll : l.length ≤ 1000000000) (hv : ∀ x, f x ≠ none → validN x = true) (hl : ∀ x, f x ≠ none → x.length ≤ 1000000000) :
    Calls Tryz.prog 117 #[.map (some b)] w fun e w'=>∃(v:Value) (ts:List Bs),e=.returned v∧srtN ts∧(∀x,x∈ts↔f x≠none)∧w'.ownsRow w.heap.size 9 1 v ts.length (ts.map sv)∧Below w.heap.size w w':=by
 have hS:=sortedFunc_any b f w hf hfl hll hv hl
 refine (callsIn_wide (n:=8)).1 ?_
 have hfK:Fence.wide.fn 186:=trivial
 have hfS:Fence.wide.fn 185:=trivial
 refine callsIn_of_wp Tryz.func117 rfl trivial ?_ rfl
 simp only[Tryz.ntmps117,List.size_toArray,List.length_cons,List.length_nil,Nat.reduceAdd,Nat.reduceSub,Array.replicate_succ,Array.replicate_zero,List.push_toArray,List.append_toArray,List.nil_append,List.cons_append]
 gi_wp2_with (first
  |(gi_at_call 186;refine (callsIn_wide.2 (callsIn_wide.1 (keysN_any _ _))).mono ?_;rintro e w' ⟨rfl,rfl⟩)
  |(gi_at_call 185;refine hS.mono ?_;rintro e w' ⟨v,ts,rfl,hs,hm,hrow,hb⟩))
 go_ret
 exact ⟨v,ts,rfl,hs,hm,hrow,hb⟩
theorem srtNamesNil_any (w:World):Calls Tryz.prog 117 #[.map none] w fun e w'=>e=.returned (.slice none 0 0)∧Below w.heap.size w w':=by
 have hS:=sortedFuncNil_any w
 refine (callsIn_wide (n:=8)).1 ?_
 have hfK:Fence.wide.fn 186:=trivial
 have hfS:Fence.wide.fn 185:=trivial
 refine callsIn_of_wp Tryz.func117 rfl trivial ?_ rfl
 simp only[Tryz.ntmps117,List.size_toArray,List.length_cons,List.length_nil,Nat.reduceAdd,Nat.reduceSub,Array.replicate_succ,Array.replicate_zero,List.push_toArray,List.append_toArray,List.nil_append,List.cons_append]
 gi_wp2_with (first
  |(gi_at_call 186;refine (callsIn_wide.2 (callsIn_wide.1 (keysN_any _ _))).mono ?_;rintro e w' ⟨rfl,rfl⟩)
  |(gi_at_call 185;refine hS.mono ?_;rintro e w' ⟨rfl,hb⟩))
 go_ret
 exact ⟨rfl,hb⟩
end Go.Proofs.YtbkkchhimhlhcaaGreatDoor
