/- Part 28 of the proof that identitylaw12.SearchChecks returns true for every data that it may be called with: proof: the package variables hold what the program lays; nothing else is asked. -/
import Derived.Test.YtbkkchhimhlhcaaGreatDoorSrk26
import Derived.Test.YtbkkchhimhlhcaaGreatDoorSrk27
import Derived.Deep.AppendLies
set_option linter.unusedVariables false
set_option linter.unusedSimpArgs false
set_option maxRecDepth 100000
set_option maxHeartbeats 16000000
/- attrs: Sorted. -/
namespace Go.Proofs.YtbkkchhimhlhcaaGreatDoor
open Go.RowKit Go.Sort
open Idn (L B Bs drop_L take_L size_L)
theorem info_attr:(Tryz.prog.info? 96).map (fun i=>(i.zero,i.size,i.bytes))=some (some (.agg #[.string ⟨#[]⟩,.slice none 0 0]),2,40):=by kernel_rfl
theorem ixAdd {ps:List (Idn.Att×Value)} {n:Bs}:(ps.map fun p=>(p.1.name,p.1.vals.length)).findIdx? (fun x=>decide (x.1=n))=(ps.map (·.1)).findIdx? (fun a=>decide (a.name=n)):=by
 rw[findIdx_map,findIdx_map]
end Go.Proofs.YtbkkchhimhlhcaaGreatDoor
/- attrs: Names, Get. -/
namespace Go.Proofs.YtbkkchhimhlhcaaGreatDoor
open Go.RowKit Go.Sort
open Idn (L B Bs drop_L take_L size_L)
theorem addA_len (ps:List Idn.Att) (n:Bs) (vs:List Bs):(Idn.addA ps n vs).length≤ps.length+1:=by
 unfold Idn.addA
 split
 ·simp
 ·split<;>simp
theorem grp_len:∀(l acc:List Idn.Att),(Idn.grp acc l).length≤acc.length+l.length
 |[],acc=>by simp[Idn.grp]
 |a :: l,acc=>by
  have h1:=grp_len l (Idn.addA acc (Idn.lower a.name) a.vals)
  have h2:=addA_len acc (Idn.lower a.name) a.vals
  simp only[Idn.grp,List.length_cons]
  omega
end Go.Proofs.YtbkkchhimhlhcaaGreatDoor
/- schema: classed. -/
namespace Go.Proofs.YtbkkchhimhlhcaaGreatDoor
open Go.RowKit Go.Sort
open Idn (L B Bs drop_L take_L size_L)
theorem StrsV.grown {w w':World} {hi n c:Nat} {A:Option Addr} {l:List Bs} {row:Option Nat} (h:StrsV w hi (.slice A n c) l) (hg:w.grownBy w' row) (hs:∀b off,A=some ⟨b,off,none⟩→row≠some b) (hh:hi≤w.heap.size):StrsV w' hi (.slice A n c) l:=by
 obtain ⟨A',c',e,h1,h2⟩:=h
 injection e with e1 e2 e3
 subst e1
 refine ⟨A,c',by rw[e2,e3],h1,fun hp=>?_⟩
 obtain ⟨b,off,hA,hb,hx⟩:=h2 hp
 refine ⟨b,off,hA,hb,fun i x hix=>?_⟩
 obtain ⟨cs,h3,h4,h5⟩:=hx i x hix
 exact ⟨cs,h3,h4,fun j u hj=>(World.cell?_of_block (w:=w) (hg.block b (by omega) (fun e=>hs b off hA e.symm))).trans (h5 j u hj)⟩
theorem StrsV.put {w:World} {hi n c p i:Nat} {A:Option Addr} {l:List Bs} (h:StrsV w hi (.slice A n c) l) (hs:∀b off,A=some ⟨b,off,none⟩→b≠p) (v:Value):StrsV (w.setCell ⟨p,i,none⟩ v) hi (.slice A n c) l:=by
 obtain ⟨A',c',e,h1,h2⟩:=h
 injection e with e1 e2 e3
 subst e1
 refine ⟨A,c',by rw[e2,e3],h1,fun hp=>?_⟩
 obtain ⟨b,off,hA,hb,hx⟩:=h2 hp
 refine ⟨b,off,hA,hb,fun i x hix=>?_⟩
 obtain ⟨cs,h3,h4,h5⟩:=hx i x hix
 exact ⟨cs,h3,h4,fun j u hj=>(World.cell?_of_block (w:=w) (Below.heap_setCell _ _ _ _ (by show b≠p;exact hs b off hA))).trans (h5 j u hj)⟩
theorem grown_cell {w w':World} {p i:Nat} {row:Option Nat} {u:Value} (hg:w.grownBy w' row) (hc:w.cell? ⟨p,i,none⟩=some u) (hne:some p≠row):w'.cell? ⟨p,i,none⟩=some u:=
 (World.cell?_of_block (w:=w) (hg.block p (World.block_lt_of_cell? _ _ hc) hne)).trans hc
theorem grown_frozen {w w':World} {p i:Nat} {row:Option Nat} (hg:w.grownBy w' row) (hp:p<w.heap.size) (hc:w.frozen? ⟨p,i,none⟩=false) (hne:some p≠row):w'.frozen? ⟨p,i,none⟩=false:=
 (World.frozen?_of_block (w:=w) (hg.block p hp hne)).trans hc
end Go.Proofs.YtbkkchhimhlhcaaGreatDoor
/- schema: Valid. -/
namespace Go.Proofs.YtbkkchhimhlhcaaGreatDoor
open Go.RowKit Go.Sort
open Idn (L B Bs drop_L take_L size_L)
theorem atts_zero:∀(l prev:List Idn.Att),Idn.attsErr prev l=0→∀a∈l,a.vals.length≠0∧a.vals.length≤16
 |[],_,_=>by simp
 |b :: l,prev,h=>by
  rw[Idn.attsErr]at h
  by_cases hb:Idn.attErr prev b=0
  ·rw[if_neg (by simpa using hb)]at h
   intro a ha
   rcases List.mem_cons.1 ha with rfl|ha
   ·unfold Idn.attErr at hb
    split at hb
    ·cases hb
    ·split at hb
     ·cases hb
     ·split at hb
      ·cases hb
      ·split at hb
       ·cases hb
       ·rename_i h1 h2
        exact ⟨h1,by omega⟩
   ·exact atts_zero l _ h a ha
  ·rw[if_pos (by simpa using hb)]at h
   exact absurd h hb
theorem aCheck_zero {l:List Idn.Att} (h:Idn.aCheck l=0):l.length≤32∧∀a∈l,a.vals.length≠0∧a.vals.length≤16:=by
 unfold Idn.aCheck at h
 split at h
 ·cases h
 ·exact ⟨by omega,atts_zero l [] h⟩
def ASm5 (l:List Idn.Att):Prop:=∀a∈l,a.name.length≤1000000000∧∀x∈a.vals,x.length≤100000000
end Go.Proofs.YtbkkchhimhlhcaaGreatDoor
/- law07: small. -/
namespace Go.Proofs.YtbkkchhimhlhcaaGreatDoor
open Go.RowKit Go.Sort
open Idn (L B Bs drop_L take_L size_L)
def personN:Bs:=[112,101,114,115,111,110]
def staffN:Bs:=[115,116,97,102,102]
def cnN:Bs:=[99,110]
def ageN:Bs:=[97,103,101]
def activeN:Bs:=[97,99,116,105,118,101]
def smallS:Idn.Sch:=⟨[⟨Idn.mainN,1,false⟩,⟨cnN,1,false⟩,⟨ageN,3,true⟩,⟨activeN,5,false⟩],[⟨personN,[],[cnN],[ageN]⟩,⟨staffN,personN,[],[activeN]⟩]⟩
theorem litR (w:World) (cs:Array Value) (n size:Nat) (e:TypeId) (p:Nat) (hp:w.heap.size=p) (hm:n≤maxLen) (hs:cs.size=n*size):(w.alloc (.cells cs e)).ownsRow 0 e size (.slice (some ⟨p,0,none⟩) n n) n cs.toList:=by
 subst hp
 exact World.ownsRow_lit w cs n (Nat.zero_le _) hm hs
theorem genW {R Q:World→Prop} {W:World} (hQ:Q W) (h:∀W,Q W→R W):R W:=h W hQ
theorem oneS {W:World} {v:Value} {x:Bs} {e:TypeId} (h:W.ownsRow 0 e 1 v 1 [sv x]):StrsV W W.heap.size v [x]:=StrsV.of_own (l:=[x]) h
end Go.Proofs.YtbkkchhimhlhcaaGreatDoor
/- The values of the small case, reckoned. -/
namespace Go.Proofs.YtbkkchhimhlhcaaGreatDoor
open Go.RowKit Go.Sort
open Idn (L B Bs)
def annA:List Idn.Att:=[⟨Idn.mainN,[personN]⟩,⟨cnN,[[65,110,110]]⟩]
def twoL:List Idn.Att:=⟨ageN,[[55],[56]]⟩ :: annA
end Go.Proofs.YtbkkchhimhlhcaaGreatDoor
/- law07: alive. -/
namespace Go.Proofs.YtbkkchhimhlhcaaGreatDoor
open Go.RowKit Go.Sort
open Idn (L B Bs drop_L take_L size_L)
def Sm7 (w:World) (u:Value):Prop:=SchV w w.heap.size u smallS∧Env w∧EnvU w
theorem Sm7.keep {w w':World} {u:Value} (h:Sm7 w u) (hb:Below w.heap.size w w'):Sm7 w' u:=⟨SchV.mono (SchV.keep h.1 hb) hb.size,h.2.1.keep hb,h.2.2.keep hb⟩
end Go.Proofs.YtbkkchhimhlhcaaGreatDoor
/- law07: alive, walked. -/
namespace Go.Proofs.YtbkkchhimhlhcaaGreatDoor
open Go.RowKit Go.Sort
open Idn (L B Bs drop_L take_L size_L)
end Go.Proofs.YtbkkchhimhlhcaaGreatDoor
/- law07: SchemaChecks, walked. -/
namespace Go.Proofs.YtbkkchhimhlhcaaGreatDoor
open Go.RowKit Go.Sort
open Idn (L B Bs drop_L take_L size_L)
end Go.Proofs.YtbkkchhimhlhcaaGreatDoor
/- Rows of attributes that a call has laid: with values of the call's own, or with values laid before. -/
namespace Go.Proofs.YtbkkchhimhlhcaaGreatDoor
open Go.RowKit Go.Sort
open Idn (L B Bs drop_L take_L size_L)
def AttRow (w:World) (base:Nat) (v:Value) (ps:List (Idn.Att×Value)):Prop:=
 w.ownsRow base 96 2 v ps.length (rowA ps)∧∀p∈ps,w.ownsRow base 9 1 p.2 p.1.vals.length (p.1.vals.map sv)
theorem rowA_snoc (ps:List (Idn.Att×Value)) (p:Idn.Att×Value):rowA (ps++[p])=rowA ps++[sv p.1.name,p.2]:=by unfold rowA;rw[List.flatMap_append];rfl
theorem AttRow.nil (w:World) (base:Nat):AttRow w base (.slice none 0 0) []:=⟨World.ownsRow_nil _ _ _ _,by simp⟩
theorem AttRow.keep {w w':World} {base:Nat} {v:Value} {ps:List (Idn.Att×Value)} (h:AttRow w base v ps) (hb:Below w.heap.size w w'):AttRow w' base v ps:=
 ⟨own_below h.1 hb,fun p hp=>own_below (h.2 p hp) hb⟩
theorem AttRow.push {w w' : World} {base : Nat} {v v' a : Value} {ps : List (Idn.Att × Value)} {x : Idn.Att} (h : AttRow w base v ps) (ha : w.ownsRow base 9 1 a x.vals.length (x.vals.map sv))
  (hown:w'.ownsRow base 96 2 v' (ps.length+1) (rowA ps++[sv x.name,a])) (hg:w.grownBy w' v.ownBlock):AttRow w' base v' (ps++[(x,a)]):=by
 refine ⟨by rw[List.length_append,rowA_snoc];exact hown,fun p hp=>?_⟩
 rcases List.mem_append.1 hp with hp|hp
 ·exact own_kept (h.2 p hp) hg fun g h1 h2=>own_apart h.1 (h.2 p hp) (by decide) g h2 h1
 ·simp at hp;subst hp
  exact own_kept ha hg fun g h1 h2=>own_apart h.1 ha (by decide) g h2 h1
theorem AttRow.low {w:World} {base b:Nat} {v:Value} {ps:List (Idn.Att×Value)} (h:AttRow w base v ps) (hb:b≤base):AttRow w b v ps:=
 ⟨own_base h.1 hb,fun p hp=>own_base (h.2 p hp) hb⟩
theorem row_atts {w:World} {base:Nat} {v:Value} {ps:List (Idn.Att×Value)} {l:List Idn.Att} (h0:w.ownsRow base 96 2 v ps.length (rowA ps)) (h2:∀p∈ps,StrsV w w.heap.size p.2 p.1.vals) (hl:ps.map (·.1)=l):AttsV w w.heap.size v l:=by
 subst hl
 rw[show ps.length=(ps.map (·.1)).length by simp]at h0
 refine SlV.own h0 fun i x hx=>?_
 rw[List.getElem?_map]at hx
 obtain ⟨p,hp,rfl⟩:=Option.map_eq_some_iff.1 hx
 obtain ⟨e1,e2⟩:=rowA_at ps i p hp
 refine ⟨[sv p.1.name,p.2],rfl,⟨p.2,rfl,h2 p (List.mem_of_getElem? hp)⟩,fun j u hj=>?_⟩
 match j,hj with
 |0,hj=>simp at hj;subst hj;exact e1
 |1,hj=>simp at hj;subst hj;exact e2
theorem AttRow.atts {w:World} {base:Nat} {v:Value} {ps:List (Idn.Att×Value)} {l:List Idn.Att} (h:AttRow w base v ps) (hl:ps.map (·.1)=l):AttsV w w.heap.size v l:=
 row_atts h.1 (fun p hp=>StrsV.of_own (h.2 p hp)) hl
end Go.Proofs.YtbkkchhimhlhcaaGreatDoor
/- identityref06: Sorted. -/
namespace Go.Proofs.YtbkkchhimhlhcaaGreatDoor
open Go.RowKit Go.Sort
open Idn (L B Bs drop_L take_L size_L)
def PairAt (X:World) (p:Nat) (a b:Value):Prop:=
 (X.cell? ⟨p,0,none⟩=some a∧X.cell? ⟨p,1,none⟩=some b)∧(X.frozen? ⟨p,0,none⟩=false∧X.frozen? ⟨p,1,none⟩=false)∧p<X.heap.size
theorem PairAt.keep {X Y:World} {p:Nat} {a b:Value} (h:PairAt X p a b) {lo:Nat} (hb:Below lo X Y) (hp:p<lo):PairAt Y p a b:=by
 obtain ⟨⟨h0,h1⟩,⟨g0,g1⟩,hl⟩:=h
 exact ⟨⟨(hb.cell (p:=⟨p,0,none⟩) hp).trans h0,(hb.cell (p:=⟨p,1,none⟩) hp).trans h1⟩,⟨(hb.frozen (p:=⟨p,0,none⟩) hp).trans g0,(hb.frozen (p:=⟨p,1,none⟩) hp).trans g1⟩,Nat.lt_of_lt_of_le hl hb.size⟩
theorem PairAt.put {X:World} {p:Nat} {a b:Value} (h:PairAt X p a b) (c:Value):PairAt (X.setCell ⟨p,1,none⟩ c) p a c:=by
 obtain ⟨⟨h0,h1⟩,⟨g0,g1⟩,hl⟩:=h
 exact ⟨⟨by simp[go_sem,h0,h1],by simp[go_sem,h0,h1]⟩,⟨by simp[g0],by simp[g1]⟩,by simpa using hl⟩
theorem foldl_ins_len:∀(l acc:List Bs),(l.foldl (fun a n=>Idn.insS n a) acc).length≤acc.length+l.length
 |[],acc=>by simp
 |n :: l,acc=>by
  have h1:=foldl_ins_len l (Idn.insS n acc)
  have h2:=insS_len n acc
  simp only[List.foldl_cons,List.length_cons]
  omega
theorem insAll_len (l:List Bs):(Idn.insAll l).length≤l.length:=by
 have:=foldl_ins_len l []
 simpa[Idn.insAll]using this
theorem lows_len (l:List Idn.Att):(Idn.lows l).length≤l.length:=by
 unfold Idn.lows
 rw[List.length_map]
 exact List.length_filter_le _ _
theorem vals_len {l:List Idn.Att} {c:Nat} (h:∀a∈l,a.vals.length≤c) (n:Bs):(Idn.valsOf l n).length≤l.length*c:=by
 unfold Idn.valsOf
 refine Nat.le_trans (flat_len (·.vals) c _ fun a ha=>h a (List.mem_filter.1 ha).1) ?_
 exact Nat.mul_le_mul_right _ (List.length_filter_le _ _)
end Go.Proofs.YtbkkchhimhlhcaaGreatDoor
/- identityref06: Names, Get. -/
namespace Go.Proofs.YtbkkchhimhlhcaaGreatDoor
open Go.RowKit Go.Sort
open Idn (L B Bs drop_L take_L size_L)
def rGet (l:List Idn.Att) (n:Bs):List Bs:=match (Idn.rSorted l).findIdx? (fun a=>decide (a.name=Idn.lower n))with
 |none=>[]
 |some k=>match (Idn.rSorted l)[k]? with|none=>[]|some a=>a.vals
theorem rSorted_len (l:List Idn.Att):(Idn.rSorted l).length≤l.length:=by
 unfold Idn.rSorted
 rw[List.length_map]
 exact Nat.le_trans (insAll_len _) (lows_len l)
end Go.Proofs.YtbkkchhimhlhcaaGreatDoor
/- Lists of entries in memory: names with their attributes. -/
namespace Go.Proofs.YtbkkchhimhlhcaaGreatDoor
open Go.RowKit Go.Sort
open Idn (L B Bs drop_L take_L size_L)
abbrev EntP:=Bs×List Idn.Att
def EEn (w:World) (hi:Nat) (x:EntP) (cs:List Value):Prop:=∃v,cs=[sv x.1,v]∧AttsV w hi v x.2
abbrev EntsV (w:World) (hi:Nat) (v:Value) (l:List EntP):Prop:=SlV (EEn w hi) w hi 2 v l
theorem EntsV.keep {w w':World} {hi:Nat} {v:Value} {l:List EntP} (h:EntsV w hi v l) (hb:Below hi w w'):EntsV w' hi v l:=
 SlV.keepE h hb fun _ _ _ ⟨u,h1,h2⟩=>⟨u,h1,AttsV.keep h2 hb⟩
theorem EntsV.mono {w:World} {hi hi':Nat} {v:Value} {l:List EntP} (h:EntsV w hi v l) (hh:hi≤hi'):EntsV w hi' v l:=
 SlV.mono (SlV.keepE h (Below.refl _ _) fun _ _ _ ⟨u,h1,h2⟩=>⟨u,h1,AttsV.mono h2 hh⟩) hh
theorem EntsV.cell {w : World} {hi : Nat} {A : Option Addr} {n c : Nat} {l : List EntP} (h : EntsV w hi (.slice A n c) l) {k : Nat} (hk : k < l.length) :
  ∃b off v,A=some ⟨b,off,none⟩∧b<hi∧w.cell? ⟨b,off+k*2,none⟩=some (.string (B l[k].1))∧w.cell? ⟨b,off+k*2+1,none⟩=some v∧AttsV w hi v l[k].2:=by
 obtain ⟨b,off,hA,hb,cs,h1,⟨v,h2,h4⟩,h3⟩:=h.at_ hk
 subst h2
 exact ⟨b,off,v,hA,hb,by simpa[sv]using h3 0 _ rfl,by simpa[Nat.add_assoc]using h3 1 _ rfl,h4⟩
def rowEn (qs:List (EntP×Value)):List Value:=qs.flatMap fun q=>[sv q.1.1,q.2]
theorem rowEn_at:∀(qs:List (EntP×Value)) (i:Nat) (q:EntP×Value),qs[i]?=some q→(rowEn qs)[i*2]?=some (sv q.1.1)∧(rowEn qs)[i*2+1]?=some q.2
 |[],i,q,h=>by simp at h
 |p :: qs,0,q,h=>by simp at h;subst h;exact ⟨rfl,rfl⟩
 |p :: qs,i+1,q,h=>by
  have:=rowEn_at qs i q (by simpa using h)
  have e:rowEn (p :: qs)=sv p.1.1 :: p.2 :: rowEn qs:=rfl
  rw[e,show (i+1)*2=i*2+1+1 by omega,show i*2+1+1+1=(i*2+1)+1+1 by omega]
  simpa using this
theorem rowEn_app (a b:List (EntP×Value)):rowEn (a++b)=rowEn a++rowEn b:=by unfold rowEn;rw[List.flatMap_append]
def EntRow (w:World) (base:Nat) (v:Value) (qs:List (EntP×Value)):Prop:=
 w.ownsRow base 48 2 v qs.length (rowEn qs)∧∀q∈qs,∃ps,AttRow w base q.2 ps∧ps.map (·.1)=q.1.2
theorem EntRow.nil (w:World) (base:Nat):EntRow w base (.slice none 0 0) []:=⟨World.ownsRow_nil _ _ _ _,by simp⟩
theorem EntRow.keep {w w':World} {base:Nat} {v:Value} {qs:List (EntP×Value)} (h:EntRow w base v qs) (hb:Below w.heap.size w w'):EntRow w' base v qs:=
 ⟨own_below h.1 hb,fun q hq=>by obtain ⟨ps,h1,h2⟩:=h.2 q hq;exact ⟨ps,h1.keep hb,h2⟩⟩
theorem EntRow.ents {w:World} {base:Nat} {v:Value} {qs:List (EntP×Value)} {l:List EntP} (h:EntRow w base v qs) (hl:qs.map (·.1)=l):EntsV w w.heap.size v l:=by
 subst hl
 have h0:=h.1
 rw[show qs.length=(qs.map (·.1)).length by simp]at h0
 refine SlV.own h0 fun i x hx=>?_
 rw[List.getElem?_map]at hx
 obtain ⟨q,hq,rfl⟩:=Option.map_eq_some_iff.1 hx
 obtain ⟨e1,e2⟩:=rowEn_at qs i q hq
 obtain ⟨ps,h1,h2⟩:=h.2 q (List.mem_of_getElem? hq)
 refine ⟨[sv q.1.1,q.2],rfl,⟨q.2,rfl,h1.atts h2⟩,fun j u hj=>?_⟩
 match j,hj with
 |0,hj=>simp at hj;subst hj;exact e1
 |1,hj=>simp at hj;subst hj;exact e2
theorem info_ent:(Tryz.prog.info? 48).map (fun i=>(i.zero,i.size,i.bytes))=some (some (.agg #[.string ⟨#[]⟩,.slice none 0 0]),2,40):=by kernel_rfl
end Go.Proofs.YtbkkchhimhlhcaaGreatDoor
/- schema: read. -/
namespace Go.Proofs.YtbkkchhimhlhcaaGreatDoor
open Go.RowKit Go.Sort
open Idn (L B Bs drop_L take_L size_L)
def rowT (l:List Idn.AT):List Value:=l.flatMap fun t=>[sv t.name,.int .i64 t.syn,.bool t.single]
def TyOwn (w:World) (base:Nat) (v:Value) (l:List Idn.AT):Prop:=w.ownsRow base 89 3 v l.length (rowT l)
abbrev ClP:=Idn.Cl×(Value×Value)
def rowC (ps:List ClP):List Value:=ps.flatMap fun p=>[sv p.1.name,sv p.1.super,p.2.1,p.2.2]
def ClOwn (w:World) (base:Nat) (v:Value) (ps:List ClP):Prop:=
 w.ownsRow base 91 4 v ps.length (rowC ps)∧∀p∈ps,w.ownsRow base 9 1 p.2.1 p.1.must.length (p.1.must.map sv)∧w.ownsRow base 9 1 p.2.2 p.1.may.length (p.1.may.map sv)
theorem TyOwn.keep {w w':World} {base:Nat} {v:Value} {l:List Idn.AT} (h:TyOwn w base v l) (hb:Below w.heap.size w w'):TyOwn w' base v l:=own_below h hb
theorem ClOwn.keep {w w':World} {base:Nat} {v:Value} {ps:List ClP} (h:ClOwn w base v ps) (hb:Below w.heap.size w w'):ClOwn w' base v ps:=
 ⟨own_below h.1 hb,fun p hp=>⟨own_below (h.2 p hp).1 hb,own_below (h.2 p hp).2 hb⟩⟩
theorem rowC_snoc (l:List ClP) (t:ClP):rowC (l++[t])=rowC l++[sv t.1.name,sv t.1.super,t.2.1,t.2.2]:=by unfold rowC;rw[List.flatMap_append];rfl
theorem TyOwn.nil (w:World) (base:Nat):TyOwn w base (.slice none 0 0) []:=World.ownsRow_nil _ _ _ _
theorem ClOwn.nil (w:World) (base:Nat):ClOwn w base (.slice none 0 0) []:=⟨World.ownsRow_nil _ _ _ _,by simp⟩
theorem TyOwn.set {w:World} {base:Nat} {v:Value} {l:List Idn.AT} (h:TyOwn w base v l) {p i:Nat} (u:Value) (hp:v.ownBlock≠some p):TyOwn (w.setCell ⟨p,i,none⟩ u) base v l:=ownsRow_setCell_other h hp u
theorem ClOwn.set {w:World} {base:Nat} {v:Value} {ps:List ClP} (h:ClOwn w base v ps) {p i:Nat} (u:Value) (hp:v.ownBlock≠some p) (hp2:∀q∈ps,q.2.1.ownBlock≠some p∧q.2.2.ownBlock≠some p):ClOwn (w.setCell ⟨p,i,none⟩ u) base v ps:=
 ⟨ownsRow_setCell_other h.1 hp u,fun q hq=>⟨ownsRow_setCell_other (h.2 q hq).1 (hp2 q hq).1 u,ownsRow_setCell_other (h.2 q hq).2 (hp2 q hq).2 u⟩⟩
theorem TyOwn.kept {w w':World} {base:Nat} {v u:Value} {l:List Idn.AT} {ps:List ClP} (h:TyOwn w base v l) (hC:ClOwn w base u ps) (hg:w.grownBy w' u.ownBlock):TyOwn w' base v l:=
 own_kept h hg fun g h1 h2=>own_apart hC.1 h (by decide) g h2 h1
theorem ClOwn.kept {w w':World} {base:Nat} {v u:Value} {l:List Idn.AT} {ps:List ClP} (h:ClOwn w base v ps) (hT:TyOwn w base u l) (hg:w.grownBy w' u.ownBlock):ClOwn w' base v ps:=
 ⟨own_kept h.1 hg fun g h1 h2=>own_apart hT h.1 (by decide) g h2 h1,fun p hp=>⟨own_kept (h.2 p hp).1 hg fun g h1 h2=>own_apart hT (h.2 p hp).1 (by decide) g h2 h1,own_kept (h.2 p hp).2 hg fun g h1 h2=>own_apart hT (h.2 p hp).2 (by decide) g h2 h1⟩⟩
theorem ClOwn.push {w w' : World} {base : Nat} {v v' : Value} {ps : List ClP} {c : Idn.Cl} {a b : Value} (h : ClOwn w base v ps) (ha : w.ownsRow base 9 1 a c.must.length (c.must.map sv)) (hb : w.ownsRow base 9 1 b c.may.length (c.may.map sv))
  (hown:w'.ownsRow base 91 4 v' (ps.length+1) (rowC ps++[sv c.name,sv c.super,a,b])) (hg:w.grownBy w' v.ownBlock):ClOwn w' base v' (ps++[(c,(a,b))]):=by
 refine ⟨by rw[List.length_append,rowC_snoc];exact hown,fun p hp=>?_⟩
 rcases List.mem_append.1 hp with hp|hp
 ·exact ⟨own_kept (h.2 p hp).1 hg fun g h1 h2=>own_apart h.1 (h.2 p hp).1 (by decide) g h2 h1,own_kept (h.2 p hp).2 hg fun g h1 h2=>own_apart h.1 (h.2 p hp).2 (by decide) g h2 h1⟩
 ·simp at hp;subst hp
  exact ⟨own_kept ha hg fun g h1 h2=>own_apart h.1 ha (by decide) g h2 h1,own_kept hb hg fun g h1 h2=>own_apart h.1 hb (by decide) g h2 h1⟩
theorem rowT_at:∀(l:List Idn.AT) (i:Nat) (t:Idn.AT),l[i]?=some t→(rowT l)[i*3]?=some (sv t.name)∧(rowT l)[i*3+1]?=some (.int .i64 t.syn)∧(rowT l)[i*3+2]?=some (.bool t.single)
 |[],i,p,h=>by simp at h
 |q :: ps,0,p,h=>by simp at h;subst h;exact ⟨rfl,rfl,rfl⟩
 |q :: ps,i+1,p,h=>by
  have:=rowT_at ps i p (by simpa using h)
  have e:rowT (q :: ps)=sv q.name :: .int .i64 q.syn :: .bool q.single :: rowT ps:=rfl
  rw[e,show (i+1)*3=i*3+1+1+1 by omega,show i*3+1+1+1+1=(i*3+1)+1+1+1 by omega,show i*3+1+1+1+2=(i*3+2)+1+1+1 by omega]
  simpa using this
theorem rowC_at:∀(l:List ClP) (i:Nat) (t:ClP),l[i]?=some t→(rowC l)[i*4]?=some (sv t.1.name)∧(rowC l)[i*4+1]?=some (sv t.1.super)∧(rowC l)[i*4+2]?=some t.2.1∧(rowC l)[i*4+3]?=some t.2.2
 |[],i,p,h=>by simp at h
 |q :: ps,0,p,h=>by simp at h;subst h;exact ⟨rfl,rfl,rfl,rfl⟩
 |q :: ps,i+1,p,h=>by
  have:=rowC_at ps i p (by simpa using h)
  have e:rowC (q :: ps)=sv q.1.name :: sv q.1.super :: q.2.1 :: q.2.2 :: rowC ps:=rfl
  rw[e,show (i+1)*4=i*4+1+1+1+1 by omega,show i*4+1+1+1+1+1=(i*4+1)+1+1+1+1 by omega,show i*4+1+1+1+1+2=(i*4+2)+1+1+1+1 by omega,show i*4+1+1+1+1+3=(i*4+3)+1+1+1+1 by omega]
  simpa using this
theorem TyOwn.types {w:World} {base:Nat} {v:Value} {l:List Idn.AT} (h:TyOwn w base v l):TypesV w w.heap.size v l:=
 SlV.own h fun i x hx=>⟨[sv x.name,.int .i64 x.syn,.bool x.single],rfl,rfl,fun j u hu=>by
  have h1:=rowT_at l i x hx
  match j,hu with
  |0,hu=>simp at hu;subst hu;exact h1.1
  |1,hu=>simp at hu;subst hu;exact h1.2.1
  |2,hu=>simp at hu;subst hu;exact h1.2.2⟩
theorem ClOwn.classes {w:World} {base:Nat} {v:Value} {ps:List ClP} {l:List Idn.Cl} (h:ClOwn w base v ps) (hl:ps.map (·.1)=l):ClassesV w w.heap.size v l:=by
 subst hl
 have h0:=h.1
 rw[show ps.length=(ps.map (·.1)).length by simp]at h0
 refine SlV.own h0 fun i x hx=>?_
 rw[List.getElem?_map]at hx
 obtain ⟨p,hp,rfl⟩:=Option.map_eq_some_iff.1 hx
 have h1:=rowC_at ps i p hp
 have h2:=h.2 p (List.mem_of_getElem? hp)
 refine ⟨[sv p.1.name,sv p.1.super,p.2.1,p.2.2],rfl,⟨_,_,rfl,StrsV.of_own h2.1,StrsV.of_own h2.2⟩,fun j u hu=>?_⟩
 match j,hu with
 |0,hu=>simp at hu;subst hu;exact h1.1
 |1,hu=>simp at hu;subst hu;exact h1.2.1
 |2,hu=>simp at hu;subst hu;exact h1.2.2.1
 |3,hu=>simp at hu;subst hu;exact h1.2.2.2
theorem TyOwn.drew {w:World} {base:Nat} {v:Value} {l:List Idn.AT} (h:TyOwn w base v l):TyOwn w.drew base v l:=h
theorem ClOwn.drew {w:World} {base:Nat} {v:Value} {ps:List ClP} (h:ClOwn w base v ps):ClOwn w.drew base v ps:=h
theorem TyOwn.lt {w:World} {base:Nat} {v:Value} {l:List Idn.AT} (h:TyOwn w base v l) {p:Nat} (hp:w.heap.size≤p):v.ownBlock≠some p:=fun e=>by have:=own_lt h e;omega
theorem ClOwn.lt {w:World} {base:Nat} {v:Value} {ps:List ClP} (h:ClOwn w base v ps) {p:Nat} (hp:w.heap.size≤p):v.ownBlock≠some p∧∀q∈ps,q.2.1.ownBlock≠some p∧q.2.2.ownBlock≠some p:=
 ⟨fun e=>by have:=own_lt h.1 e;omega,fun q hq=>⟨fun e=>by have:=own_lt (h.2 q hq).1 e;omega,fun e=>by have:=own_lt (h.2 q hq).2 e;omega⟩⟩
end Go.Proofs.YtbkkchhimhlhcaaGreatDoor
/- schema: read at 'class', read otherwise. -/
namespace Go.Proofs.YtbkkchhimhlhcaaGreatDoor
open Go.RowKit Go.Sort
open Idn (L B Bs drop_L take_L size_L)
end Go.Proofs.YtbkkchhimhlhcaaGreatDoor
/- schema: Parse, whatever the text. -/
namespace Go.Proofs.YtbkkchhimhlhcaaGreatDoor
open Go.RowKit Go.Sort
open Idn (L B Bs drop_L take_L size_L)
def fin (s:Idn.Sch):Idn.Sch×Int×Int:=if Idn.sCheck s=0 then (s,0,0)else (⟨[],[]⟩,0,Idn.sCheck s)
def SLim (s:Idn.Sch):Prop:=(∀t∈s.types,t.name.length≤5000)∧∀c∈s.classes,c.name.length≤5000∧c.super.length≤5000∧(c.must.length≤5000∧∀x∈c.must,x.length≤5000)∧c.may.length≤5000∧∀x∈c.may,x.length≤5000
theorem SLim.ssm {s:Idn.Sch} (h:SLim s) (h2:s.types.length+s.classes.length≤5000):SSm s:=
 ⟨⟨by omega,fun t ht=>by have:=h.1 t ht;omega⟩,⟨by omega,fun c hc=>by
  obtain ⟨a1,a2,⟨a3,a4⟩,a5,a6⟩:=h.2 c hc
  exact ⟨by omega,by omega,⟨by omega,fun x hx=>by have:=a4 x hx;omega⟩,⟨by omega,fun x hx=>by have:=a6 x hx;omega⟩⟩⟩⟩
theorem TyOwn.low {w:World} {base b:Nat} {v:Value} {l:List Idn.AT} (h:TyOwn w base v l) (hb:b≤base):TyOwn w b v l:=own_base h hb
theorem ClOwn.low {w:World} {base b:Nat} {v:Value} {ps:List ClP} (h:ClOwn w base v ps) (hb:b≤base):ClOwn w b v ps:=⟨own_base h.1 hb,fun p hp=>⟨own_base (h.2 p hp).1 hb,own_base (h.2 p hp).2 hb⟩⟩
end Go.Proofs.YtbkkchhimhlhcaaGreatDoor
/- Plain law: the lines of a schema, written and read. -/
namespace Go.Proofs.YtbkkchhimhlhcaaGreatDoor
open Idn (L B Bs okT okC)
end Go.Proofs.YtbkkchhimhlhcaaGreatDoor
/- Plain law: Parse of a schema's text is the schema; the text of what Parse read is what it read. -/
namespace Go.Proofs.YtbkkchhimhlhcaaGreatDoor
open Idn (L B Bs okT okC)
end Go.Proofs.YtbkkchhimhlhcaaGreatDoor
