/- Part 38 of the proof that identitylaw12.SearchChecks returns true for every data that it may be called with: proof: the package variables hold what the program lays; nothing else is asked. -/
import Derived.Test.YtbkkchhimhlhcaaGreatDoorSrk37
set_option linter.unusedVariables false
set_option linter.unusedSimpArgs false
set_option maxRecDepth 100000
set_option maxHeartbeats 16000000
/- The program's index: Put. -/
namespace Go.Proofs.YtbkkchhimhlhcaaGreatDoor
open Go.RowKit Go.Sort
open Idn (L B Bs drop_L take_L size_L)
theorem asm7_asm {A:List Idn.Att} (h:Idn.ASm7 A):ASm A:=⟨Nat.le_trans h.1 (by decide),fun a ha=>⟨(h.2 a ha).1,Nat.le_trans (h.2 a ha).2.1 (by decide),(h.2 a ha).2.2⟩⟩
def TwoC (X:World) (p:Nat) (a b:Value):Prop:=X.cell? ⟨p,0,none⟩=some a∧X.cell? ⟨p,1,none⟩=some b
theorem twoCA (W:World) (a b:Value) (t:TypeId):TwoC (W.alloc (.cells #[a,b] t)) W.heap.size a b:=by
 have e:=heap_alloc_new W (.cells #[a,b] t)
 refine ⟨?_,?_⟩
 ·rw[cell_of_row _ W.heap.size 0 _ _ (0,0) e];rfl
 ·rw[cell_of_row _ W.heap.size 1 _ _ (0,0) e];rfl
theorem twoCB {X:World} {p:Nat} {a0 b0:Value} (h0:X.cell? ⟨p,0,none⟩=some a0) (h1:X.cell? ⟨p,1,none⟩=some b0) (a b:Value):TwoC ((X.setCell ⟨p,0,none⟩ a).setCell ⟨p,1,none⟩ b) p a b:=by
 refine ⟨?_,?_⟩<;>go_simp
theorem two_new {W w1 : World} {a b : Value} {t : TypeId} (h : Below (W.alloc (.cells #[a, b] t)).drew.heap.size (W.alloc (.cells #[a, b] t)).drew w1) :
  (w1.cell? ⟨W.heap.size,0,none⟩=some a∧w1.cell? ⟨W.heap.size,1,none⟩=some b)∧(w1.frozen? ⟨W.heap.size,0,none⟩=false∧w1.frozen? ⟨W.heap.size,1,none⟩=false):=by
 have e:w1.heap[W.heap.size]?=some (.cells #[a,b] t (0,0)):=(h.block _ (by simp[World.drew])).trans (heap_alloc_new W _)
 refine ⟨⟨?_,?_⟩,⟨Lib.frozen_of_heap e 0,Lib.frozen_of_heap e 1⟩⟩
 ·rw[cell_of_row _ W.heap.size 0 _ _ (0,0) e];rfl
 ·rw[cell_of_row _ W.heap.size 1 _ _ (0,0) e];rfl
theorem AttOwn.setB {w:World} {base:Nat} {v:Value} {ps:List (Idn.Att×Value)} (h:AttOwn w base v ps) {a:Addr} (ha:a.block<base) (u:Value):AttOwn (w.setCell a u) base v ps:=
 ⟨ownsRow_setCell_below h.1 ha u,fun p hp=>ownsRow_setCell_below (h.2.1 p hp) ha u,h.2.2⟩
theorem run_lenF {e t:TypeId} (ht:Tryz.prog.underlying t=some (.map 9 e)) {w:World} {b:Nat} {f:Bs→Option Value} (hf:MapF w b f) (ty:TypeId):∃ks:List Bs,ks.Nodup∧(∀x,x∈ks↔f x≠none)∧(Builtin.len_ #[t] ty #[.map (some b)]).run Tryz.prog w=.ok (.int .i64 ks.length) w:=by
 obtain ⟨ks,hnd,hks,D,h,hdv,hsz,_⟩:=hf.keys
 exact ⟨ks,hnd,hks,by rw[h.len ht ty,hsz]⟩
theorem wpList_lenG {ops : Array Oper} {Q : Exit → Act → World → Prop} {a : Act} {w : World} {rest : List Oper} {o : Oper} (hw : Region.wanted o (yielded ops a.tmps) = true) (m : Operand) (t : TypeId) (hop : o.op = Op.call { callee := Callee.builtin Builtin.len, args := #[m], argTypes := #[t] }) {e : TypeId} (ht : Tryz.prog.underlying t = some (.map 9 e))
  {b:Nat} {f:Bs→Option Value} (hm:a.eval m=.map (some b)) (hf:MapF w b f)
  (hK:∀ks:List Bs,ks.Nodup→(∀x,x∈ks↔f x≠none)→wpList Tryz.prog ops Q rest (a.put o.dst (.int .i64 ks.length)) w):wpList Tryz.prog ops Q (o :: rest) a w:=by
 obtain ⟨ks,hnd,hks,hrun⟩:=run_lenF ht hf o.type
 refine wpList_step fun K' hK'=>?_
 rw[if_pos hw]
 unfold Oper.wp
 simp[execOp,hop,resolve,invoke,builtin,hm,hrun,Result.andThen]
 exact hK' _ _ (hK ks hnd hks)
theorem _root_.Go.RowKit.Below.after {w W W4 W7:World} {hs lo px:Nat} {s:Idn.Sch} {ns:List Bs} {es es':List IxE} {ta cb:Value} {eb vb:Nat} {g g':Bs→Value} {ts:List (Bs×Nat)} {G G':Bs→Bs→Option Nat} (h:Below hs W7 W) (h4:IxV W4 hs lo px s ns es' ta cb eb vb g' ts G') (h47:Below W4.heap.size W4 W7) (hm:Mv (IxS eb ts G) w W4) (hI:IxV w hs lo px s ns es ta cb eb vb g ts G):Below hs w W:=
 ((hm.below hI.lowS hI.hsz).trans (h47.mono h4.hsz)).trans h
section
variable {w:World} {hs lo px:Nat} {s:Idn.Sch} {ns:List Bs} {es:List IxE} {ta cb:Value} {eb vb:Nat} {g:Bs→Value} {ts:List (Bs×Nat)} {G:Bs→Bs→Option Nat}
theorem ixPut_any (hI : IxV w hs lo px s ns es ta cb eb vb g ts G) (hG : GdI s ns es) (hE : ∀ W, Below hs w W → Env W ∧ EnvU W) (n : Bs) (hn : n.length ≤ 1000000) (av : Value) (A : List Idn.Att) (hatv : AttsV w w.heap.size av A) (hA7 : Idn.ASm7 A) :
    Calls Tryz.prog 16 #[.pointer (some ⟨px,0,none⟩),.agg #[.string (B n),av]] w fun e w'=>e=.returned (.int .i64 (ixPut es n A).1)∧∃g' G',IxV w' hs lo px s ns (ixPut es n A).2 ta cb eb vb g' ts G'∧Mv (IxS eb ts G) w w'∧∀k,IxS eb ts G' k→IxS eb ts G k∨w.heap.size≤k:=by
 have hnm:n.length≤maxLen:=by unfold maxLen;omega
 obtain ⟨Ag,cg,rfl,_⟩:=SlV.shape hatv
 have hR:ixPut es n A=if n.isEmpty||!validN n then (5,es)else if Idn.aCheck A !=0 then (Idn.aCheck A,es)else if !hasE es n&&decide (256≤es.length)then (3,es)else (0,insE n (Idn.rSorted A) es):=rfl
 have HR:=Lib.hid hR
 clear hR
 have hkeep:∀W',Below w.heap.size w W'→∃g' G',IxV W' hs lo px s ns es ta cb eb vb g' ts G'∧Mv (IxS eb ts G) w W'∧∀k,IxS eb ts G' k→IxS eb ts G k∨w.heap.size≤k:=fun W' hW=>⟨g,G,hI.keep hW,Mv.of_below hW _,fun k hk=>.inl hk⟩
 have hVn:=fun W=>nm_valid_any (B n) W (by rw[Idn.size_B];omega)
 have hCk:=fun W (hW:Below w.heap.size w W)=>attsCheck_any _ A W (AttsV.mono (AttsV.keep hatv hW) hW.size) (asm7_asm hA7)
 simp only[Idn.L_B]at hVn
 have c2:=hI.c2
 go_enter Tryz.func16,Tryz.ntmps16
 go_upto_region 1 with fail
 with_reducible refine gen1 (R:=fun W=>Code.wp Tryz.prog _ _ _ W) ?_
 intro W hb hszW hc _
 have q0:W.cell? ⟨w.heap.size,0,none⟩=some (.string (B n)):=hc 0 _ rfl
 have q1:W.cell? ⟨w.heap.size,1,none⟩=some (.slice Ag A.length cg):=hc 1 _ rfl
 replace c2:=cell_later hb c2
 clear hc hszW
 go_upto_region 3 with (go_at_call 57;refine (ready_any px eb W c2).mono ?_;rintro e w0 ⟨rfl,rfl⟩)
 by_cases h0:n=[]
 ·have hbe:(B n).toList.isEmpty=true:=by rw[toList_L,Idn.L_B,h0];rfl
  have HF:Hid (ixPut es n A=(5,es)):=by show _=_;rw[HR.out,h0];rfl
  clear h0 HR hVn hCk
  go_wp2
  go_ret
  rw[HF.out]
  exact ⟨rfl,hkeep _ hb⟩
 have hbe:(B n).toList.isEmpty=false:=by rw[toList_L,Idn.L_B];cases n<;>simp_all
 have hie:n.isEmpty=false:=by cases n<;>simp_all
 cases hvn:validN n with
 |false=>
  have HF:Hid (ixPut es n A=(5,es)):=by show _=_;rw[HR.out,hie,hvn];rfl
  rw[hvn]at hVn
  clear h0 HR hCk hvn hie
  go_wp2_with (go_at_call 58;refine (hVn _).mono ?_;rintro e w1 ⟨rfl,hb1⟩)
  go_ret
  rw[HF.out]
  exact ⟨rfl,hkeep _ (hb.trans (hb1.mono hb.size))⟩
 |true=>
 rw[hvn]at hVn
 have HR2:Hid (ixPut es n A=if Idn.aCheck A !=0 then (Idn.aCheck A,es)else if !hasE es n&&decide (256≤es.length)then (3,es)else (0,insE n (Idn.rSorted A) es)):=by show _=_;rw[HR.out,hie,hvn];rfl
 clear HR h0 hie
 go_upto_region 5 with (go_at_call 58;refine (hVn _).mono ?_;rintro e w1 ⟨rfl,hb1⟩)
 have hb1':=hb.trans (hb1.mono hb.size)
 replace hCk:=hCk w1 hb1'
 replace q0:=cell_later hb1 q0
 replace q1:=cell_later hb1 q1
 replace c2:=cell_later hb1 c2
 go_upto_region 6 with (go_at_call 59;refine hCk.mono ?_;rintro e w2 ⟨rfl,hb2⟩)
 replace q0:=cell_later hb2 q0
 replace q1:=cell_later hb2 q1
 replace c2:=cell_later hb2 c2
 replace hb:=hb1'.trans (hb2.mono hb1'.size)
 clear hb1' hb1 hb2 hVn hCk hbe
 generalize w2=W at *
 by_cases hac:Idn.aCheck A=0
 case neg=>
  have hI0:(Idn.aCheck A !=0)=true:=by simpa using hac
  have HF:Hid (ixPut es n A=(Idn.aCheck A,es)):=by show _=_;rw[HR2.out,hI0];rfl
  clear HR2
  generalize Idn.aCheck A=ac at *
  go_wp2
  go_ret
  rw[HF.out]
  exact ⟨rfl,hkeep _ hb⟩
 have HR3:Hid (ixPut es n A=if !hasE es n&&decide (256≤es.length)then (3,es)else (0,insE n (Idn.rSorted A) es)):=by show _=_;rw[HR2.out,hac];rfl
 rw[hac]
 clear HR2
 go_upto_region 8 with fail
 cases hh:hasE es n with
 |true=>
  obtain ⟨A0,hA0⟩:=hasE_iff.1 hh
  obtain ⟨Ab,cb',hgn,_⟩:=SlV.shape (hI.entry hA0)
  have hef:entF es g n=some (.agg #[.string (B n),.slice Ab A0.length cb']):=by unfold entF;rw[hh,←hgn];rfl
  have HF:Hid (ixPut es n A=(0,insE n (Idn.rSorted A) es)):=by show _=_;rw[HR3.out,hh];rfl
  clear HR3 hgn
  have hmS:∀W',Below W.drew.heap.size W.drew W'→(Instr.lookup 102 (.map (some eb)) (.string (B n)) true).run Tryz.prog W'=.ok (.tuple #[.agg #[.string (B n),.slice Ab A0.length cb'],.bool true]) W':=fun W' hW'=>by
   have hm:MapF W' eb (entF es g):=(hI.ent.keep hb.drew).keep hW'
   have:=hm.run_look Tryz.underlying102 (zeroEnt _) (k:=n) hnm
   rwa[hef]at this
  have hbd:Below w.heap.size w W.drew:=hb.drew
  have d0:W.drew.cell? ⟨w.heap.size,0,none⟩=some (.string (B n)):=q0
  have d1:W.drew.cell? ⟨w.heap.size,1,none⟩=some (.slice Ag A.length cg):=q1
  have d2:W.drew.cell? ⟨px,2,none⟩=some (.map (some eb)):=c2
  refine wp_region_held_drew (S:=fun W'=>Below W.drew.heap.size W.drew W') (by kernel_rfl) (Below.refl _ _) (fun hHeld=>?_)
  refine wpAnyH_take (i:=0) (oi:=⟨_,_,_,_,_,_⟩) (v:=?x1v) rfl (by kernel_rfl) (by kernel_rfl) (by kernel_rfl) (fun _ _ _ h=>h) (Or.inl ⟨by rfl,?x1h⟩) (by assumption) ?x1r
  rotate_left 1
  ·(intro w hSw;(try dsimp only at hSw);go_simp;(try with_reducible rfl))
  try simp only[Act.put,List.setIfInBounds_toArray,List.set_cons_zero,List.set_cons_succ]
  refine wpAnyH_take (i:=1) (oi:=⟨_,_,_,_,_,_⟩) (v:=?x2v) rfl (by kernel_rfl) (by kernel_rfl) (by kernel_rfl) (fun _ _ _ h=>h) (Or.inl ⟨by rfl,?x2h⟩) (by assumption) ?x2r
  rotate_left 1
  ·(intro w hSw;(try dsimp only at hSw);go_simp;(try with_reducible rfl))
  try simp only[Act.put,List.setIfInBounds_toArray,List.set_cons_zero,List.set_cons_succ]
  refine wpAnyH_take (i:=2) (oi:=⟨_,_,_,_,_,_⟩) (v:=?x3v) rfl (by kernel_rfl) (by kernel_rfl) (by kernel_rfl) (fun _ _ _ h=>h) (Or.inl ⟨by rfl,?x3h⟩) (by assumption) ?x3r
  rotate_left 1
  ·(intro w hSw;(try dsimp only at hSw);go_simp;(try with_reducible rfl))
  try simp only[Act.put,List.setIfInBounds_toArray,List.set_cons_zero,List.set_cons_succ]
  refine wpAnyH_take (i:=3) (oi:=⟨_,_,_,_,_,_⟩) (v:=?x4v) rfl (by kernel_rfl) (by kernel_rfl) (by kernel_rfl) (fun _ _ _ h=>h) (Or.inl ⟨by rfl,?x4h⟩) (by assumption) ?x4r
  rotate_left 1
  ·(intro w hSw;(try dsimp only at hSw);have f2:=cell_later hSw d2;go_simp;(try with_reducible rfl))
  try simp only[Act.put,List.setIfInBounds_toArray,List.set_cons_zero,List.set_cons_succ]
  refine wpAnyH_take (i:=4) (oi:=⟨_,_,_,_,_,_⟩) (v:=?x5v) rfl (by kernel_rfl) (by kernel_rfl) (by kernel_rfl) (fun _ _ _ h=>h) (Or.inl ⟨by rfl,?x5h⟩) (by assumption) ?x5r
  rotate_left 1
  ·(intro w hSw;(try dsimp only at hSw);go_simp;(try with_reducible rfl))
  try simp only[Act.put,List.setIfInBounds_toArray,List.set_cons_zero,List.set_cons_succ]
  refine wpAnyH_take (i:=5) (oi:=⟨_,_,_,_,_,_⟩) (v:=?x6v) rfl (by kernel_rfl) (by kernel_rfl) (by kernel_rfl) (fun _ _ _ h=>h) (Or.inl ⟨by rfl,?x6h⟩) (by assumption) ?x6r
  rotate_left 1
  ·(intro w hSw;(try dsimp only at hSw);have f0:=cell_later hSw d0;go_simp;(try with_reducible rfl))
  try simp only[Act.put,List.setIfInBounds_toArray,List.set_cons_zero,List.set_cons_succ]
  refine wpAnyH_take (i:=6) (oi:=⟨_,_,_,_,_,_⟩) (v:=?x7v) rfl (by kernel_rfl) (by kernel_rfl) (by kernel_rfl) (fun _ _ _ h=>h) (Or.inl ⟨by rfl,?x7h⟩) (by assumption) ?x7r
  rotate_left 1
  ·(intro w hSw;(try dsimp only at hSw);have f5:=hmS _ hSw;go_simp;(try with_reducible rfl))
  try simp only[Act.put,List.setIfInBounds_toArray,List.set_cons_zero,List.set_cons_succ]
  refine wpAnyH_take (i:=7) (oi:=⟨_,_,_,_,_,_⟩) (v:=?x8v) rfl (by kernel_rfl) (by kernel_rfl) (by kernel_rfl) (fun _ _ _ h=>h) (Or.inl ⟨by rfl,?x8h⟩) (by assumption) ?x8r
  rotate_left 1
  ·(intro w hSw;(try dsimp only at hSw);go_simp;(try with_reducible rfl))
  try simp only[Act.put,List.setIfInBounds_toArray,List.set_cons_zero,List.set_cons_succ]
  refine wpAnyH_take (i:=8) (oi:=⟨_,_,_,_,_,_⟩) (v:=?x9v) rfl (by kernel_rfl) (by kernel_rfl) (by kernel_rfl) (fun _ _ _ h=>h) (Or.inl ⟨by rfl,?x9h⟩) (by assumption) ?x9r
  rotate_left 1
  ·(intro w hSw;(try dsimp only at hSw);go_simp;(try with_reducible rfl))
  try simp only[Act.put,List.setIfInBounds_toArray,List.set_cons_zero,List.set_cons_succ]
  refine wpAnyH_take (i:=9) (oi:=⟨_,_,_,_,_,_⟩) (v:=?x10v) rfl (by kernel_rfl) (by kernel_rfl) (by kernel_rfl) (fun _ _ _ h=>h) (Or.inl ⟨by rfl,?x10h⟩) (by assumption) ?x10r
  rotate_left 1
  ·(intro w hSw;(try dsimp only at hSw);go_simp;(try with_reducible rfl))
  try simp only[Act.put,List.setIfInBounds_toArray,List.set_cons_zero,List.set_cons_succ]
  refine wpAnyH_ready (rs:=[10]) (by kernel_rfl) (by simp) ?_
  refine AllReadyH.cons (o:=⟨_,_,_,_,_,_⟩) rfl (fun K hK=>?_) AllReadyH.nil
  go_simp
  refine hK.out _ _ ?_ (fun hHeld=>?_)
  ·exact (Below.refl _ _).alloc (Nat.le_refl _) _
  clear hK K
  try simp only[Act.put,List.setIfInBounds_toArray,List.set_cons_zero,List.set_cons_succ]
  refine wpAnyH_ready (rs:=[11]) (by kernel_rfl) (by simp) ?_
  refine AllReadyH.cons (o:=⟨_,_,_,_,_,_⟩) rfl (fun K hK=>?_) AllReadyH.nil
  go_simp
  refine hK.out _ _ ?_ (fun hHeld=>?_)
  ·exact (Below.refl _ _).alloc (Nat.le_refl _) _
  clear hK K
  try simp only[Act.put,List.setIfInBounds_toArray,List.set_cons_zero,List.set_cons_succ]
  refine wpAnyH_take (i:=12) (oi:=⟨_,_,_,_,_,_⟩) (v:=?x11v) rfl (by kernel_rfl) (by kernel_rfl) (by kernel_rfl) (fun _ _ _ h=>h) (Or.inl ⟨by rfl,?x11h⟩) (by assumption) ?x11r
  rotate_left 1
  ·(intro w hSw;(try dsimp only at hSw);go_simp;(try with_reducible rfl))
  try simp only[Act.put,List.setIfInBounds_toArray,List.set_cons_zero,List.set_cons_succ]
  refine wpAnyH_done (by kernel_rfl) ?_ _
  clear hmS
  with_reducible generalize (W.alloc (.cells #[.string (B n),.slice Ab A0.length cb'] 48)).drew=W3 at hHeld⊢
  have hb3:=hbd.trans (hHeld.mono hbd.size)
  replace q0:=cell_later hHeld d0
  replace q1:=cell_later hHeld d1
  have hI3:=hI.keep hb3
  have k2:=hI3.c2
  clear hHeld d0 d1 d2 hbd c2 hb
  go_upto_region 11 with fail
  have hDr:=ixDrop_any hI3 hG (fun W hW=>hE W ((hb3.mono hI.hsz).trans hW)) n hn
  go_upto_region 12 with (go_at_call 60;refine hDr.mono ?_;rintro e W4 ⟨rfl,G1,hI4,hm4,hn4⟩)
  have r0:=hm4.cell hI3.allMap q0
  have r1:=hm4.cell hI3.allMap q1
  have hMw4:Mv (IxS eb ts G) w W4:=(Mv.of_below hb3 _).trans hm4 fun j hj=>.inl hj
  have hnw4:∀k,IxS eb ts G1 k→IxS eb ts G k∨w.heap.size≤k:=fun k hk=>(hn4 k hk).imp id fun h=>Nat.le_trans hb3.size h
  have hav4:AttsV W4 W4.heap.size (.slice Ag A.length cg) A:=AttsV.mono (AttsV.keepC hatv fun b off u _ hc=>hMw4.cell hI.allMap hc) hMw4.size
  have hSo:=fun W (hW:Below W4.heap.size W4 W)=>sortedG_any _ A W (AttsV.mono (AttsV.keep hav4 hW) hW.size) hA7
  have hSt:∀W',Below W4.heap.size W4 W'→W'.cell? ⟨w.heap.size,0,none⟩=some (.string (B n))∧W'.cell? ⟨w.heap.size,1,none⟩=some (.slice Ag A.length cg)∧Below W4.heap.size W4 W':=fun W' hW=>⟨cell_later hW r0,cell_later hW r1,hW⟩
  clear hDr
  go_cut [8] (fun v wx=>∃(z:Nat) (A5:Option Addr) (c5:Nat) (ps:List (Idn.Att×Value)),v=.pointer (some ⟨z,0,none⟩)∧Below W4.heap.size W4 wx∧AttOwn wx W4.heap.size (.slice A5 (Idn.rSorted A).length c5) ps∧ps.map (·.1)=Idn.rSorted A∧TwoC wx z (.string (B n)) (.slice A5 (Idn.rSorted A).length c5))
  case first=>
   clear hI hI3 hI4 hG hE hkeep hatv hav4
   go_region_held3 (fun W'=>W'.cell? ⟨w.heap.size,0,none⟩=some (.string (B n))∧W'.cell? ⟨w.heap.size,1,none⟩=some (.slice Ag A.length cg)∧Below W4.heap.size W4 W')
    (first|(refine hSt _ ?_;repeat (first|with_reducible exact Below.refl _ _|with_reducible apply Below.drew|with_reducible refine Below.lay ?_ _|with_reducible refine Below.setCell ?_ (by simp) _|with_reducible refine Below.on ?_ hb5)))
    (first|(go_at_call 61;refine (hSo _ (by repeat (first|with_reducible exact Below.refl _ _|with_reducible apply Below.drew|with_reducible refine Below.lay ?_ _))).mono ?_;rintro e W5 ⟨v5,ps,rfl,hao,hps,hb5⟩;obtain ⟨A5,c5,hsh,_⟩:=SlV.shape (hao.atts hps);subst hsh;first|have hn:=two_new hb5|skip))
   all_goals (go_wp2_with fail;go_meet)
   all_goals first
    |exact ⟨_,A5,c5,ps,rfl,And.right (And.right (by assumption)),(hao.keep ((Below.refl _ _).alloc (Nat.le_refl _) _)).lower (Nat.le_refl _),hps,twoCA _ _ _ _⟩
    |exact ⟨_,A5,c5,ps,rfl,And.right (And.right (by assumption)),((hao.setB (by simp) _).setB (by simp) _).lower (by simp),hps,twoCB hn.1.1 hn.1.2 _ _⟩
  obtain ⟨W5,hW5⟩:∃W5:Nat,W5=0:=⟨0,rfl⟩
  clear hW5 W5
  obtain ⟨z5,A5,c5,ps,rfl,hb46,hao,hps,t0,t1⟩:=hcut
  generalize wc=W6 at *
  replace r0:=cell_later hb46 r0
  replace r1:=cell_later hb46 r1
  clear hSt
  go_upto_region 13 with fail
  have hI6:=(hI4.keep hb46).keep (Below.refl _ W6).drew
  have hao6:=hao.keep (Below.refl _ W6).drew
  have hav6:AttsV W6.drew W6.drew.heap.size (.slice A5 (Idn.rSorted A).length c5) (Idn.rSorted A):=hao6.atts hps
  have d0:W6.drew.cell? ⟨w.heap.size,0,none⟩=some (.string (B n)):=r0
  have u0:W6.drew.cell? ⟨z5,0,none⟩=some (.string (B n)):=t0
  have u1:W6.drew.cell? ⟨z5,1,none⟩=some (.slice A5 (Idn.rSorted A).length c5):=t1
  have d2:W6.drew.cell? ⟨px,2,none⟩=some (.map (some eb)):=hI6.c2
  have hb47:Below W4.heap.size W4 W6.drew:=hb46.drew
  clear r0 r1 t0 t1 hb46
  refine wp_tail_drew 7 (by kernel_rfl) (by kernel_rfl) ?_
  simp only[List.take_succ_cons,List.take_zero,List.drop_succ_cons,List.drop_zero]
  repeat still_step
  refine wpStill_nil ?_
  generalize W6.drew=W7 at *
  have hlo5:lo≤W4.heap.size:=hI4.loz
  go_upto_region 14 with (at_mapUpdate;refine wpList_putF _ rfl _ _ _ 102 rfl Tryz.underlying102 rfl hI6.ent (l:=namesE (ixDrop es n)) (fun y hy=>mem_names.2 (entF_ne.1 hy)) (hG.drop n).names_len n rfl hnm (.agg #[.string (B n),.slice A5 (Idn.rSorted A).length c5]) rfl ?_;intro W8 hm8 hv8)
  have hv8':Mv (IxS eb ts G1) W7 W8:=hv8.mono fun k hk=>.inl hk
  have hall7:=hI6.allMap
  replace d0:=hv8'.cell hall7 d0
  replace u0:=hv8'.cell hall7 u0
  replace u1:=hv8'.cell hall7 u1
  have hV8:=hI6.vl.mv hv8 (fun e=>hI6.ebv (Eq.symm e)) (fun k hk=>by have e:k=eb:=hk;rw[e];exact hI6.ebs)
  have hAe:=rGet_small (aCheck_sorted hac) (rSorted_idem A)
  have hEa:=each_any (w:=W8) 63 #[.pointer (some ⟨w.heap.size,0,none⟩)] fn_put1 px s ta cb n _ (Idn.rSorted A) true (fun t=>lvE s (ixDrop es n) t++nV s t (Idn.rSorted A)) (n :: namesE (ixDrop es n))
   (hv8'.cell hall7 hI6.c0) (hv8'.cell hall7 hI6.c1) (hv8'.cell hall7 hI6.c3) (SchV.mono (hI6.sch.keepC fun b off u _ hc=>hv8'.cell hall7 hc) (Nat.le_trans hI6.hsz hv8'.size)) hG.sm hV8 (hI6.tl (hG.drop n))
   (AttsV.mono (AttsV.keepC hav6 fun b off u _ hc=>hv8'.cell hall7 hc) hv8'.size) (chk_sm (aCheck_sorted hac)) (fun a=>⟨Nat.le_trans (hAe a).1 (by decide),fun x hx=>Nat.le_trans ((hAe a).2 x hx) (by decide)⟩)
   (fun W hW=>hE W ((hv8'.trans hW fun j hj=>.inl (.inr hj)).below hI6.lowS hI6.hsz |>.after hI4 hb47 hMw4 hI)) (fun t ht v m h=>⟨List.mem_append_left _ (GdI.mIn s (ixDrop es n) ts t ht v m h).1,List.mem_cons_of_mem _ (GdI.mIn s (ixDrop es n) ts t ht v m h).2⟩) (fun t _ v hv=>List.mem_append_right _ hv) List.mem_cons_self
   (fun V G2 M2 t v hMV ht hV2 hv hM2=>put1_any hV2 ht v n w.heap.size (hMV.cell hV8.allMap d0) (by unfold maxLen;omega) hnm (hM2 t ht) (by rw[List.length_append];have:=(hG.drop n).lv_len t.1;have:=nV_small (s:=s) (aCheck_sorted hac) (rSorted_idem A) t.1;omega) (by have:=(hG.drop n).len;unfold namesE;rw[List.length_cons,List.length_map];omega))
  have hno:hasE (ixDrop es n) n=false:=by rw[hasE_drop];simp
  have hmix:(mixM s (Idn.rSorted A) n true (atB s (ixDrop es n)) fun _=>false)=atB s (insE n (Idn.rSorted A) (ixDrop es n)):=by
   funext t v m
   rw[atB_ins (drop_ok hG.ok n) hvn hno]
   unfold mixM
   by_cases hc:m=n∧(nV s t (Idn.rSorted A)).contains v=true
   ·rw[if_pos ⟨rfl,hc.1,hc.2⟩,if_pos hc]
   ·rw[if_neg (fun h=>hc ⟨h.2.1,h.2.2⟩),if_neg hc]
  rw[hmix]at hEa
  have hfin:∀W9 G9,VlV W9 vb ts G9 (atB s (insE n (Idn.rSorted A) (ixDrop es n)))→Mv (VlS ts G1) W8 W9→(∀k,VlS ts G9 k→VlS ts G1 k∨W8.heap.size≤k)→∃g',IxV W9 hs lo px s ns (insE n (Idn.rSorted A) es) ta cb eb vb g' ts G9∧Mv (IxS eb ts G) w W9∧∀k,IxS eb ts G9 k→IxS eb ts G k∨w.heap.size≤k:=fun W9 G9 hV9 hm9 hn9=>by
   have h79:Mv (IxS eb ts G1) W7 W9:=hv8'.trans hm9 fun j hj=>.inl (.inr hj)
   have hn79:∀k,VlS ts G9 k→VlS ts G1 k∨W7.heap.size≤k:=fun k hk=>(hn9 k hk).imp id fun h=>Nat.le_trans hv8'.size h
   have hw7:w.heap.size≤W7.heap.size:=Nat.le_trans hMw4.size hb47.size
   refine ⟨fun m=>if m=n then .slice A5 (Idn.rSorted A).length c5 else g m,?_,((hMw4.then_below hb47).trans h79 hnw4),?_⟩
   ·rw[←ins_drop hG.ok hvn (Idn.rSorted A)]
    refine hI6.turned h79 ?_ (fun e he=>?_) hV9 hn79
    ·rw[entF_ins (drop_ok hG.ok n) hvn]
     exact hm8.mv hm9 fun hk=>hI6.ebs hk
    ·rcases (insE_mem hvn (drop_ok hG.ok n) e).1 he with rfl|⟨h1,h2⟩
     ·refine ⟨ps,?_,hps⟩
      simp only[if_true]
      exact (hao6.mv h79 fun k hk=>.inr (hall7 k hk)).lower hlo5
     ·obtain ⟨qs,h3,h4⟩:=hI6.att e h1
      refine ⟨qs,?_,h4⟩
      simp only[if_neg h2]
      exact h3.mv h79 fun k hk=>.inr (hall7 k hk)
   ·rintro k (rfl|hk)
    ·exact .inl (.inl rfl)
    ·rcases hn79 k hk with h|h
     ·exact hnw4 k (.inr h)
     ·exact .inr (Nat.le_trans hw7 h)
  clear hmix hI hI3 hI4 hI6 hV8 hm8 hv8 hv8' hall7 hE hG hatv hSo hao hao6 hav4 hav6
  go_wp2_with (go_at_call 62;refine hEa.mono ?_;rintro e w5 ⟨rfl,G5,hV5,hm5,hn5⟩)
  go_ret
  obtain ⟨g',h1,h2,h3⟩:=hfin _ _ hV5 hm5 hn5
  rw[HF.out]
  exact ⟨rfl,g',G5,h1,h2,h3⟩
 |false=>
  have hef:entF es g n=none:=by unfold entF;rw[hh];rfl
  by_cases hfl:256≤es.length
  ·have HF:Hid (ixPut es n A=(3,es)):=by show _=_;rw[HR3.out,hh,decide_eq_true hfl];rfl
   clear HR3
   have hmS:∀W',Below W.drew.heap.size W.drew W'→(Instr.lookup 102 (.map (some eb)) (.string (B n)) true).run Tryz.prog W'=.ok (.tuple #[.agg #[.string ⟨#[]⟩,.slice none 0 0],.bool false]) W':=fun W' hW'=>by
    have hm:MapF W' eb (entF es g):=(hI.ent.keep hb.drew).keep hW'
    have:=hm.run_look Tryz.underlying102 (zeroEnt _) (k:=n) hnm
    rwa[hef]at this
   have hbd:Below w.heap.size w W.drew:=hb.drew
   have d0:W.drew.cell? ⟨w.heap.size,0,none⟩=some (.string (B n)):=q0
   have d1:W.drew.cell? ⟨w.heap.size,1,none⟩=some (.slice Ag A.length cg):=q1
   have d2:W.drew.cell? ⟨px,2,none⟩=some (.map (some eb)):=c2
   refine wp_region_held_drew (S:=fun W'=>Below W.drew.heap.size W.drew W') (by kernel_rfl) (Below.refl _ _) (fun hHeld=>?_)
   refine wpAnyH_take (i:=0) (oi:=⟨_,_,_,_,_,_⟩) (v:=?x12v) rfl (by kernel_rfl) (by kernel_rfl) (by kernel_rfl) (fun _ _ _ h=>h) (Or.inl ⟨by rfl,?x12h⟩) (by assumption) ?x12r
   rotate_left 1
   ·(intro w hSw;(try dsimp only at hSw);go_simp;(try with_reducible rfl))
   try simp only[Act.put,List.setIfInBounds_toArray,List.set_cons_zero,List.set_cons_succ]
   refine wpAnyH_take (i:=1) (oi:=⟨_,_,_,_,_,_⟩) (v:=?x13v) rfl (by kernel_rfl) (by kernel_rfl) (by kernel_rfl) (fun _ _ _ h=>h) (Or.inl ⟨by rfl,?x13h⟩) (by assumption) ?x13r
   rotate_left 1
   ·(intro w hSw;(try dsimp only at hSw);go_simp;(try with_reducible rfl))
   try simp only[Act.put,List.setIfInBounds_toArray,List.set_cons_zero,List.set_cons_succ]
   refine wpAnyH_take (i:=2) (oi:=⟨_,_,_,_,_,_⟩) (v:=?x14v) rfl (by kernel_rfl) (by kernel_rfl) (by kernel_rfl) (fun _ _ _ h=>h) (Or.inl ⟨by rfl,?x14h⟩) (by assumption) ?x14r
   rotate_left 1
   ·(intro w hSw;(try dsimp only at hSw);go_simp;(try with_reducible rfl))
   try simp only[Act.put,List.setIfInBounds_toArray,List.set_cons_zero,List.set_cons_succ]
   refine wpAnyH_take (i:=3) (oi:=⟨_,_,_,_,_,_⟩) (v:=?x15v) rfl (by kernel_rfl) (by kernel_rfl) (by kernel_rfl) (fun _ _ _ h=>h) (Or.inl ⟨by rfl,?x15h⟩) (by assumption) ?x15r
   rotate_left 1
   ·(intro w hSw;(try dsimp only at hSw);have f2:=cell_later hSw d2;go_simp;(try with_reducible rfl))
   try simp only[Act.put,List.setIfInBounds_toArray,List.set_cons_zero,List.set_cons_succ]
   refine wpAnyH_take (i:=4) (oi:=⟨_,_,_,_,_,_⟩) (v:=?x16v) rfl (by kernel_rfl) (by kernel_rfl) (by kernel_rfl) (fun _ _ _ h=>h) (Or.inl ⟨by rfl,?x16h⟩) (by assumption) ?x16r
   rotate_left 1
   ·(intro w hSw;(try dsimp only at hSw);go_simp;(try with_reducible rfl))
   try simp only[Act.put,List.setIfInBounds_toArray,List.set_cons_zero,List.set_cons_succ]
   refine wpAnyH_take (i:=5) (oi:=⟨_,_,_,_,_,_⟩) (v:=?x17v) rfl (by kernel_rfl) (by kernel_rfl) (by kernel_rfl) (fun _ _ _ h=>h) (Or.inl ⟨by rfl,?x17h⟩) (by assumption) ?x17r
   rotate_left 1
   ·(intro w hSw;(try dsimp only at hSw);have f0:=cell_later hSw d0;go_simp;(try with_reducible rfl))
   try simp only[Act.put,List.setIfInBounds_toArray,List.set_cons_zero,List.set_cons_succ]
   refine wpAnyH_take (i:=6) (oi:=⟨_,_,_,_,_,_⟩) (v:=?x18v) rfl (by kernel_rfl) (by kernel_rfl) (by kernel_rfl) (fun _ _ _ h=>h) (Or.inl ⟨by rfl,?x18h⟩) (by assumption) ?x18r
   rotate_left 1
   ·(intro w hSw;(try dsimp only at hSw);have f5:=hmS _ hSw;go_simp;(try with_reducible rfl))
   try simp only[Act.put,List.setIfInBounds_toArray,List.set_cons_zero,List.set_cons_succ]
   refine wpAnyH_take (i:=7) (oi:=⟨_,_,_,_,_,_⟩) (v:=?x19v) rfl (by kernel_rfl) (by kernel_rfl) (by kernel_rfl) (fun _ _ _ h=>h) (Or.inl ⟨by rfl,?x19h⟩) (by assumption) ?x19r
   rotate_left 1
   ·(intro w hSw;(try dsimp only at hSw);go_simp;(try with_reducible rfl))
   try simp only[Act.put,List.setIfInBounds_toArray,List.set_cons_zero,List.set_cons_succ]
   refine wpAnyH_take (i:=8) (oi:=⟨_,_,_,_,_,_⟩) (v:=?x20v) rfl (by kernel_rfl) (by kernel_rfl) (by kernel_rfl) (fun _ _ _ h=>h) (Or.inl ⟨by rfl,?x20h⟩) (by assumption) ?x20r
   rotate_left 1
   ·(intro w hSw;(try dsimp only at hSw);go_simp;(try with_reducible rfl))
   try simp only[Act.put,List.setIfInBounds_toArray,List.set_cons_zero,List.set_cons_succ]
   refine wpAnyH_take (i:=9) (oi:=⟨_,_,_,_,_,_⟩) (v:=?x21v) rfl (by kernel_rfl) (by kernel_rfl) (by kernel_rfl) (fun _ _ _ h=>h) (Or.inl ⟨by rfl,?x21h⟩) (by assumption) ?x21r
   rotate_left 1
   ·(intro w hSw;(try dsimp only at hSw);go_simp;(try with_reducible rfl))
   try simp only[Act.put,List.setIfInBounds_toArray,List.set_cons_zero,List.set_cons_succ]
   refine wpAnyH_ready (rs:=[10]) (by kernel_rfl) (by simp) ?_
   refine AllReadyH.cons (o:=⟨_,_,_,_,_,_⟩) rfl (fun K hK=>?_) AllReadyH.nil
   go_simp
   refine hK.out _ _ ?_ (fun hHeld=>?_)
   ·exact (Below.refl _ _).alloc (Nat.le_refl _) _
   clear hK K
   try simp only[Act.put,List.setIfInBounds_toArray,List.set_cons_zero,List.set_cons_succ]
   refine wpAnyH_ready (rs:=[11]) (by kernel_rfl) (by simp) ?_
   refine AllReadyH.cons (o:=⟨_,_,_,_,_,_⟩) rfl (fun K hK=>?_) AllReadyH.nil
   go_simp
   refine hK.out _ _ ?_ (fun hHeld=>?_)
   ·exact (Below.refl _ _).alloc (Nat.le_refl _) _
   clear hK K
   try simp only[Act.put,List.setIfInBounds_toArray,List.set_cons_zero,List.set_cons_succ]
   refine wpAnyH_take (i:=12) (oi:=⟨_,_,_,_,_,_⟩) (v:=?x22v) rfl (by kernel_rfl) (by kernel_rfl) (by kernel_rfl) (fun _ _ _ h=>h) (Or.inl ⟨by rfl,?x22h⟩) (by assumption) ?x22r
   rotate_left 1
   ·(intro w hSw;(try dsimp only at hSw);go_simp;(try with_reducible rfl))
   try simp only[Act.put,List.setIfInBounds_toArray,List.set_cons_zero,List.set_cons_succ]
   refine wpAnyH_done (by kernel_rfl) ?_ _
   clear hmS
   with_reducible generalize (W.alloc (.cells #[.string ⟨#[]⟩,.slice none 0 0] 48)).drew=W3 at hHeld⊢
   have hb3:=hbd.trans (hHeld.mono hbd.size)
   replace q0:=cell_later hHeld d0
   replace q1:=cell_later hHeld d1
   have hI3:=hI.keep hb3
   have k2:=hI3.c2
   clear hHeld d0 d1 d2 hbd c2 hb
   have hent:=hI3.ent
   have hok:=hG.ok
   clear hI hI3 hG hE
   go_wp2_with (at_len;refine wpList_lenG (by rfl) _ 102 rfl Tryz.underlying102 rfl hent ?_;intro ks hnd hks;have hkl:=len_names hok hnd (fun x=>(hks x).trans entF_ne);have hge:(256:Int)≤ks.length:=by omega)
   go_ret
   rw[HF.out]
   exact ⟨rfl,hkeep _ hb3⟩
  have HF:Hid (ixPut es n A=(0,insE n (Idn.rSorted A) es)):=by show _=_;rw[HR3.out,hh,decide_eq_false hfl];rfl
  clear HR3
  have hmS:∀W',Below W.drew.heap.size W.drew W'→(Instr.lookup 102 (.map (some eb)) (.string (B n)) true).run Tryz.prog W'=.ok (.tuple #[.agg #[.string ⟨#[]⟩,.slice none 0 0],.bool false]) W':=fun W' hW'=>by
   have hm:MapF W' eb (entF es g):=(hI.ent.keep hb.drew).keep hW'
   have:=hm.run_look Tryz.underlying102 (zeroEnt _) (k:=n) hnm
   rwa[hef]at this
  have hbd:Below w.heap.size w W.drew:=hb.drew
  have d0:W.drew.cell? ⟨w.heap.size,0,none⟩=some (.string (B n)):=q0
  have d1:W.drew.cell? ⟨w.heap.size,1,none⟩=some (.slice Ag A.length cg):=q1
  have d2:W.drew.cell? ⟨px,2,none⟩=some (.map (some eb)):=c2
  refine wp_region_held_drew (S:=fun W'=>Below W.drew.heap.size W.drew W') (by kernel_rfl) (Below.refl _ _) (fun hHeld=>?_)
  refine wpAnyH_take (i:=0) (oi:=⟨_,_,_,_,_,_⟩) (v:=?x23v) rfl (by kernel_rfl) (by kernel_rfl) (by kernel_rfl) (fun _ _ _ h=>h) (Or.inl ⟨by rfl,?x23h⟩) (by assumption) ?x23r
  rotate_left 1
  ·(intro w hSw;(try dsimp only at hSw);go_simp;(try with_reducible rfl))
  try simp only[Act.put,List.setIfInBounds_toArray,List.set_cons_zero,List.set_cons_succ]
  refine wpAnyH_take (i:=1) (oi:=⟨_,_,_,_,_,_⟩) (v:=?x24v) rfl (by kernel_rfl) (by kernel_rfl) (by kernel_rfl) (fun _ _ _ h=>h) (Or.inl ⟨by rfl,?x24h⟩) (by assumption) ?x24r
  rotate_left 1
  ·(intro w hSw;(try dsimp only at hSw);go_simp;(try with_reducible rfl))
  try simp only[Act.put,List.setIfInBounds_toArray,List.set_cons_zero,List.set_cons_succ]
  refine wpAnyH_take (i:=2) (oi:=⟨_,_,_,_,_,_⟩) (v:=?x25v) rfl (by kernel_rfl) (by kernel_rfl) (by kernel_rfl) (fun _ _ _ h=>h) (Or.inl ⟨by rfl,?x25h⟩) (by assumption) ?x25r
  rotate_left 1
  ·(intro w hSw;(try dsimp only at hSw);go_simp;(try with_reducible rfl))
  try simp only[Act.put,List.setIfInBounds_toArray,List.set_cons_zero,List.set_cons_succ]
  refine wpAnyH_take (i:=3) (oi:=⟨_,_,_,_,_,_⟩) (v:=?x26v) rfl (by kernel_rfl) (by kernel_rfl) (by kernel_rfl) (fun _ _ _ h=>h) (Or.inl ⟨by rfl,?x26h⟩) (by assumption) ?x26r
  rotate_left 1
  ·(intro w hSw;(try dsimp only at hSw);have f2:=cell_later hSw d2;go_simp;(try with_reducible rfl))
  try simp only[Act.put,List.setIfInBounds_toArray,List.set_cons_zero,List.set_cons_succ]
  refine wpAnyH_take (i:=4) (oi:=⟨_,_,_,_,_,_⟩) (v:=?x27v) rfl (by kernel_rfl) (by kernel_rfl) (by kernel_rfl) (fun _ _ _ h=>h) (Or.inl ⟨by rfl,?x27h⟩) (by assumption) ?x27r
  rotate_left 1
  ·(intro w hSw;(try dsimp only at hSw);go_simp;(try with_reducible rfl))
  try simp only[Act.put,List.setIfInBounds_toArray,List.set_cons_zero,List.set_cons_succ]
  refine wpAnyH_take (i:=5) (oi:=⟨_,_,_,_,_,_⟩) (v:=?x28v) rfl (by kernel_rfl) (by kernel_rfl) (by kernel_rfl) (fun _ _ _ h=>h) (Or.inl ⟨by rfl,?x28h⟩) (by assumption) ?x28r
  rotate_left 1
  ·(intro w hSw;(try dsimp only at hSw);have f0:=cell_later hSw d0;go_simp;(try with_reducible rfl))
  try simp only[Act.put,List.setIfInBounds_toArray,List.set_cons_zero,List.set_cons_succ]
  refine wpAnyH_take (i:=6) (oi:=⟨_,_,_,_,_,_⟩) (v:=?x29v) rfl (by kernel_rfl) (by kernel_rfl) (by kernel_rfl) (fun _ _ _ h=>h) (Or.inl ⟨by rfl,?x29h⟩) (by assumption) ?x29r
  rotate_left 1
  ·(intro w hSw;(try dsimp only at hSw);have f5:=hmS _ hSw;go_simp;(try with_reducible rfl))
  try simp only[Act.put,List.setIfInBounds_toArray,List.set_cons_zero,List.set_cons_succ]
  refine wpAnyH_take (i:=7) (oi:=⟨_,_,_,_,_,_⟩) (v:=?x30v) rfl (by kernel_rfl) (by kernel_rfl) (by kernel_rfl) (fun _ _ _ h=>h) (Or.inl ⟨by rfl,?x30h⟩) (by assumption) ?x30r
  rotate_left 1
  ·(intro w hSw;(try dsimp only at hSw);go_simp;(try with_reducible rfl))
  try simp only[Act.put,List.setIfInBounds_toArray,List.set_cons_zero,List.set_cons_succ]
  refine wpAnyH_take (i:=8) (oi:=⟨_,_,_,_,_,_⟩) (v:=?x31v) rfl (by kernel_rfl) (by kernel_rfl) (by kernel_rfl) (fun _ _ _ h=>h) (Or.inl ⟨by rfl,?x31h⟩) (by assumption) ?x31r
  rotate_left 1
  ·(intro w hSw;(try dsimp only at hSw);go_simp;(try with_reducible rfl))
  try simp only[Act.put,List.setIfInBounds_toArray,List.set_cons_zero,List.set_cons_succ]
  refine wpAnyH_take (i:=9) (oi:=⟨_,_,_,_,_,_⟩) (v:=?x32v) rfl (by kernel_rfl) (by kernel_rfl) (by kernel_rfl) (fun _ _ _ h=>h) (Or.inl ⟨by rfl,?x32h⟩) (by assumption) ?x32r
  rotate_left 1
  ·(intro w hSw;(try dsimp only at hSw);go_simp;(try with_reducible rfl))
  try simp only[Act.put,List.setIfInBounds_toArray,List.set_cons_zero,List.set_cons_succ]
  refine wpAnyH_ready (rs:=[10]) (by kernel_rfl) (by simp) ?_
  refine AllReadyH.cons (o:=⟨_,_,_,_,_,_⟩) rfl (fun K hK=>?_) AllReadyH.nil
  go_simp
  refine hK.out _ _ ?_ (fun hHeld=>?_)
  ·exact (Below.refl _ _).alloc (Nat.le_refl _) _
  clear hK K
  try simp only[Act.put,List.setIfInBounds_toArray,List.set_cons_zero,List.set_cons_succ]
  refine wpAnyH_ready (rs:=[11]) (by kernel_rfl) (by simp) ?_
  refine AllReadyH.cons (o:=⟨_,_,_,_,_,_⟩) rfl (fun K hK=>?_) AllReadyH.nil
  go_simp
  refine hK.out _ _ ?_ (fun hHeld=>?_)
  ·exact (Below.refl _ _).alloc (Nat.le_refl _) _
  clear hK K
  try simp only[Act.put,List.setIfInBounds_toArray,List.set_cons_zero,List.set_cons_succ]
  refine wpAnyH_take (i:=12) (oi:=⟨_,_,_,_,_,_⟩) (v:=?x33v) rfl (by kernel_rfl) (by kernel_rfl) (by kernel_rfl) (fun _ _ _ h=>h) (Or.inl ⟨by rfl,?x33h⟩) (by assumption) ?x33r
  rotate_left 1
  ·(intro w hSw;(try dsimp only at hSw);go_simp;(try with_reducible rfl))
  try simp only[Act.put,List.setIfInBounds_toArray,List.set_cons_zero,List.set_cons_succ]
  refine wpAnyH_done (by kernel_rfl) ?_ _
  clear hmS
  with_reducible generalize (W.alloc (.cells #[.string ⟨#[]⟩,.slice none 0 0] 48)).drew=W3 at hHeld⊢
  have hb3:=hbd.trans (hHeld.mono hbd.size)
  replace q0:=cell_later hHeld d0
  replace q1:=cell_later hHeld d1
  have hI3:=hI.keep hb3
  have k2:=hI3.c2
  clear hHeld d0 d1 d2 hbd c2 hb
  have hent:=hI3.ent
  have hok:=hG.ok
  go_upto_region 11 with (at_len;refine wpList_lenG (by rfl) _ 102 rfl Tryz.underlying102 rfl hent ?_;intro ks hnd hks;have hkl:=len_names hok hnd (fun x=>(hks x).trans entF_ne);have hge:¬(256:Int)≤ks.length:=by omega)
  have hDr:=ixDrop_any hI3 hG (fun W hW=>hE W ((hb3.mono hI.hsz).trans hW)) n hn
  go_upto_region 12 with (go_at_call 60;refine hDr.mono ?_;rintro e W4 ⟨rfl,G1,hI4,hm4,hn4⟩)
  have r0:=hm4.cell hI3.allMap q0
  have r1:=hm4.cell hI3.allMap q1
  have hMw4:Mv (IxS eb ts G) w W4:=(Mv.of_below hb3 _).trans hm4 fun j hj=>.inl hj
  have hnw4:∀k,IxS eb ts G1 k→IxS eb ts G k∨w.heap.size≤k:=fun k hk=>(hn4 k hk).imp id fun h=>Nat.le_trans hb3.size h
  have hav4:AttsV W4 W4.heap.size (.slice Ag A.length cg) A:=AttsV.mono (AttsV.keepC hatv fun b off u _ hc=>hMw4.cell hI.allMap hc) hMw4.size
  have hSo:=fun W (hW:Below W4.heap.size W4 W)=>sortedG_any _ A W (AttsV.mono (AttsV.keep hav4 hW) hW.size) hA7
  have hSt:∀W',Below W4.heap.size W4 W'→W'.cell? ⟨w.heap.size,0,none⟩=some (.string (B n))∧W'.cell? ⟨w.heap.size,1,none⟩=some (.slice Ag A.length cg)∧Below W4.heap.size W4 W':=fun W' hW=>⟨cell_later hW r0,cell_later hW r1,hW⟩
  clear hDr
  go_cut [8] (fun v wx=>∃(z:Nat) (A5:Option Addr) (c5:Nat) (ps:List (Idn.Att×Value)),v=.pointer (some ⟨z,0,none⟩)∧Below W4.heap.size W4 wx∧AttOwn wx W4.heap.size (.slice A5 (Idn.rSorted A).length c5) ps∧ps.map (·.1)=Idn.rSorted A∧TwoC wx z (.string (B n)) (.slice A5 (Idn.rSorted A).length c5))
  case first=>
   clear hI hI3 hI4 hG hE hkeep hatv hav4
   go_region_held3 (fun W'=>W'.cell? ⟨w.heap.size,0,none⟩=some (.string (B n))∧W'.cell? ⟨w.heap.size,1,none⟩=some (.slice Ag A.length cg)∧Below W4.heap.size W4 W')
    (first|(refine hSt _ ?_;repeat (first|with_reducible exact Below.refl _ _|with_reducible apply Below.drew|with_reducible refine Below.lay ?_ _|with_reducible refine Below.setCell ?_ (by simp) _|with_reducible refine Below.on ?_ hb5)))
    (first|(go_at_call 61;refine (hSo _ (by repeat (first|with_reducible exact Below.refl _ _|with_reducible apply Below.drew|with_reducible refine Below.lay ?_ _))).mono ?_;rintro e W5 ⟨v5,ps,rfl,hao,hps,hb5⟩;obtain ⟨A5,c5,hsh,_⟩:=SlV.shape (hao.atts hps);subst hsh;first|have hn:=two_new hb5|skip))
   all_goals (go_wp2_with fail;go_meet)
   all_goals first
    |exact ⟨_,A5,c5,ps,rfl,And.right (And.right (by assumption)),(hao.keep ((Below.refl _ _).alloc (Nat.le_refl _) _)).lower (Nat.le_refl _),hps,twoCA _ _ _ _⟩
    |exact ⟨_,A5,c5,ps,rfl,And.right (And.right (by assumption)),((hao.setB (by simp) _).setB (by simp) _).lower (by simp),hps,twoCB hn.1.1 hn.1.2 _ _⟩
  obtain ⟨W5,hW5⟩:∃W5:Nat,W5=0:=⟨0,rfl⟩
  clear hW5 W5
  obtain ⟨z5,A5,c5,ps,rfl,hb46,hao,hps,t0,t1⟩:=hcut
  generalize wc=W6 at *
  replace r0:=cell_later hb46 r0
  replace r1:=cell_later hb46 r1
  clear hSt
  go_upto_region 13 with fail
  have hI6:=(hI4.keep hb46).keep (Below.refl _ W6).drew
  have hao6:=hao.keep (Below.refl _ W6).drew
  have hav6:AttsV W6.drew W6.drew.heap.size (.slice A5 (Idn.rSorted A).length c5) (Idn.rSorted A):=hao6.atts hps
  have d0:W6.drew.cell? ⟨w.heap.size,0,none⟩=some (.string (B n)):=r0
  have u0:W6.drew.cell? ⟨z5,0,none⟩=some (.string (B n)):=t0
  have u1:W6.drew.cell? ⟨z5,1,none⟩=some (.slice A5 (Idn.rSorted A).length c5):=t1
  have d2:W6.drew.cell? ⟨px,2,none⟩=some (.map (some eb)):=hI6.c2
  have hb47:Below W4.heap.size W4 W6.drew:=hb46.drew
  clear r0 r1 t0 t1 hb46
  refine wp_tail_drew 7 (by kernel_rfl) (by kernel_rfl) ?_
  simp only[List.take_succ_cons,List.take_zero,List.drop_succ_cons,List.drop_zero]
  repeat still_step
  refine wpStill_nil ?_
  generalize W6.drew=W7 at *
  have hlo5:lo≤W4.heap.size:=hI4.loz
  go_upto_region 14 with (at_mapUpdate;refine wpList_putF _ rfl _ _ _ 102 rfl Tryz.underlying102 rfl hI6.ent (l:=namesE (ixDrop es n)) (fun y hy=>mem_names.2 (entF_ne.1 hy)) (hG.drop n).names_len n rfl hnm (.agg #[.string (B n),.slice A5 (Idn.rSorted A).length c5]) rfl ?_;intro W8 hm8 hv8)
  have hv8':Mv (IxS eb ts G1) W7 W8:=hv8.mono fun k hk=>.inl hk
  have hall7:=hI6.allMap
  replace d0:=hv8'.cell hall7 d0
  replace u0:=hv8'.cell hall7 u0
  replace u1:=hv8'.cell hall7 u1
  have hV8:=hI6.vl.mv hv8 (fun e=>hI6.ebv (Eq.symm e)) (fun k hk=>by have e:k=eb:=hk;rw[e];exact hI6.ebs)
  have hAe:=rGet_small (aCheck_sorted hac) (rSorted_idem A)
  have hEa:=each_any (w:=W8) 63 #[.pointer (some ⟨w.heap.size,0,none⟩)] fn_put1 px s ta cb n _ (Idn.rSorted A) true (fun t=>lvE s (ixDrop es n) t++nV s t (Idn.rSorted A)) (n :: namesE (ixDrop es n))
   (hv8'.cell hall7 hI6.c0) (hv8'.cell hall7 hI6.c1) (hv8'.cell hall7 hI6.c3) (SchV.mono (hI6.sch.keepC fun b off u _ hc=>hv8'.cell hall7 hc) (Nat.le_trans hI6.hsz hv8'.size)) hG.sm hV8 (hI6.tl (hG.drop n))
   (AttsV.mono (AttsV.keepC hav6 fun b off u _ hc=>hv8'.cell hall7 hc) hv8'.size) (chk_sm (aCheck_sorted hac)) (fun a=>⟨Nat.le_trans (hAe a).1 (by decide),fun x hx=>Nat.le_trans ((hAe a).2 x hx) (by decide)⟩)
   (fun W hW=>hE W ((hv8'.trans hW fun j hj=>.inl (.inr hj)).below hI6.lowS hI6.hsz |>.after hI4 hb47 hMw4 hI)) (fun t ht v m h=>⟨List.mem_append_left _ (GdI.mIn s (ixDrop es n) ts t ht v m h).1,List.mem_cons_of_mem _ (GdI.mIn s (ixDrop es n) ts t ht v m h).2⟩) (fun t _ v hv=>List.mem_append_right _ hv) List.mem_cons_self
   (fun V G2 M2 t v hMV ht hV2 hv hM2=>put1_any hV2 ht v n w.heap.size (hMV.cell hV8.allMap d0) (by unfold maxLen;omega) hnm (hM2 t ht) (by rw[List.length_append];have:=(hG.drop n).lv_len t.1;have:=nV_small (s:=s) (aCheck_sorted hac) (rSorted_idem A) t.1;omega) (by have:=(hG.drop n).len;unfold namesE;rw[List.length_cons,List.length_map];omega))
  have hno:hasE (ixDrop es n) n=false:=by rw[hasE_drop];simp
  have hmix:(mixM s (Idn.rSorted A) n true (atB s (ixDrop es n)) fun _=>false)=atB s (insE n (Idn.rSorted A) (ixDrop es n)):=by
   funext t v m
   rw[atB_ins (drop_ok hG.ok n) hvn hno]
   unfold mixM
   by_cases hc:m=n∧(nV s t (Idn.rSorted A)).contains v=true
   ·rw[if_pos ⟨rfl,hc.1,hc.2⟩,if_pos hc]
   ·rw[if_neg (fun h=>hc ⟨h.2.1,h.2.2⟩),if_neg hc]
  rw[hmix]at hEa
  have hfin:∀W9 G9,VlV W9 vb ts G9 (atB s (insE n (Idn.rSorted A) (ixDrop es n)))→Mv (VlS ts G1) W8 W9→(∀k,VlS ts G9 k→VlS ts G1 k∨W8.heap.size≤k)→∃g',IxV W9 hs lo px s ns (insE n (Idn.rSorted A) es) ta cb eb vb g' ts G9∧Mv (IxS eb ts G) w W9∧∀k,IxS eb ts G9 k→IxS eb ts G k∨w.heap.size≤k:=fun W9 G9 hV9 hm9 hn9=>by
   have h79:Mv (IxS eb ts G1) W7 W9:=hv8'.trans hm9 fun j hj=>.inl (.inr hj)
   have hn79:∀k,VlS ts G9 k→VlS ts G1 k∨W7.heap.size≤k:=fun k hk=>(hn9 k hk).imp id fun h=>Nat.le_trans hv8'.size h
   have hw7:w.heap.size≤W7.heap.size:=Nat.le_trans hMw4.size hb47.size
   refine ⟨fun m=>if m=n then .slice A5 (Idn.rSorted A).length c5 else g m,?_,((hMw4.then_below hb47).trans h79 hnw4),?_⟩
   ·rw[←ins_drop hG.ok hvn (Idn.rSorted A)]
    refine hI6.turned h79 ?_ (fun e he=>?_) hV9 hn79
    ·rw[entF_ins (drop_ok hG.ok n) hvn]
     exact hm8.mv hm9 fun hk=>hI6.ebs hk
    ·rcases (insE_mem hvn (drop_ok hG.ok n) e).1 he with rfl|⟨h1,h2⟩
     ·refine ⟨ps,?_,hps⟩
      simp only[if_true]
      exact (hao6.mv h79 fun k hk=>.inr (hall7 k hk)).lower hlo5
     ·obtain ⟨qs,h3,h4⟩:=hI6.att e h1
      refine ⟨qs,?_,h4⟩
      simp only[if_neg h2]
      exact h3.mv h79 fun k hk=>.inr (hall7 k hk)
   ·rintro k (rfl|hk)
    ·exact .inl (.inl rfl)
    ·rcases hn79 k hk with h|h
     ·exact hnw4 k (.inr h)
     ·exact .inr (Nat.le_trans hw7 h)
  clear hmix hI hI3 hI4 hI6 hV8 hm8 hv8 hv8' hall7 hE hG hatv hSo hao hao6 hav4 hav6
  go_wp2_with (go_at_call 62;refine hEa.mono ?_;rintro e w5 ⟨rfl,G5,hV5,hm5,hn5⟩)
  go_ret
  obtain ⟨g',h1,h2,h3⟩:=hfin _ _ hV5 hm5 hn5
  rw[HF.out]
  exact ⟨rfl,g',G5,h1,h2,h3⟩
end
end Go.Proofs.YtbkkchhimhlhcaaGreatDoor
/- Schemas cloned: slices.Clone at types and classes, index.owned. -/
namespace Go.Proofs.YtbkkchhimhlhcaaGreatDoor
open Go.RowKit Go.Sort
open Idn (L B Bs drop_L take_L size_L)
section
variable {α:Type}
def rowQ (qs:List (α×List Value)):List Value:=qs.flatMap (·.2)
theorem rowQ_len {size:Nat}:∀{qs:List (α×List Value)},(∀q∈qs,q.2.length=size)→(rowQ qs).length=qs.length*size
 |[],_=>by simp[rowQ]
 |q :: qs,h=>by
  have h1:=h q List.mem_cons_self
  have h2:=rowQ_len fun p hp=>h p (List.mem_cons_of_mem _ hp)
  have e:rowQ (q :: qs)=q.2++rowQ qs:=rfl
  rw[e,List.length_append,h1,h2,List.length_cons,Nat.add_mul];omega
theorem rowQ_at {size:Nat}:∀{qs:List (α×List Value)},(∀q∈qs,q.2.length=size)→∀{i:Nat} {q:α×List Value},qs[i]?=some q→∀{k:Nat} {u:Value},q.2[k]?=some u→(rowQ qs)[i*size+k]?=some u
 |[],_,i,q,h,_,_,_=>by simp at h
 |p :: qs,hs,0,q,h,k,u,hk=>by
  simp at h
  subst h
  have e:rowQ (p :: qs)=p.2++rowQ qs:=rfl
  have hkl:=(List.getElem?_eq_some_iff.1 hk).1
  rw[e,Nat.zero_mul,Nat.zero_add,List.getElem?_append_left hkl]
  exact hk
 |p :: qs,hs,i+1,q,h,k,u,hk=>by
  have h1:=hs p List.mem_cons_self
  have h2:=rowQ_at (fun p hp=>hs p (List.mem_cons_of_mem _ hp)) (by simpa using h) hk
  have e:rowQ (p :: qs)=p.2++rowQ qs:=rfl
  rw[e,List.getElem?_append_right (by rw[h1,Nat.add_mul];omega),h1,show (i+1)*size+k-size=i*size+k by rw[Nat.add_mul];omega]
  exact h2
theorem rowQ_inv {size:Nat}:∀{qs:List (α×List Value)},(∀q∈qs,q.2.length=size)→∀{j:Nat} {u:Value},(rowQ qs)[j]?=some u→∃i q k,qs[i]?=some q∧q.2[k]?=some u∧j=i*size+k
 |[],_,j,u,h=>by simp[rowQ]at h
 |p :: qs,hs,j,u,h=>by
  have h1:=hs p List.mem_cons_self
  have e:rowQ (p :: qs)=p.2++rowQ qs:=rfl
  rw[e]at h
  by_cases hj:j<p.2.length
  ·rw[List.getElem?_append_left hj]at h
   exact ⟨0,p,j,rfl,h,by omega⟩
  ·rw[List.getElem?_append_right (by omega)]at h
   obtain ⟨i,q,k,h2,h3,h4⟩:=rowQ_inv (fun p hp=>hs p (List.mem_cons_of_mem _ hp)) h
   exact ⟨i+1,q,k,by simpa using h2,h3,by rw[Nat.add_mul];omega⟩
theorem SlV.cellsQ {E : α → List Value → Prop} {w : World} {hi size : Nat} {A : Option Addr} {n c : Nat} {l : List α} (h : SlV E w hi size (.slice A n c) l) :
  ∃qs:List (α×List Value),qs.map (·.1)=l∧(∀q∈qs,q.2.length=size∧E q.1 q.2)∧∀b off,A=some ⟨b,off,none⟩→∀(j:Nat) u,(rowQ qs)[j]?=some u→w.cell? ⟨b,off+j,none⟩=some u:=by
 obtain ⟨qs,h1,h2⟩:=exL (fun i (q:α×List Value)=>l[i]?=some q.1∧q.2.length=size∧E q.1 q.2∧∀b off,A=some ⟨b,off,none⟩→∀(j:Nat) u,q.2[j]?=some u→w.cell? ⟨b,off+(i*size+j),none⟩=some u) l.length fun i hil=>by
  obtain ⟨A',c',hv,_,hp⟩:=h
  injection hv with hv1 _ _
  obtain ⟨b,off,hA,hb,hx⟩:=hp (by omega)
  obtain ⟨cs,g1,g2,g3⟩:=hx i l[i] (List.getElem?_eq_getElem hil)
  refine ⟨(l[i],cs),List.getElem?_eq_getElem hil,g1,g2,fun b' off' e j u hj=>?_⟩
  rw[hv1,hA]at e
  injection e with e
  injection e with e1 e2
  subst e1 e2
  exact g3 j u hj
 have hall:∀q∈qs,q.2.length=size∧E q.1 q.2:=fun q hq=>by
  obtain ⟨i,hi',rfl⟩:=List.getElem_of_mem hq
  have:=h2 i _ (List.getElem?_eq_getElem hi')
  exact ⟨this.2.1,this.2.2.1⟩
 refine ⟨qs,?_,hall,fun b off hA j u hj=>?_⟩
 ·apply List.ext_getElem?
  intro i
  rw[List.getElem?_map]
  by_cases hi':i<qs.length
  ·rw[(h2 i _ (List.getElem?_eq_getElem hi')).1,List.getElem?_eq_getElem hi'];rfl
  ·rw[List.getElem?_eq_none (by omega),List.getElem?_eq_none (by omega)];rfl
 ·obtain ⟨i,q,k,hq,hk,rfl⟩:=rowQ_inv (fun q hq=>(hall q hq).1) hj
  exact (h2 i q hq).2.2.2 b off hA k u hk
theorem SlV.ofQ {E:α→List Value→Prop} {w:World} {size base:Nat} {e:TypeId} {v:Value} {l:List α} {qs:List (α×List Value)} (h:w.ownsRow base e size v l.length (rowQ qs)) (hl:qs.map (·.1)=l) (hE:∀q∈qs,q.2.length=size∧E q.1 q.2):SlV E w w.heap.size size v l:=by
 subst hl
 refine SlV.own h fun i x hx=>?_
 rw[List.getElem?_map]at hx
 obtain ⟨q,hq,rfl⟩:=Option.map_eq_some_iff.1 hx
 obtain ⟨h1,h2⟩:=hE q (List.mem_of_getElem? hq)
 exact ⟨q.2,h1,h2,fun j u hj=>rowQ_at (fun q hq=>(hE q hq).1) hq hj⟩
end
section
variable {w:World} {ops:Array Oper} {rest:List Oper} {o:Oper} {a:Act} {Q:Exit→Act→World→Prop}
theorem wpList_appendQ {α : Type} {E : α → List Value → Prop} (hgd : o.guard = none) (s x : Operand) (st et : TypeId) (ho : o.op = .call { callee := .builtin .append, args := #[s, x], argTypes := #[st, st] }) (hst : Tryz.prog.underlying st = some (.slice et)) (z : Value) (size bytes : Nat) (hinf : (Tryz.prog.info? et).map (fun i => (i.zero, i.size, i.bytes)) = some (some z, size, bytes)) (hzf : z.cells.size = size) (hs0 : 0 < size) (hby : bytes ≤ 100)
  (base:Nat) (v:Value) (hown:w.ownsRow base et size v 0 []) (hs:a.eval s=v) (u:Value) (l:List α) (hi:Nat) (hu:SlV E w hi size u l) (hx:a.eval x=u) (hE:∀x cs,E x cs→∀u∈cs,u.oneCell'=true)
  (hn:l.length≤1000000) (hbase:base≤w.heap.size)
  (hK:∀v' w' qs,Hid (qs.map (·.1)=l)→(∀q∈qs,q.2.length=size∧E q.1 q.2)→w'.ownsRow base et size v' l.length (rowQ qs)→Below base w w'→wpList Tryz.prog ops Q rest (a.put o.dst v') w'):wpList Tryz.prog ops Q (o :: rest) a w:=by
 obtain ⟨i,hi',hz0,hz1,hz2⟩:=info_parts hinf
 obtain ⟨A,c,rfl,hc⟩:=SlV.shape hu
 obtain ⟨qs,p1,p2,p3⟩:=SlV.cellsQ hu
 by_cases hl:l.length=0
 ·have hl0:l=[]:=List.eq_nil_of_length_eq_zero hl
  subst hl0
  have hp0:qs=[]:=List.map_eq_nil_iff.1 p1
  subst hp0
  refine wpList_plain hgd fun K hK'=>?_
  have hrun:=run_append_nilsrc (P:=Tryz.prog) (w:=w) base st o.type et i size hst hi' v 0 [] hown A c
  unfold Oper.wp execOp
  simp only[List.length_nil]at hx
  simp only[ho,resolve,invoke,builtin,Sem.run_bind,Sem.run_pure,Result.andThen_ok,List.map_toArray,List.map_cons,List.map_nil,hs,hx,hrun]
  exact hK' _ _ (hK v w [] rfl p2 (by simpa[rowQ]using hown) (Below.refl _ _))
 ·obtain ⟨b,off,hA,_,_⟩:=hu.at_ (k:=0) (by omega)
  subst hA
  have hpl:qs.length=l.length:=by rw[←p1,List.length_map]
  have hql:=rowQ_len fun q hq=>(p2 q hq).1
  refine wpList_append_own_at _ hgd s x st ho base et i z size bytes hst hi' hz0 hz1 hz2 hzf hs0 v 0 [] hs hown ⟨b,off,none⟩ l.length c (rowQ qs) hx (by rw[hql,hpl]) ?_ ?_ (by unfold maxLen;omega) ?_ hbase ?_
  ·intro j q hj
   have hadd:(⟨b,off,none⟩:Addr).add j=⟨b,off+j,none⟩:=by unfold Addr.add;split<;>simp_all
   rw[hadd]
   exact p3 b off rfl j q hj
  ·intro u hu'
   unfold rowQ at hu'
   obtain ⟨q,hq,hu'⟩:=List.mem_flatMap.1 hu'
   exact hE q.1 q.2 (p2 q hq).2 u hu'
  ·have:=Nat.mul_le_mul (show 0+l.length≤1000000 by omega) hby
   omega
  ·intro v' w' hown' hg _ hat
   rw[Nat.zero_add,List.nil_append]at hown'
   exact hK v' w' qs p1 p2 hown' ((Below.refl base w).grown hg hbase (fun k hk=>(hown.lt k hk).1))
end
theorem et_one:∀x cs,ET x cs→∀u∈cs,u.oneCell'=true:=by
 rintro x cs rfl u hu
 simp at hu
 rcases hu with rfl|rfl|rfl<;>rfl
theorem ec_one {w:World} {hi:Nat}:∀x cs,EC w hi x cs→∀u∈cs,u.oneCell'=true:=by
 rintro x cs ⟨v,u,rfl,h1,h2⟩ y hy
 obtain ⟨A,c,rfl,_⟩:=SlV.shape h1
 obtain ⟨A',c',rfl,_⟩:=SlV.shape h2
 simp at hy
 rcases hy with rfl|rfl|rfl|rfl<;>rfl
theorem cloneT_any (v : Value) (l : List Idn.AT) (w : World) (hv : TypesV w w.heap.size v l) (hl : l.length ≤ 1000000) :
    Calls Tryz.prog 121 #[v] w fun e w'=>∃v' qs,e=.returned v'∧w'.ownsRow w.heap.size 89 3 v' l.length (rowQ qs)∧qs.map (·.1)=l∧(∀q∈qs,q.2.length=3∧ET q.1 q.2)∧Below w.heap.size w w':=by
 obtain ⟨A,c,rfl,hc⟩:=SlV.shape hv
 have hnil:=fun W=>Lib.run_eql_slice_nil (P:=Tryz.prog) W 22 89 A l.length c 0 0 Tryz.underlying22
 cases A with
 |none=>
  have hl0:l=[]:=by
   cases l with
   |nil=>rfl
   |cons a l=>
    obtain ⟨b,off,hA,_⟩:=SlV.at_ hv (k:=0) (by simp)
    cases hA
  subst hl0
  replace hnil:∀W,(binOp .eql 22 (.slice none 0 c) (.slice none 0 0)).run Tryz.prog W=.ok (.bool true) W:=hnil
  go_enter Tryz.func121,Tryz.ntmps121
  go_wp2
  go_ret
  exact ⟨_,[],rfl,World.ownsRow_nil _ _ _ _,rfl,by simp,Below.refl _ _⟩
 |some ad=>
  replace hnil:∀W,(binOp .eql 22 (.slice (some ad) l.length c) (.slice none 0 0)).run Tryz.prog W=.ok (.bool false) W:=hnil
  have ba:=(Below.refl w.heap.size w).alloc (Nat.le_refl _) (.cells #[] 89)
  have hlit:=World.ownsRow_lit (base:=w.heap.size) (e:=89) (size:=3) w #[] 0 (Nat.le_refl _) (by decide) rfl
  have hva:=SlV.keep hv ba
  go_enter Tryz.func121,Tryz.ntmps121
  go_wp2_with (at_builtin;refine wpList_appendQ rfl _ _ 22 89 rfl Tryz.underlying22 _ 3 32 info_at rfl (by decide) (by decide) w.heap.size _ hlit rfl _ l w.heap.size hva rfl et_one hl ba.size ?_)
  intro v' w' qs P1 P2 hown hb
  go_wp2
  go_ret
  exact ⟨_,qs,rfl,hown,P1.out,fun q hq=>P2 q.1 q.2 hq,ba.trans hb⟩
theorem cloneC_any (v : Value) (l : List Idn.Cl) (w : World) (hi : Nat) (hhi : hi ≤ w.heap.size) (hv : ClassesV w hi v l) (hl : l.length ≤ 1000000) :
    Calls Tryz.prog 122 #[v] w fun e w'=>∃v' qs,e=.returned v'∧w'.ownsRow w.heap.size 91 4 v' l.length (rowQ qs)∧qs.map (·.1)=l∧(∀q∈qs,q.2.length=4∧EC w hi q.1 q.2)∧Below w.heap.size w w':=by
 obtain ⟨A,c,rfl,hc⟩:=SlV.shape hv
 have hnil:=fun W=>Lib.run_eql_slice_nil (P:=Tryz.prog) W 23 91 A l.length c 0 0 Tryz.underlying23
 cases A with
 |none=>
  have hl0:l=[]:=by
   cases l with
   |nil=>rfl
   |cons a l=>
    obtain ⟨b,off,hA,_⟩:=SlV.at_ hv (k:=0) (by simp)
    cases hA
  subst hl0
  replace hnil:∀W,(binOp .eql 23 (.slice none 0 c) (.slice none 0 0)).run Tryz.prog W=.ok (.bool true) W:=hnil
  go_enter Tryz.func122,Tryz.ntmps122
  go_wp2
  go_ret
  exact ⟨_,[],rfl,World.ownsRow_nil _ _ _ _,rfl,by simp,Below.refl _ _⟩
 |some ad=>
  replace hnil:∀W,(binOp .eql 23 (.slice (some ad) l.length c) (.slice none 0 0)).run Tryz.prog W=.ok (.bool false) W:=hnil
  have ba:=(Below.refl w.heap.size w).alloc (Nat.le_refl _) (.cells #[] 91)
  have hlit:=World.ownsRow_lit (base:=w.heap.size) (e:=91) (size:=4) w #[] 0 (Nat.le_refl _) (by decide) rfl
  have hva:SlV (EC w hi) (w.alloc (.cells #[] 91)) hi 4 (.slice (some ad) l.length c) l:=SlV.keep hv (ba.mono hhi)
  go_enter Tryz.func122,Tryz.ntmps122
  go_wp2_with (at_builtin;refine wpList_appendQ rfl _ _ 23 91 rfl Tryz.underlying23 _ 4 80 info_cl rfl (by decide) (by decide) w.heap.size _ hlit rfl _ l hi hva rfl ec_one hl ba.size ?_)
  intro v' w' qs P1 P2 hown hb
  go_wp2
  go_ret
  exact ⟨_,qs,rfl,hown,P1.out,fun q hq=>P2 q.1 q.2 hq,ba.trans hb⟩
abbrev ClQ:=Idn.Cl×Value×Value
def clQ (t:ClQ):Idn.Cl×List Value:=(t.1,[sv t.1.name,sv t.1.super,t.2.1,t.2.2])
def rowKC (ts:List ClQ):List Value:=rowQ (ts.map clQ)
theorem rowKC_at {ts:List ClQ} {i:Nat} {t:ClQ} (h:ts[i]?=some t) {k:Nat} {u:Value} (hk:(clQ t).2[k]?=some u):(rowKC ts)[i*4+k]?=some u:=by
 unfold rowKC
 refine rowQ_at (size:=4) (fun q hq=>?_) (i:=i) (q:=clQ t) (by rw[List.getElem?_map,h];rfl) hk
 obtain ⟨t,_,rfl⟩:=List.mem_map.1 hq
 rfl
theorem rowKC_set:∀(ts:List ClQ) (i:Nat) (t:ClQ) (v u:Value),ts[i]?=some t→((rowKC ts).set (i*4+2) v).set (i*4+3) u=rowKC (ts.set i (t.1,v,u))
 |[],i,t,v,u,h=>by simp at h
 |p :: ts,0,t,v,u,h=>by
  simp at h
  subst h
  rfl
 |p :: ts,i+1,t,v,u,h=>by
  have ih:=rowKC_set ts i t v u (by simpa using h)
  have e:rowKC (p :: ts)=sv p.1.name :: sv p.1.super :: p.2.1 :: p.2.2 :: rowKC ts:=rfl
  have e':rowKC ((p :: ts).set (i+1) (t.1,v,u))=sv p.1.name :: sv p.1.super :: p.2.1 :: p.2.2 :: rowKC (ts.set i (t.1,v,u)):=rfl
  rw[e,e',show (i+1)*4+2=(i*4+2)+1+1+1+1 by omega,show (i+1)*4+3=(i*4+3)+1+1+1+1 by omega]
  simp only[List.set_cons_succ]
  rw[ih]
theorem clQ_of {w:World} {hi:Nat}:∀(qs:List (Idn.Cl×List Value)),(∀q∈qs,q.2.length=4∧EC w hi q.1 q.2)→∃ts:List ClQ,ts.map clQ=qs∧∀t∈ts,StrsV w hi t.2.1 t.1.must∧StrsV w hi t.2.2 t.1.may
 |[],_=>⟨[],rfl,by simp⟩
 |q :: qs,h=>by
  obtain ⟨ts,h1,h2⟩:=clQ_of qs fun p hp=>h p (List.mem_cons_of_mem _ hp)
  obtain ⟨_,v,u,h3,h4,h5⟩:=h q List.mem_cons_self
  refine ⟨(q.1,v,u) :: ts,?_,?_⟩
  ·rw[List.map_cons,h1]
   have:clQ (q.1,v,u)=q:=by
    unfold clQ
    exact Prod.ext rfl h3.symm
   rw[this]
  ·intro t ht
   rcases List.mem_cons.1 ht with rfl|ht
   ·exact ⟨h4,h5⟩
   ·exact h2 t ht
def ClRow (w0 w:World) (base k:Nat) (v:Value) (ts:List ClQ):Prop:=
 w.ownsRow base 91 4 v ts.length (rowKC ts)∧∀i t,ts[i]?=some t→if i<k then w.ownsRow base 9 1 t.2.1 t.1.must.length (t.1.must.map sv)∧w.ownsRow base 9 1 t.2.2 t.1.may.length (t.1.may.map sv)else StrsV w0 w0.heap.size t.2.1 t.1.must∧StrsV w0 w0.heap.size t.2.2 t.1.may
theorem ClRow.keep {w0 w w':World} {base k:Nat} {v:Value} {ts:List ClQ} (h:ClRow w0 w base k v ts) (hb:Below w.heap.size w w'):ClRow w0 w' base k v ts:=by
 refine ⟨own_below h.1 hb,fun i t ht=>?_⟩
 have:=h.2 i t ht
 split
 ·rename_i hi
  rw[if_pos hi]at this
  exact ⟨own_below this.1 hb,own_below this.2 hb⟩
 ·rename_i hi
  rwa[if_neg hi]at this
theorem ClRow.setB {w0 w:World} {base k:Nat} {v:Value} {ts:List ClQ} (h:ClRow w0 w base k v ts) {a:Addr} (ha:a.block<base) (u:Value):ClRow w0 (w.setCell a u) base k v ts:=by
 refine ⟨ownsRow_setCell_below h.1 ha u,fun i t ht=>?_⟩
 have:=h.2 i t ht
 split
 ·rename_i hi
  rw[if_pos hi]at this
  exact ⟨ownsRow_setCell_below this.1 ha u,ownsRow_setCell_below this.2 ha u⟩
 ·rename_i hi
  rwa[if_neg hi]at this
theorem ClRow.step {w0 w : World} {base k g n cap : Nat} {ts : List ClQ} {t : ClQ} {v u : Value} (h : ClRow w0 w base k (.slice (some ⟨g, 0, none⟩) n cap) ts) (ht : ts[k]? = some t)
  (hv:w.ownsRow base 9 1 v t.1.must.length (t.1.must.map sv)) (hu:w.ownsRow base 9 1 u t.1.may.length (t.1.may.map sv)) :
  ClRow w0 ((w.setCell ⟨g,k*4+2,none⟩ v).setCell ⟨g,k*4+3,none⟩ u) base (k+1) (.slice (some ⟨g,0,none⟩) n cap) (ts.set k (t.1,v,u)):=by
 have hkl:=(List.getElem?_eq_some_iff.1 ht).1
 have hnn:n=ts.length:=by
  rcases h.1.2 with ⟨hn,_⟩|⟨g',cap',cur,hv,_⟩
  ·cases hn
  ·injection hv
 subst hnn
 have hg:∀{x:Value} {m:Nat} {xs:List Value},w.ownsRow base 9 1 x m xs→x.ownBlock≠some g:=fun {x m xs} hx=>own_apart h.1 hx (by decide) g rfl
 have keep:∀{x:Value} {m:Nat} {xs:List Value},w.ownsRow base 9 1 x m xs→((w.setCell ⟨g,k*4+2,none⟩ v).setCell ⟨g,k*4+3,none⟩ u).ownsRow base 9 1 x m xs:=fun {x m xs} hx=>
  ownsRow_setCell_other (ownsRow_setCell_other hx (a:=⟨g,k*4+2,none⟩) (hg hx) v) (a:=⟨g,k*4+3,none⟩) (hg hx) u
 refine ⟨?_,fun i t' hi'=>?_⟩
 ·rw[List.length_set,←rowKC_set ts k t v u ht]
  exact own_set (own_set h.1 (k*4+2) (by omega) v) (k*4+3) (by omega) u
 ·by_cases hik:i=k
  ·subst hik
   rw[List.getElem?_set_self hkl]at hi'
   injection hi' with hi'
   subst hi'
   rw[if_pos (by omega)]
   exact ⟨keep hv,keep hu⟩
  ·rw[List.getElem?_set_ne (fun e=>hik e.symm)]at hi'
   have:=h.2 i t' hi'
   by_cases hlt:i<k
   ·rw[if_pos hlt]at this
    rw[if_pos (by omega)]
    exact ⟨keep this.1,keep this.2⟩
   ·rw[if_neg hlt]at this
    rw[if_neg (by omega)]
    exact this
theorem ClRow.read {w0 w:World} {base:Nat} {v:Value} {ts:List ClQ} {l:List Idn.Cl} (h:ClRow w0 w base l.length v ts) (hl:ts.map (·.1)=l):ClassesV w w.heap.size v l:=by
 subst hl
 have h0:=h.1
 have hlen:ts.length=(ts.map (·.1)).length:=by simp
 rw[hlen]at h0
 refine SlV.own h0 fun i x hx=>?_
 rw[List.getElem?_map]at hx
 obtain ⟨t,ht,rfl⟩:=Option.map_eq_some_iff.1 hx
 have h2:=h.2 i t ht
 have hil:=(List.getElem?_eq_some_iff.1 ht).1
 rw[if_pos (by simpa using hil)]at h2
 exact ⟨(clQ t).2,rfl,⟨t.2.1,t.2.2,rfl,StrsV.of_own h2.1,StrsV.of_own h2.2⟩,fun j u hj=>rowKC_at ht hj⟩
end Go.Proofs.YtbkkchhimhlhcaaGreatDoor
/- The program's index: owned. -/
namespace Go.Proofs.YtbkkchhimhlhcaaGreatDoor
open Go.RowKit Go.Sort
open Idn (L B Bs drop_L take_L size_L)
structure BoxP (X:World) (p:Nat) (a b:Value):Prop where
 c0:X.cell? ⟨p,0,none⟩=some a
 c1:X.cell? ⟨p,1,none⟩=some b
 fz:∀i,X.frozen? ⟨p,i,none⟩=false
 lt:p<X.heap.size
theorem BoxP.later {X Y:World} {p:Nat} {a b:Value} (h:BoxP X p a b) (hb:Below X.heap.size X Y):BoxP Y p a b:=
 ⟨cell_later hb h.c0,cell_later hb h.c1,fun i=>frozen_later hb (h.fz i) h.lt,Nat.lt_of_lt_of_le h.lt hb.size⟩
theorem BoxP.off {X:World} {p:Nat} {a b:Value} (h:BoxP X p a b) {c:Addr} (hc:p≠c.block) (u:Value):BoxP (X.setCell c u) p a b:=
 ⟨by rw[World.cell?_setCell_other _ _ _ _ (by rintro rfl;exact hc rfl)];exact h.c0,by rw[World.cell?_setCell_other _ _ _ _ (by rintro rfl;exact hc rfl)];exact h.c1,fun i=>by rw[World.frozen?_setCell];exact h.fz i,by simpa using h.lt⟩
theorem BoxP.put {X:World} {p:Nat} {a b:Value} (h:BoxP X p a b) (a' b':Value):BoxP ((X.setCell ⟨p,0,none⟩ a').setCell ⟨p,1,none⟩ b') p a' b':=by
 have h0:=h.c0
 have h1:=h.c1
 refine ⟨?_,?_,fun i=>?_,?_⟩
 ·go_simp
 ·go_simp
 ·rw[World.frozen?_setCell,World.frozen?_setCell];exact h.fz i
 ·simpa using h.lt
theorem own_frozen {w:World} {base:Nat} {e:TypeId} {size n n' g cap:Nat} {xs:List Value} (h:w.ownsRow base e size (.slice (some ⟨g,0,none⟩) n cap) n' xs):(∀j,w.frozen? ⟨g,j,none⟩=false)∧base≤g∧g<w.heap.size:=by
 rcases id h.2 with ⟨hn,_⟩|⟨g',cap',cur,hv,hb,hgg,_⟩
 ·cases hn
 ·injection hv with hv1 _ _
  injection hv1 with hv1
  injection hv1 with hv1 _
  subst hv1
  exact ⟨fun j=>Lib.frozen_of_heap hgg j,hb,(Array.getElem?_eq_some_iff.1 hgg).1⟩
theorem set_same {α:Type}:∀{l:List α} {k:Nat} {x:α},l[k]?=some x→l.set k x=l
 |[],_,_,h=>by simp at h
 |a :: l,0,x,h=>by simp at h;subst h;rfl
 |a :: l,k+1,x,h=>by rw[List.set_cons_succ,set_same (by simpa using h)]
theorem owned_mid {w W w1 w2 : World} {a5 a6 x0 x1 y0 y1 : Value} {n5 : Nat} {qs : List (Idn.AT × List Value)} {qc : List (Idn.Cl × List Value)} {l : List Idn.Cl} {p : Nat} (hbW : Below w.heap.size w W) (hb1 : Below W.heap.size W w1) (hb2 : Below w1.heap.size w1 w2) (hp : w.heap.size ≤ p) (B1 : BoxP W p x0 x1) (B2 : BoxP W (p + 1) y0 y1)
  (hown1:w1.ownsRow W.heap.size 89 3 a5 n5 (rowQ qs)) (hown2:w2.ownsRow w1.heap.size 91 4 a6 l.length (rowQ qc)) (hq3:qc.map (·.1)=l) (hq4:∀q∈qc,q.2.length=4∧EC w1 w.heap.size q.1 q.2) :
  ∃ts:List ClQ,BoxP ((w2.setCell ⟨p,0,none⟩ a5).setCell ⟨p,1,none⟩ a6) p a5 a6∧BoxP ((w2.setCell ⟨p,0,none⟩ a5).setCell ⟨p,1,none⟩ a6) (p+1) y0 y1∧((w2.setCell ⟨p,0,none⟩ a5).setCell ⟨p,1,none⟩ a6).ownsRow W.heap.size 89 3 a5 n5 (rowQ qs)∧ClRow w ((w2.setCell ⟨p,0,none⟩ a5).setCell ⟨p,1,none⟩ a6) W.heap.size 0 a6 ts∧ts.map (·.1)=l∧Below w.heap.size w ((w2.setCell ⟨p,0,none⟩ a5).setCell ⟨p,1,none⟩ a6):=by
 have h01:=hbW.trans (hb1.mono hbW.size)
 have hback:∀b off u,b<w.heap.size→w1.cell? ⟨b,off,none⟩=some u→w.cell? ⟨b,off,none⟩=some u:=fun b off u hb hc=>by
  rw[←hc];exact (World.cell?_of_block (h01.block b hb)).symm
 obtain ⟨ts,e1,e2⟩:=clQ_of (w:=w) (hi:=w.heap.size) qc fun q hq=>⟨(hq4 q hq).1,by
  obtain ⟨v,u,e,p1,p2⟩:=(hq4 q hq).2
  exact ⟨v,u,e,SlV.keepC p1 hback,SlV.keepC p2 hback⟩⟩
 have hB1:=(B1.later hb1).later hb2
 have hB2:=(B2.later hb1).later hb2
 have hpW:=B1.lt
 have hmap:ts.map (·.1)=l:=by
  rw[←hq3,←e1,List.map_map];rfl
 have htl:ts.length=l.length:=by rw[←hmap,List.length_map]
 refine ⟨ts,hB1.put _ _,(hB2.off (c:=⟨p,0,none⟩) (by simp) _).off (c:=⟨p,1,none⟩) (by simp) _,ownsRow_setCell_below (ownsRow_setCell_below (own_below hown1 hb2) (a:=⟨p,0,none⟩) hpW _) (a:=⟨p,1,none⟩) hpW _,?_,hmap,((h01.trans (hb2.mono h01.size)).setCell (p:=⟨p,0,none⟩) hp _).setCell (p:=⟨p,1,none⟩) hp _⟩
 refine ClRow.setB (ClRow.setB (w:=w2) ⟨?_,fun i t ht=>?_⟩ (a:=⟨p,0,none⟩) hpW _) (a:=⟨p,1,none⟩) hpW _
 ·rw[htl]
  unfold rowKC
  rw[e1]
  exact own_lower hown2 hb1.size
 ·rw[if_neg (by omega)]
  exact e2 t (List.mem_of_getElem? ht)
theorem owned_any (v : Value) (s : Idn.Sch) (w : World) (hv : SchV w w.heap.size v s) (hTl : s.types.length ≤ 1000000) (hCl : s.classes.length ≤ 1000000) (hML : ∀ c ∈ s.classes, c.must.length ≤ 1000000000 ∧ c.may.length ≤ 1000000000) :
    Calls Tryz.prog 51 #[v] w fun e w'=>∃v',e=.returned v'∧SchV w' w'.heap.size v' s∧Below w.heap.size w w':=by
 obtain ⟨sa,sb,rfl,hT,hC⟩:=hv
 obtain ⟨A1,c1,rfl,_⟩:=SlV.shape hT
 obtain ⟨A2,c2,rfl,_⟩:=SlV.shape hC
 have kT:=fun W (hW:Below w.heap.size w W)=>cloneT_any _ s.types W (SlV.mono (SlV.keep hT hW) hW.size) hTl
 have kC:=fun W (hW:Below w.heap.size w W)=>cloneC_any _ s.classes W w.heap.size hW.size (ClassesV.keep hC hW) hCl
 go_enter Tryz.func51,Tryz.ntmps51
 go_upto_region 1 with fail
 with_reducible refine gen2g (R:=fun W=>Code.wp Tryz.prog _ _ _ W) ?_
 intro W hbW hszW hc1 hc2 hf1 hf2
 have B1:BoxP W w.heap.size (.slice A1 s.types.length c1) (.slice A2 s.classes.length c2):=⟨hc1 0 _ rfl,hc1 1 _ rfl,hf1,by omega⟩
 have B2:BoxP W (w.heap.size+1) (.slice none 0 0) (.slice none 0 0):=⟨hc2 0 _ rfl,hc2 1 _ rfl,hf2,by omega⟩
 clear hc1 hc2 hf1 hf2
 have hl2:w.heap.size+1<W.heap.size:=by omega
 clear hszW
 go_cut [] (fun wx=>∃(v5:Value) (qs:List (Idn.AT×List Value)) (v6:Value) (ts:List ClQ),BoxP wx w.heap.size v5 v6∧BoxP wx (w.heap.size+1) (.slice none 0 0) (.slice none 0 0)∧wx.ownsRow W.heap.size 89 3 v5 s.types.length (rowQ qs)∧qs.map (·.1)=s.types∧(∀q∈qs,q.2.length=3∧ET q.1 q.2)∧ClRow w wx W.heap.size 0 v6 ts∧ts.map (·.1)=s.classes∧Below w.heap.size w wx)
 case first=>
  have r0:=B1.c0
  have r1:=B1.c1
  have f0:=B1.fz 0
  have f1:=B1.fz 1
  have hbX:=hbW
  go_region_with (first
   |(go_at_call 121;refine (kT _ ?_).mono ?_;(repeat (first|with_reducible exact hbW|with_reducible apply Below.drew));rintro e w1 ⟨v5,qs,rfl,hown1,hq1,hq2,hb1⟩;replace r0:=cell_later hb1 r0;replace r1:=cell_later hb1 r1;replace f0:=frozen_later hb1 f0 B1.lt;replace f1:=frozen_later hb1 f1 B1.lt;obtain ⟨A5,c5,hs5⟩:=own_shape hown1;subst hs5)
   |(go_at_call 122;refine (kC _ ?_).mono ?_;(repeat (first|with_reducible exact hbW|with_reducible apply Below.drew|with_reducible refine Below.on ?_ hb1));rintro e w2 ⟨v6,qc,rfl,hown2,hq3,hq4,hb2⟩;replace r0:=cell_later hb2 r0;replace r1:=cell_later hb2 r1;replace f0:=frozen_later hb2 f0 (Nat.lt_of_lt_of_le B1.lt hb1.size);replace f1:=frozen_later hb2 f1 (Nat.lt_of_lt_of_le B1.lt hb1.size);obtain ⟨A6,c6,hs6⟩:=own_shape hown2;subst hs6))
  all_goals (go_wp2_with fail;go_meet)
  all_goals
   obtain ⟨ts,m1,m2,m3,m4,m5,m6⟩:=owned_mid hbW ((Below.refl _ W).drew.trans hb1) hb2 (Nat.le_refl _) B1 B2 hown1 hown2 hq3 hq4
   exact ⟨_,qs,_,ts,m1,m2,m3,hq1,hq2,m4,m5,m6⟩
 case rest=>
  obtain ⟨v5,qs,v6,ts,B1',B2',hown5,hq1,hq2,hrow,hts,hb⟩:=hcut
  clear B1 B2 kT kC
  obtain ⟨A5,c5,hs5⟩:=own_shape hown5
  subst hs5
  obtain ⟨A6,c6,hs6⟩:=own_shape hrow.1
  subst hs6
  have htl:ts.length=s.classes.length:=by rw[←hts,List.length_map]
  have b1:=B1'.c1
  generalize ts.length=n at *
  have hn6:n≤1000000:=by omega
  replace htl:=Lib.hid htl
  go_wp2_with fail
  clear b1
  go_loopw [16] (fun i wr=>∃(k:Nat) (ts:List ClQ),k≤n∧i=.int .i64 k∧ts.length=n∧BoxP wr w.heap.size (.slice A5 s.types.length c5) (.slice A6 n c6)∧BoxP wr (w.heap.size+1) (.slice none 0 0) (.slice none 0 0)∧wr.ownsRow W.heap.size 89 3 (.slice A5 s.types.length c5) s.types.length (rowQ qs)∧ClRow w wr W.heap.size k (.slice A6 n c6) ts∧ts.map (·.1)=s.classes∧Below w.heap.size w wr) (fun i _=>n-(intOf i).toNat)
  case atStart=>exact ⟨0,ts,Nat.zero_le _,rfl,by rw[←List.length_map (f:=(·.1)),hts,htl.out],B1',B2',hown5,hrow,hts,hb⟩
  case round=>
   clear B1' B2' hown5 hrow hts hb htl
   obtain ⟨k,ts,hk9,rfl,htn,B1,B2,hown5,hrow,hts,hb⟩:=hrel
   by_cases hlt:k<n
   ·obtain ⟨⟨cl,mv,uv⟩,htk⟩:∃t,ts[k]?=some t:=⟨_,List.getElem?_eq_getElem (by omega)⟩
    obtain ⟨g,rfl,hcells⟩:=own_open hrow.1 (by omega)
    obtain ⟨hfz,hgB,hgl⟩:=own_frozen hrow.1
    have hst:=hrow.2 k _ htk
    rw[if_neg (by omega)]at hst
    dsimp only at hst
    have hmem:cl∈s.classes:=by
     rw[←hts]
     exact List.mem_map.2 ⟨_,List.mem_of_getElem? htk,rfl⟩
    obtain ⟨hm1,hm2⟩:=hML cl hmem
    have k2:wr.cell? ⟨g,k*4+2,none⟩=some mv:=hcells _ _ (rowKC_at htk (k:=2) rfl)
    have k3:wr.cell? ⟨g,k*4+3,none⟩=some uv:=hcells _ _ (rowKC_at htk (k:=3) rfl)
    have f2:=hfz (k*4+2)
    have f3:=hfz (k*4+3)
    have kM:=fun W' (hW:Below wr.heap.size wr W')=>cloneS_any mv cl.must W' (SlV.mono (SlV.keep hst.1 (hb.trans (hW.mono hb.size))) (Nat.le_trans hb.size hW.size)) hm1
    have kU:=fun W' (hW:Below wr.heap.size wr W')=>cloneS_any uv cl.may W' (SlV.mono (SlV.keep hst.2 (hb.trans (hW.mono hb.size))) (Nat.le_trans hb.size hW.size)) hm2
    have hltI:(k:Int)<(n:Int):=by omega
    have b1:=B1.c1
    clear hcells hfz hst
    go_upto_region 6 with fail
    clear b1
    have hB:W.heap.size≤wr.heap.size:=by omega
    have hwg:w.heap.size≤g:=by omega
    have hfin : ∀ (v7 u7 : Value) (wm : World), Below wr.heap.size wr wm → wm.ownsRow wr.heap.size 9 1 v7 cl.must.length (cl.must.map sv) → wm.ownsRow wr.heap.size 9 1 u7 cl.may.length (cl.may.map sv) →
        ∃ts':List ClQ,ts'.length=n∧BoxP ((wm.setCell ⟨g,k*4+2,none⟩ v7).setCell ⟨g,k*4+3,none⟩ u7) w.heap.size (.slice A5 s.types.length c5) (.slice (some ⟨g,0,none⟩) n c6)∧BoxP ((wm.setCell ⟨g,k*4+2,none⟩ v7).setCell ⟨g,k*4+3,none⟩ u7) (w.heap.size+1) (.slice none 0 0) (.slice none 0 0)∧((wm.setCell ⟨g,k*4+2,none⟩ v7).setCell ⟨g,k*4+3,none⟩ u7).ownsRow W.heap.size 89 3 (.slice A5 s.types.length c5) s.types.length (rowQ qs)∧ClRow w ((wm.setCell ⟨g,k*4+2,none⟩ v7).setCell ⟨g,k*4+3,none⟩ u7) W.heap.size (k+1) (.slice (some ⟨g,0,none⟩) n c6) ts'∧ts'.map (·.1)=s.classes∧Below w.heap.size w ((wm.setCell ⟨g,k*4+2,none⟩ v7).setCell ⟨g,k*4+3,none⟩ u7):=fun v7 u7 wm hbm ho7 hu7=>by
     have hrow':=(hrow.keep hbm).step htk (own_lower ho7 hB) (own_lower hu7 hB)
     have hpg:w.heap.size≠g:=by omega
     have hpg2:w.heap.size+1≠g:=by omega
     have hT':=ownsRow_setCell_other (ownsRow_setCell_other (own_below hown5 hbm) (a:=⟨g,k*4+2,none⟩) (own_apart hrow.1 hown5 (by decide) g rfl) v7) (a:=⟨g,k*4+3,none⟩) (own_apart hrow.1 hown5 (by decide) g rfl) u7
     refine ⟨ts.set k (cl,v7,u7),by rw[List.length_set,htn],((B1.later hbm).off (c:=⟨g,k*4+2,none⟩) hpg _).off (c:=⟨g,k*4+3,none⟩) hpg _,((B2.later hbm).off (c:=⟨g,k*4+2,none⟩) hpg2 _).off (c:=⟨g,k*4+3,none⟩) hpg2 _,hT',hrow',?_,((hb.trans (hbm.mono hb.size)).setCell (p:=⟨g,k*4+2,none⟩) hwg _).setCell (p:=⟨g,k*4+3,none⟩) hwg _⟩
     rw[List.map_set,hts]
     exact set_same (by rw[←hts,List.getElem?_map,htk];rfl)
    have hN:=Lib.hid hk9
    clear B1 B2 hown5 hrow hb
    go_region_with (first
     |(go_at_call 123;refine (kM _ ?_).mono ?_;(repeat (first|with_reducible exact Below.refl _ _|with_reducible apply Below.drew));rintro e w1 ⟨v7,rfl,hown7,hb1⟩;replace k2:=cell_later hb1 k2;replace k3:=cell_later hb1 k3;replace f2:=frozen_later hb1 f2 hgl;replace f3:=frozen_later hb1 f3 hgl;obtain ⟨A7,c7,hs7⟩:=own_shape hown7;subst hs7)
     |(go_at_call 123;refine (kU _ ?_).mono ?_;(repeat (first|with_reducible exact Below.refl _ _|with_reducible apply Below.drew|with_reducible refine Below.on ?_ hb1));rintro e w2 ⟨u7,rfl,hownu7,hb2⟩;replace k2:=cell_later hb2 k2;replace k3:=cell_later hb2 k3;replace f2:=frozen_later hb2 f2 (Nat.lt_of_lt_of_le hgl hb1.size);replace f3:=frozen_later hb2 f3 (Nat.lt_of_lt_of_le hgl hb1.size);obtain ⟨A8,c8,hs8⟩:=own_shape hownu7;subst hs8))
    all_goals
     obtain ⟨ts',m1,m2,m3,m4,m5,m6,m7⟩:=hfin _ _ w2 (Below.on ((Below.refl _ wr).drew.trans hb1) hb2) (own_below hown7 hb2) (own_lower hownu7 hb1.size)
     clear hfin
     go_wp2_with fail
     go_roundw
     case rel=>exact ⟨k+1,ts',by have:=hN.out;omega,by go_num,m1,m2,m3,m4,m5,m6,m7⟩
     case measure=>simp[intOf];omega
   ·have hkn:k=n:=by omega
    subst hkn
    have hltI:¬(k:Int)<(k:Int):=by omega
    have b0:=B1.c0
    have b1:=B1.c1
    have z0:=B2.c0
    have z1:=B2.c1
    have g0:=B2.fz 0
    have g1:=B2.fz 1
    have hpB:w.heap.size+1<W.heap.size:=hl2
    have hT':=ownsRow_setCell_below (ownsRow_setCell_below hown5 (a:=⟨w.heap.size+1,0,none⟩) hpB (.slice A5 s.types.length c5)) (a:=⟨w.heap.size+1,1,none⟩) hpB (.slice A6 k c6)
    have hR':=ClRow.setB (ClRow.setB hrow (a:=⟨w.heap.size+1,0,none⟩) hpB (.slice A5 s.types.length c5)) (a:=⟨w.heap.size+1,1,none⟩) hpB (.slice A6 k c6)
    have hkl:Hid (k=s.classes.length):=by show _=_;rw[←hts,List.length_map,htn]
    have hbf:=(hb.setCell (p:=⟨w.heap.size+1,0,none⟩) (Nat.le_succ _) (.slice A5 s.types.length c5)).setCell (p:=⟨w.heap.size+1,1,none⟩) (Nat.le_succ _) (.slice A6 k c6)
    clear hrow hown5
    go_wp2_with fail
    exact bodyPost_ret (v:=.agg #[.slice A5 s.types.length c5,.slice A6 k c6]) (by simp[results,Tryz.results51,go_sem,z0,z1,g0,g1]) rfl ⟨_,rfl,⟨_,_,rfl,SlV.ofQ hT' hq1 hq2,ClRow.read (by rw[←hkl.out];exact hR') hts⟩,hbf⟩
end Go.Proofs.YtbkkchhimhlhcaaGreatDoor
