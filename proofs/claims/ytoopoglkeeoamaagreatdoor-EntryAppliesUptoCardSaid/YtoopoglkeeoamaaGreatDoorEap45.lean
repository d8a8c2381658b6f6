/- Part 45 of the proof that identitylaw08.EntryApplies returns true: the package variables hold what the program lays; nothing else is asked. -/
import Derived.Test.YtoopoglkeeoamaaGreatDoorEap44
set_option linter.unusedVariables false
set_option linter.unusedSimpArgs false
set_option maxRecDepth 100000
set_option maxHeartbeats 8000000
/- attrs: set, limited. -/
namespace Go.Proofs.YtoopoglkeeoamaaGreatDoor
open Go.RowKit Go.Sort
open Idn (L B Bs drop_L take_L size_L)
theorem CLOS.predG {f : Nat} (h : CLOS f) (q : Nat) (nm : ByteArray) (g : Nat) (w : World) (hc : w.cell? ⟨q, 0, none⟩ = some (.string nm)) (hne : q ≠ g) : PredG g f #[.pointer (some ⟨q, 0, none⟩)] (fun x => decide (x.1 = L nm)) w :=
 fun W x A c hg => h x.1 A x.2 c q nm W (by
  have hq : q < w.heap.size := World.block_lt_of_cell? _ _ hc
  rw [World.cell?_of_block (w := w) (hg.block q hq (fun e => hne (by injection e)))]
  exact hc)
theorem StrsV.grownB {w w' : World} {hi : Nat} {A : Option Addr} {n c : Nat} {l : List Bs} {r : Option Nat} (h : StrsV w hi (.slice A n c) l) (hhi : hi ≤ w.heap.size) (hg : w.grownBy w' r) (hne : ∀ b off, A = some ⟨b, off, none⟩ → r ≠ some b) : StrsV w' hi (.slice A n c) l := by
 obtain ⟨A', c', hv, hc, h⟩ := h
 injection hv with e1 e2 e3
 subst e1 e2 e3
 refine ⟨A, c, rfl, hc, fun hp => ?_⟩
 obtain ⟨b, off, hA, hb, hx⟩ := h hp
 refine ⟨b, off, hA, hb, fun i x hix => ?_⟩
 obtain ⟨cs, h1, h2, h3⟩ := hx i x hix
 refine ⟨cs, h1, h2, fun j u hu => ?_⟩
 rw [World.cell?_of_block (w := w) (hg.block b (by omega) (fun e => hne b off hA e.symm))]
 exact h3 j u hu
theorem atts_push {w w' : World} {base : Nat} {v v' u : Value} {ps : List (Idn.Att × Value)} {n : Bs} {vals : List Bs} (h : AttOwn w base v ps) (hown : w'.ownsRow base 48 2 v' (ps.length + 1) (rowA ps ++ [sv n, u])) (hg : w.grownBy w' v.ownBlock) (hu : StrsV w' w'.heap.size u vals) : AttsV w' w'.heap.size v' (ps.map (·.1) ++ [⟨n, vals⟩]) := by
 have hl : (ps.map (·.1) ++ [(⟨n, vals⟩ : Idn.Att)]).length = ps.length + 1 := by simp
 rw [← hl] at hown
 have hrow : rowA ps ++ [sv n, u] = rowA (ps ++ [((⟨n, vals⟩ : Idn.Att), u)]) := by unfold rowA; rw [List.flatMap_append]; rfl
 rw [hrow] at hown
 refine SlV.own hown fun i x hx => ?_
 have hx' : ∃ q, (ps ++ [((⟨n, vals⟩ : Idn.Att), u)])[i]? = some q ∧ q.1 = x := by
  have e : (ps.map (·.1) ++ [(⟨n, vals⟩ : Idn.Att)]) = (ps ++ [((⟨n, vals⟩ : Idn.Att), u)]).map (·.1) := by simp
  rw [e, List.getElem?_map] at hx
  obtain ⟨q, hq, rfl⟩ := Option.map_eq_some_iff.1 hx
  exact ⟨q, hq, rfl⟩
 obtain ⟨q, hq, rfl⟩ := hx'
 obtain ⟨e1, e2⟩ := rowA_at _ i q hq
 refine ⟨[sv q.1.name, q.2], rfl, ⟨q.2, rfl, ?_⟩, fun j y hj => ?_⟩
 ·rcases List.mem_append.1 (List.mem_of_getElem? hq) with hq | hq
  ·have := own_kept (h.2.1 q hq) hg fun g h1 h2 => own_apart h.1 (h.2.1 q hq) (by decide) g h2 h1
   exact StrsV.of_own this
  ·simp at hq; subst hq; exact hu
 ·match j, hj with
  | 0, hj => simp at hj; subst hj; exact e1
  | 1, hj => simp at hj; subst hj; exact e2
theorem set1_any : CLOS 221 := by
 intro x A n c q nm w hc
 have hq : q < w.heap.size := World.block_lt_of_cell? _ _ hc
 have ht : ((B x).toList == nm.toList) = decide (x = L nm) := by rw [str_beq, Idn.L_B]
 generalize decide (x = L nm) = d at *
 generalize B x = bx at *
 go_enter Tryz.func221, Tryz.ntmps221
 go_wp2
 go_ret
 exact ⟨rfl, (Below.refl _ _).alloc (Nat.le_refl _) _⟩
theorem fn_set1 : FnB 221 := by intro a w; kernel_rfl
theorem set_any (v : Value) (base : Nat) (ps : List (Idn.Att × Value)) (n : ByteArray) (A : Option Addr) (c : Nat) (vals : List Bs) (w : World) (hown : AttOwn w base v ps) (hbase : base ≤ w.heap.size) (hu : StrsV w w.heap.size (.slice A vals.length c) vals)
  (hap : ∀ b off, A = some ⟨b, off, none⟩ → v.ownBlock ≠ some b) (hn : n.size ≤ 1000000000) (hs : Idn.ASm7 (ps.map (·.1))) (hl : ps.length ≤ 899) (hv : vals.length ≤ 1100000) (hx : ∀ x ∈ vals, x.length ≤ 1000000000) :
  Calls Tryz.prog 177 #[v, .string n, .slice A vals.length c] w fun e w' => ∃ v' ps', e = .returned v' ∧ AttOwn w' w.heap.size v' ps' ∧ ps'.map (·.1) = aSet (ps.map (·.1)) (L n) vals ∧ Below base w w' := by
 have hL := lower_any n w (by omega)
 obtain ⟨Av, cv, hv0⟩ := own_shape hown.1
 subst hv0
 have hres : Hid (aSet (ps.map (·.1)) (L n) vals = Idn.rSorted ((ps.map (·.1)).filter (fun a => !decide (a.name = Idn.lower (L n))) ++ [⟨Idn.lower (L n), vals⟩])) := rfl
 have hll : (Idn.lower (L n)).length ≤ 1000000000 := by rw [Idn.length_lower, ← size_L]; exact hn
 generalize aSet (ps.map (·.1)) (L n) vals = res at *
 generalize Idn.lower (L n) = nm at *
 go_enter Tryz.func177, Tryz.ntmps177
 go_wp2_with fail
 refine hL.mono ?_
 rintro e w1 ⟨rfl, hb1⟩
 clear hL
 go_upto_region 2 with fail
 with_reducible refine gen1 (R := fun W => Code.wp Tryz.prog _ _ _ W) ?_
 intro W hbW hszW hc1 _
 have q0 : W.cell? ⟨w1.heap.size, 0, none⟩ = some (.string (B nm)) := hc1 0 _ rfl
 have hbw := hb1.trans (hbW.mono hb1.size)
 have hownW := hown.keep hbw
 have hq1 : w1.heap.size < W.heap.size := by omega
 have hlo := fun g => own_lt hown.1 (g := g)
 have hwz := hb1.size
 have hD := delB_any 221 #[.pointer (some ⟨w1.heap.size, 0, none⟩)] fn_set1 (fun x => decide (x.1 = L (B nm))) base _ ps W hownW (Nat.le_trans hbase hbw.size) (by omega) (fun g hg => set1_any.predG w1.heap.size (B nm) g W q0 (fun e => by have := hlo g hg; omega))
 have huW := SlV.mono (SlV.keep hu hbw) hbw.size
 have hflt : (ps.filter fun q => !decide ((nmA q).1 = L (B nm))).map (·.1) = (ps.map (·.1)).filter (fun a => !decide (a.name = nm)) := by
  rw [List.filter_map]; rfl
 have hfl : (ps.filter fun q => !decide ((nmA q).1 = L (B nm))).length ≤ ps.length := List.length_filter_le _ _
 generalize (ps.filter fun q => !decide ((nmA q).1 = L (B nm))) = qs at *
 clear hc1 hszW hown
 go_wp2_with fail
 refine hD.mono ?_
 rintro e w2 ⟨v2, rfl, hown2, hb2, hg2, hvo⟩
 have q2 : w2.cell? ⟨w1.heap.size, 0, none⟩ = some (.string (B nm)) := by
  rw [World.cell?_of_block (w := W) (hg2.block w1.heap.size hq1 (fun e => by have := hlo _ e.symm; omega))]
  exact q0
 have hu2 := SlV.mono (StrsV.grownB huW (Nat.le_refl _) hg2 (fun b off e => hap b off e)) hg2.size
 have hbb2 := (hbw.mono hbase).trans hb2
 obtain ⟨A2, c2, hv2⟩ := own_shape hown2.1
 subst hv2
 have HVO := Lib.hid hvo
 clear hD huW q0 hvo
 go_wp2_with (at_builtin; refine wpList_push w2 rfl _ _ 22 rfl base 48 (.agg #[.string ⟨#[]⟩, .slice none 0 0]) 2 40 Tryz.underlying22 info_attr rfl (by decide) _ qs.length _ hown2.1 rfl [.string (B nm), .slice A vals.length c] rfl rfl (by intro u hu; simp at hu; rcases hu with rfl | rfl <;> rfl) (by omega) (Nat.le_trans hbase hbb2.size) ?_ rfl)
 intro v3 w3 hown3 hg3 _ hb3 _
 have hu3 := SlV.mono (StrsV.grownB hu2 (Nat.le_refl _) hg3 (fun b off e => by rw [HVO.out]; exact hap b off e)) hg3.size
 have hats := atts_push hown2 hown3 hg3 hu3
 have hS := sortedG_any _ _ w3 hats ⟨by simp; omega, fun a ha => by
  rcases List.mem_append.1 ha with ha | ha
  ·rw [hflt] at ha
   exact hs.2 a (List.mem_filter.1 ha).1
  ·simp at ha; subst ha; exact ⟨hll, hv, hx⟩⟩
 rw [hflt, ← hres.out] at hS
 have hbb3 := hbb2.trans hb3
 obtain ⟨A3, c3, hv3⟩ := own_shape hown3
 subst hv3
 clear hu3 hats hown2 hown3 hu2
 go_wp2_with fail
 refine hS.mono ?_
 rintro e w4 ⟨v4, ps4, rfl, hown4, hps4, hb4⟩
 clear hS
 go_wp2
 go_ret
 exact ⟨v4, ps4, rfl, hown4.base hbb3.size, hps4, hbb3.trans (hb4.mono (Nat.le_trans hbase hbb3.size))⟩
theorem aLim_eq (l : List Idn.Att) (n : Bs) : aLim l n = if 32 < l.length ∨ 16 < (rGet l n).length then ([], 3) else (l, 0) := rfl
theorem limited_any (v : Value) (ps : List (Idn.Att × Value)) (base : Nat) (l : List Idn.Att) (n : ByteArray) (w : World) (hown : AttOwn w base v ps) (hps : ps.map (·.1) = l) (hn : n.size ≤ 1000000000) (hs : Idn.ASm7 l) :
  Calls Tryz.prog 180 #[v, .string n] w fun e w' => ∃ v' ps', e = .returned (.tuple #[v', .int .i64 (aLim l (L n)).2]) ∧ AttOwn w' base v' ps' ∧ ps'.map (·.1) = (aLim l (L n)).1 ∧ Below w.heap.size w w' := by
 have hv := hown.atts hps
 have hG := getG_any v l n w hv hs hn
 have hl9 := hs.1
 have HPS := Lib.hid hps
 clear hps
 obtain ⟨A, c, rfl, hc⟩ := SlV.shape hv
 have HR := Lib.hid (aLim_eq l (L n))
 generalize aLim l (L n) = r at *
 have hgl := rGet_len hs (L n)
 generalize rGet l (L n) = q at *
 by_cases h1 : 32 < l.length
 ·have hI : (32 : Int) < (l.length : Int) := by omega
  have HF : Hid (r = ([], 3)) := by show _ = _; rw [HR.out, if_pos (.inl h1)]
  clear h1 hG HR
  go_enter Tryz.func180, Tryz.ntmps180
  go_wp2
  go_ret2
  exact ⟨_, [], by rw [HF.out]; rfl, AttOwn.nil _ _, by rw [HF.out]; rfl, Below.refl _ _⟩
 have hI : ¬ (32 : Int) < (l.length : Int) := by omega
 by_cases h2 : 16 < q.length
 ·have hI2 : (16 : Int) < (q.length : Int) := by omega
  have HF : Hid (r = ([], 3)) := by show _ = _; rw [HR.out, if_pos (.inr h2)]
  clear h1 h2 HR
  go_enter Tryz.func180, Tryz.ntmps180
  go_wp2_with fail
  refine hG.mono ?_
  rintro e w1 ⟨A1, c1, rfl, hown1, hb1⟩
  clear hown1
  go_wp2
  go_ret2
  exact ⟨_, [], by rw [HF.out]; rfl, AttOwn.nil _ _, by rw [HF.out]; rfl, hb1⟩
 ·have hI2 : ¬ (16 : Int) < (q.length : Int) := by omega
  have HF : Hid (r = (l, 0)) := by show _ = _; rw [HR.out, if_neg (by omega)]
  clear h1 h2 HR
  go_enter Tryz.func180, Tryz.ntmps180
  go_wp2_with fail
  refine hG.mono ?_
  rintro e w1 ⟨A1, c1, rfl, hown1, hb1⟩
  clear hown1
  go_wp2
  go_ret2
  exact ⟨_, ps, by rw [HF.out]; rfl, hown.keep hb1, by rw [HF.out]; exact HPS.out, hb1⟩
end Go.Proofs.YtoopoglkeeoamaaGreatDoor
/- attrs: Add. -/
namespace Go.Proofs.YtoopoglkeeoamaaGreatDoor
open Go.RowKit Go.Sort
open Idn (L B Bs drop_L take_L size_L)
theorem rGet_all {p : Bs → Prop} {l : List Idn.Att} (h : ∀ a ∈ l, ∀ x ∈ a.vals, p x) (n : Bs) : ∀ x ∈ rGet l n, p x := by
 intro x hx
 rw [rGet_law, Idn.insAll_mem] at hx
 unfold Idn.valsOf at hx
 obtain ⟨a, ha, hx⟩ := List.mem_flatMap.1 hx
 exact h a (List.mem_filter.1 ha).1 x hx
section
variable {P : Program} {w : World} {ops : Array Oper} {rest : List Oper} {o : Oper} {a : Act} {Q : Exit → Act → World → Prop}
theorem wpList_growS (hgd : o.guard = none) (s x : Operand) (t : TypeId) (ho : o.op = .call { callee := .builtin .append, args := #[s, x], argTypes := #[t, t] })
  (e : TypeId) (ht : P.underlying t = some (.slice e)) (hinf : (P.info? e).map (fun i => (i.zero, i.size, i.bytes)) = some (some (.string ⟨#[]⟩), 1, 16))
  (A : Option Addr) (old : List Bs) (hi : Nat) (hold : StrsV w hi (.slice A old.length old.length) old) (hs : a.eval s = .slice A old.length old.length) (hnil : A = none → old.length = 0) (u : Value) (l : List Bs) (hu : StrsV w hi u l) (hx : a.eval x = u) (hpos : 0 < l.length)
  (hn : (old.length + l.length) * 17 ≤ 140737488355328)
  (hK : ∀ v' w', w'.ownsRow w.heap.size e 1 v' (old ++ l).length ((old ++ l).map sv) → w.grownBy w' none → wpList P ops Q rest (a.put o.dst v') w') : wpList P ops Q (o :: rest) a w := by
 obtain ⟨i, hi', hz0, hz1, hz2⟩ := info_parts hinf
 obtain ⟨A', c, rfl, hc⟩ := SlV.shape hu
 obtain ⟨b, off, hA, _, _⟩ := hu.at_ (k := 0) hpos
 subst hA
 have hadd : ∀ (b off j : Nat), (⟨b, off, none⟩ : Addr).add j = ⟨b, off + j, none⟩ := fun b off j => by unfold Addr.add; split <;> simp_all
 refine wpList_append_grows w hgd s x t ho e i (.string ⟨#[]⟩) 1 16 ht hi' hz0 hz1 hz2 rfl (by decide) A old.length old.length (old.map sv) hs (fun h => ⟨hnil h, hnil h⟩) (by simp) ?_ ⟨b, off, none⟩ l.length c (l.map sv) hx (by simp) ?_ ?_ (by omega) (by unfold maxLen; omega) (by omega) ?_
 ·intro b0 hb0 j q hj
  rw [List.getElem?_map] at hj
  obtain ⟨y, hy, rfl⟩ := Option.map_eq_some_iff.1 hj
  obtain ⟨hjl, rfl⟩ := List.getElem?_eq_some_iff.1 hy
  obtain ⟨b', off', hA', _, hcc⟩ := StrsV.cell hold hjl
  rw [hA'] at hb0
  injection hb0 with hb0
  subst hb0
  rw [hadd]
  exact hcc
 ·intro j q hj
  rw [List.getElem?_map] at hj
  obtain ⟨y, hy, rfl⟩ := Option.map_eq_some_iff.1 hj
  obtain ⟨hjl, rfl⟩ := List.getElem?_eq_some_iff.1 hy
  obtain ⟨b', off', hA', _, hcc⟩ := StrsV.cell hu hjl
  injection hA' with hA'
  injection hA' with h1 h2
  subst h1 h2
  rw [hadd]
  exact hcc
 ·intro q hq
  obtain ⟨y, _, rfl⟩ := List.mem_map.1 hq
  rfl
 ·intro v' w' hown hg
  exact hK v' w' (by rw [List.length_append, List.map_append]; exact hown) hg
end
theorem own_view {w : World} {base : Nat} {A : Option Addr} {c : Nat} {l : List Bs} (h : w.ownsRow base 9 1 (.slice A l.length c) l.length (l.map sv)) : StrsV w w.heap.size (.slice A l.length l.length) l := by
 obtain ⟨A', c', e, hc, hx⟩ := StrsV.of_own h
 injection e with e1 e2 e3
 subst e1
 exact ⟨A, l.length, rfl, Nat.le_refl _, hx⟩
theorem own_nilA {w : World} {base : Nat} {A : Option Addr} {n c : Nat} {e : TypeId} {size : Nat} {xs : List Value} (h : w.ownsRow base e size (.slice A n c) n xs) : A = none → n = 0 := by
 rintro rfl
 rcases h.2 with ⟨_, hn⟩ | ⟨g, cap, cur, hv, _⟩
 ·exact hn
 ·cases hv
theorem add_any (v : Value) (l : List Idn.Att) (n : ByteArray) (mv : Value) (more : List Bs) (w : World) (hv : AttsV w w.heap.size v l) (hm : StrsV w w.heap.size mv more) (hs : Idn.ASm7 l) (hsr : Idn.ASm7 (Idn.rSorted l)) (hl : l.length ≤ 890) (hn : n.size ≤ 1000000000) (hml : more.length ≤ 1048600) (hmx : ∀ x ∈ more, x.length ≤ 1000000000) (hgn : (rGet l (L n)).length ≤ 10000) (hfin : Idn.ASm7 (aSet (Idn.rSorted l) (L n) (rGet l (L n) ++ more))) :
    Calls Tryz.prog 116 #[v, .string n, mv] w (RetA w (aAdd l (L n) more)) := by
  have hN := name_any n w (by omega)
  have hG := fun W (hW : Below w.heap.size w W) => getG_any v l n W (AttsV.mono (AttsV.keep hv hW) hW.size) hs hn
  have hSo := fun W (hW : Below w.heap.size w W) => sortedG_any v l W (AttsV.mono (AttsV.keep hv hW) hW.size) hs
  have hga := rGet_all (p := fun x => x.length ≤ 1000000000) (fun a ha x hx => (hs.2 a ha).2.2 x hx) (L n)
  have hsl := rSorted_le l
  obtain ⟨A, c, rfl, hc⟩ := SlV.shape hv
  obtain ⟨Am, cm, rfl, hcm⟩ := SlV.shape hm
  have HR : Hid (aAdd l (L n) more = if !Idn.name (L n) then ([], 5) else if more.length = 0 then ([], 6) else if vErr (rGet l (L n)) [] more != 0 then ([], vErr (rGet l (L n)) [] more) else aLim (aSet (Idn.rSorted l) (L n) (rGet l (L n) ++ more)) (L n)) := rfl
  generalize aAdd l (L n) more = r at *
  cases hnm : Idn.name (L n)
  · rw [hnm] at hN
    have HF : Hid (r = ([], 5)) := by show _ = _; rw [HR.out, hnm]; rfl
    clear HR hG hSo hnm
    go_enter Tryz.func116, Tryz.ntmps116
    go_wp2_with (go_at_call 86; refine hN.mono ?_; rintro e w1 ⟨rfl, rfl⟩)
    go_ret2
    exact ⟨_, [], by rw [HF.out]; rfl, AttOwn.nil _ _, by rw [HF.out]; rfl, Below.refl _ _⟩
  rw [hnm] at hN
  by_cases hm0 : more.length = 0
  · have hI : ((more.length : Int) == 0) = true := by rw [hm0]; rfl
    have HF : Hid (r = ([], 6)) := by show _ = _; rw [HR.out, hnm, if_pos hm0]; rfl
    clear HR hG hSo hnm hm0
    go_enter Tryz.func116, Tryz.ntmps116
    go_wp2_with (go_at_call 86; refine hN.mono ?_; rintro e w1 ⟨rfl, rfl⟩)
    go_ret2
    exact ⟨_, [], by rw [HF.out]; rfl, AttOwn.nil _ _, by rw [HF.out]; rfl, Below.refl _ _⟩
  have hI : ((more.length : Int) == 0) = false := by rw [beq_eq_false_iff_ne]; omega
  replace HR : Hid (r = if vErr (rGet l (L n)) [] more != 0 then ([], vErr (rGet l (L n)) [] more) else aLim (aSet (Idn.rSorted l) (L n) (rGet l (L n) ++ more)) (L n)) := by show _ = _; rw [HR.out, hnm, if_neg hm0]; rfl
  have hmpos : 0 < more.length := by omega
  generalize rGet l (L n) = old at *
  generalize Idn.rSorted l = sl at *
  clear hnm hm0
  go_enter Tryz.func116, Tryz.ntmps116
  go_wp2_with fail
  refine hN.mono ?_
  rintro e w0 ⟨rfl, rfl⟩
  clear hN
  go_wp2_with fail
  refine (hG _ (Below.refl _ _)).mono ?_
  rintro e w1 ⟨Ao, co, rfl, hown, hb1⟩
  have hov := own_view hown
  have hon := own_nilA hown
  clear hG hown
  go_wp2_with fail
  go_loopw [22] (fun i wr => ∃ k : Nat, k ≤ more.length ∧ i = .int .i64 k ∧ Below w1.heap.size w1 wr ∧ Hid (vErr old [] more = vErr old (more.take k) (more.drop k))) (fun i _ => more.length - (intOf i).toNat)
  case atStart => exact ⟨0, Nat.zero_le _, rfl, Below.refl _ _, by show _ = _; simp⟩
  case round =>
    obtain ⟨k, hk, rfl, hb, hinv⟩ := hrel
    have hbw := hb1.trans (hb.mono hb1.size)
    by_cases hlt : k < more.length
    · obtain ⟨bm, om, hA, hbl, d0⟩ := StrsV.cell (SlV.keep hm hbw) hlt
      subst hA
      have hltI : (k : Int) < (more.length : Int) := by omega
      have hk0 : (0 : Int) ≤ (k : Int) := by omega
      have hkc : (k : Int) ≤ (cm : Int) := by omega
      have hszB : (B more[k]).size ≤ 1000000000000 := by rw [Idn.size_B]; have := hmx more[k] (List.getElem_mem hlt); omega
      have hCl := fun W => clean_any (B more[k]) W hszB
      have hC1 := fun W (hW : Below w1.heap.size w1 W) => contains_any _ old (B more[k]) W (SlV.mono (SlV.keep hov hW) hW.size) (by omega)
      have hC2 := fun W (hW : Below w1.heap.size w1 W) => contains_any _ (more.take k) (B more[k]) W (SlV.take (SlV.mono (SlV.keep hm (hb1.trans (hW.mono hb1.size))) (Nat.le_trans hb1.size hW.size)) k hk) (by rw [List.length_take]; omega)
      rw [Idn.L_B] at hCl hC1 hC2
      obtain ⟨s1, s2, s3, s4⟩ := vErr_step old more k hlt _ hinv.out
      clear hinv hSo
      cases h1 : Idn.clean more[k]
      · have HE : vErr old [] more = 4 := s1 h1
        have HF : Hid (r = ([], 4)) := by show _ = _; rw [HR.out, HE]; rfl
        rw [h1] at hCl
        clear s1 s2 s3 s4 h1 HE HR
        go_wp2_with fail
        refine (hCl wr).mono ?_
        rintro e w2 ⟨rfl, hb2⟩
        go_wp2
        go_ret2
        exact ⟨_, [], by rw [HF.out]; rfl, AttOwn.nil _ _, by rw [HF.out]; rfl, hbw.trans (hb2.mono hbw.size)⟩
      rw [h1] at hCl
      cases h2 : old.contains more[k]
      · rw [h2] at hC1
        cases h3 : (more.take k).contains more[k]
        · rw [h3] at hC2
          have HE : Hid (vErr old [] more = vErr old (more.take (k + 1)) (more.drop (k + 1))) := s4 h1 h2 h3
          clear s1 s2 s3 s4 h1 h2 h3
          go_wp2_with fail
          refine (hCl wr).mono ?_
          rintro e w2 ⟨rfl, hb2⟩
          have hb12 := hb.trans (hb2.mono hb.size)
          go_wp2_with fail
          refine (hC1 w2 hb12).mono ?_
          rintro e w3 ⟨rfl, rfl⟩
          go_wp2_with fail
          refine (hC2 w2 hb12).mono ?_
          rintro e w3 ⟨rfl, rfl⟩
          go_wp2
          go_roundw
          case rel => exact ⟨k + 1, by omega, by go_num, hb12, HE⟩
          case measure => simp [intOf]; omega
        · rw [h3] at hC2
          have HE : vErr old [] more = 7 := s3 h1 h2 h3
          have HF : Hid (r = ([], 7)) := by show _ = _; rw [HR.out, HE]; rfl
          clear s1 s2 s3 s4 h1 h2 h3 HE HR
          go_wp2_with fail
          refine (hCl wr).mono ?_
          rintro e w2 ⟨rfl, hb2⟩
          have hb12 := hb.trans (hb2.mono hb.size)
          go_wp2_with fail
          refine (hC1 w2 hb12).mono ?_
          rintro e w3 ⟨rfl, rfl⟩
          go_wp2_with fail
          refine (hC2 w2 hb12).mono ?_
          rintro e w3 ⟨rfl, rfl⟩
          go_wp2
          go_ret2
          exact ⟨_, [], by rw [HF.out]; rfl, AttOwn.nil _ _, by rw [HF.out]; rfl, hbw.trans (hb2.mono hbw.size)⟩
      · rw [h2] at hC1
        have HE : vErr old [] more = 7 := s2 h1 h2
        have HF : Hid (r = ([], 7)) := by show _ = _; rw [HR.out, HE]; rfl
        clear s1 s2 s3 s4 h1 h2 HE HR hC2
        go_wp2_with fail
        refine (hCl wr).mono ?_
        rintro e w2 ⟨rfl, hb2⟩
        have hb12 := hb.trans (hb2.mono hb.size)
        go_wp2_with fail
        refine (hC1 w2 hb12).mono ?_
        rintro e w3 ⟨rfl, rfl⟩
        go_wp2
        go_ret2
        exact ⟨_, [], by rw [HF.out]; rfl, AttOwn.nil _ _, by rw [HF.out]; rfl, hbw.trans (hb2.mono hbw.size)⟩
    · have hltI : ¬ (k : Int) < (more.length : Int) := by omega
      have HE : vErr old [] more = 0 := by rw [hinv.out, List.drop_eq_nil_of_le (by omega)]; rfl
      have HF : Hid (r = aLim (aSet sl (L n) (old ++ more)) (L n)) := by show _ = _; rw [HR.out, HE]; rfl
      have hov2 := SlV.mono (SlV.keep hov hb) hb.size
      have hmv2 := SlV.mono (SlV.keep hm hbw) hbw.size
      clear hinv HE HR
      go_wp2_with fail
      refine (hSo wr hbw).mono ?_
      rintro e w2 ⟨v2, ps2, rfl, hown2, hps2, hb2⟩
      obtain ⟨A2, c2, hv2⟩ := own_shape hown2.1
      subst hv2
      have hov3 := SlV.mono (SlV.keep hov2 hb2) hb2.size
      have hmv3 := SlV.mono (SlV.keep hmv2 hb2) hb2.size
      have HPS := Lib.hid hps2
      clear hSo hps2
      go_wp2_with (at_builtin; refine wpList_growS rfl _ _ 45 rfl 9 Tryz.underlying45 info_str Ao old w2.heap.size hov3 rfl hon _ more hmv3 rfl hmpos (by omega) ?_)
      intro v3 w3 hown3 hg3
      have hb3 : Below w2.heap.size w2 w3 := (Below.refl _ _).grown hg3 (Nat.le_refl _) (fun k hk => by cases hk)
      have hown2' := hown2.keep hb3
      obtain ⟨A3, c3, hv3⟩ := own_shape hown3
      subst hv3
      have hown3' : w3.ownsRow w2.heap.size 9 1 (.slice A3 (old ++ more).length c3) (old ++ more).length ((old ++ more).map sv) := by rw [List.length_append, List.map_append]; exact hown3
      have hu3 := StrsV.of_own hown3'
      have hlt2 := fun g => own_lt hown2.1 (g := g)
      have hge3 : ∀ b off, A3 = some ⟨b, off, none⟩ → (Value.slice A2 ps2.length c2).ownBlock ≠ some b := fun b off e h => by
        subst e
        have h1 := hlt2 b h
        rcases hown3.2 with ⟨h0, _⟩ | ⟨g, cap, cur, hv, hbg, _⟩
        · cases h0
        · injection hv with hv
          injection hv with hv
          injection hv with hv
          omega
      have hbs2 := hb2.size
      have hbs3 := hb3.size
      have hps1 : ps2.length ≤ 899 := by
        have e := congrArg List.length HPS.out
        rw [List.length_map] at e
        omega
      have hSet := set_any _ wr.heap.size ps2 n A3 c3 (old ++ more) w3 hown2' (by omega) hu3 hge3 hn (by rw [HPS.out]; exact hsr) hps1 (by rw [List.length_append]; omega) (fun x hx => by
        rcases List.mem_append.1 hx with hx | hx
        · exact hga x hx
        · exact hmx x hx)
      rw [HPS.out, List.length_append] at hSet
      have hbw2 := hbw.trans (hb2.mono hbw.size)
      have hbw3 := hbw2.trans (hb3.mono hbw2.size)
      have HFIN := hfin
      generalize aSet sl (L n) (old ++ more) = fl at *
      clear hown2 hown2' hown3 hown3' hu3 hge3 hlt2 hov3 hmv3 hov2 hmv2
      go_wp2_with fail
      refine hSet.mono ?_
      rintro e w4 ⟨v4, ps4, rfl, hown4, hps4, hb4⟩
      have hbw4 : Below w.heap.size w w4 := hbw3.trans (hb4.mono hbw.size)
      have hLm := limited_any v4 ps4 w3.heap.size fl n w4 hown4 hps4 hn hfin
      obtain ⟨A4, c4, hv4⟩ := own_shape hown4.1
      subst hv4
      clear hSet
      go_wp2_with fail
      refine hLm.mono ?_
      rintro e w5 ⟨v5, ps5, rfl, hown5, hps5, hb5⟩
      obtain ⟨A5, c5, hv5⟩ := own_shape hown5.1
      have HV5 := Lib.hid hv5
      clear hLm hv5
      go_wp2
      go_ret2
      exact ⟨_, ps5, by rw [HF.out]; rfl, hown5.base hbw3.size, by rw [HF.out]; exact hps5, hbw4.trans (hb5.mono hbw4.size)⟩
end Go.Proofs.YtoopoglkeeoamaaGreatDoor
/- Plain: the lists that modifications lead through stay small. -/
namespace Go.Proofs.YtoopoglkeeoamaaGreatDoor
open Go.RowKit Go.Sort
open Idn (L B Bs)
def Fit (k : Nat) (l : List Idn.Att) : Prop := Idn.rSorted l = l ∧ l.length ≤ k ∧ ∀ a ∈ l, a.name.length ≤ 64 ∧ a.vals.length ≤ 16 ∧ ∀ x ∈ a.vals, x.length ≤ 256
theorem Fit.asm7 {k : Nat} {l : List Idn.Att} (h : Fit k l) (hk : k ≤ 100) : Idn.ASm7 l :=
 ⟨by have := h.2.1; omega, fun a ha => by
  obtain ⟨h1, h2, h3⟩ := h.2.2 a ha
  exact ⟨by omega, by omega, fun x hx => by have := h3 x hx; omega⟩⟩
theorem mem_sorted {T : List Idn.Att} {a : Idn.Att} (h : a ∈ Idn.rSorted T) : a.vals = rGet (Idn.rSorted T) a.name ∧ ∃ b ∈ T, a.name = Idn.lower b.name := by
 unfold Idn.rSorted at h
 obtain ⟨m, hm, rfl⟩ := List.mem_map.1 h
 rw [Idn.insAll_mem] at hm
 unfold Idn.lows at hm
 obtain ⟨b, hb, rfl⟩ := List.mem_map.1 hm
 refine ⟨?_, b, (List.mem_filter.1 hb).1, rfl⟩
 rw [rGet_sorted, rGet_law]
 show Idn.insAll (Idn.valsOf T (Idn.lower b.name)) = Idn.insAll (Idn.valsOf T (Idn.lower (Idn.lower b.name)))
 rw [Idn.lower_lower]
theorem rGet_cases (S : List Idn.Att) (n : Bs) : rGet S n = [] ∨ ∃ a ∈ Idn.rSorted S, rGet S n = a.vals := by
 unfold rGet
 split
 ·exact .inl rfl
 ·split
  ·exact .inl rfl
  ·rename_i a ha; exact .inr ⟨a, List.mem_of_getElem? ha, rfl⟩
theorem Fit.get {k : Nat} {l : List Idn.Att} (h : Fit k l) (n : Bs) : (rGet l n).length ≤ 16 ∧ ∀ x ∈ rGet l n, x.length ≤ 256 := by
 rcases rGet_cases l n with e | ⟨a, ha, e⟩
 ·rw [e]; simp
 ·rw [h.1] at ha; rw [e]; exact ⟨(h.2.2 a ha).2.1, (h.2.2 a ha).2.2⟩
theorem Fit.set {k : Nat} {l : List Idn.Att} (h : Fit k l) (n : Bs) (v : List Bs) :
  (aSet (Idn.rSorted l) n v).length ≤ k + 1 ∧ ∀ a ∈ aSet (Idn.rSorted l) n v, (a.name.length ≤ 64 ∨ a.name.length ≤ n.length) ∧ (a.vals = Idn.insAll v ∨ a.vals = rGet l a.name) := by
 have hlen : (aSet (Idn.rSorted l) n v).length ≤ k + 1 := by
  unfold aSet
  refine Nat.le_trans (rSorted_le _) ?_
  rw [List.length_append, h.1]
  have h1 := List.length_filter_le (fun a : Idn.Att => !decide (a.name = Idn.lower n)) l
  have h2 := h.2.1
  simp only [List.length_cons, List.length_nil]
  omega
 refine ⟨hlen, fun a ha => ?_⟩
 have ha0 := ha
 unfold aSet at ha
 obtain ⟨h1, b, hb, h2⟩ := mem_sorted ha
 have h3 : a.vals = rGet (aSet (Idn.rSorted l) n v) a.name := h1
 rw [set_get] at h3
 refine ⟨?_, ?_⟩
 ·rw [h2, Idn.length_lower]
  rcases List.mem_append.1 hb with hb | hb
  ·have h4 := (List.mem_filter.1 hb).1
   rw [h.1] at h4
   exact .inl (h.2.2 b h4).1
  ·rw [List.mem_singleton] at hb
   subst hb
   right
   show (Idn.lower n).length ≤ n.length
   rw [Idn.length_lower]; exact Nat.le_refl _
 ·split at h3
  ·exact .inl h3
  ·exact .inr h3
theorem Fit.set7 {k : Nat} {l : List Idn.Att} (h : Fit k l) (hk : k ≤ 100) {n : Bs} {v : List Bs} (hn : n.length ≤ 1000000000) (hv : v.length ≤ 1050000) (hx : ∀ x ∈ v, x.length ≤ 1000000000) : Idn.ASm7 (aSet (Idn.rSorted l) n v) := by
 obtain ⟨h1, h2⟩ := h.set n v
 refine ⟨by omega, fun a ha => ?_⟩
 obtain ⟨h3, h4⟩ := h2 a ha
 refine ⟨by omega, ?_, fun x hx' => ?_⟩
 ·rcases h4 with e | e
  ·rw [e]; have := insAll_len v; omega
  ·rw [e]; have := (h.get a.name).1; omega
 ·rcases h4 with e | e
  ·rw [e, Idn.insAll_mem] at hx'; exact hx x hx'
  ·rw [e] at hx'; have := (h.get a.name).2 x hx'; omega
theorem Fit.setFit {k : Nat} {l : List Idn.Att} (h : Fit k l) {n : Bs} {v : List Bs} (hn : n.length ≤ 64) (hv : (Idn.insAll v).length ≤ 16) (hx : ∀ x ∈ v, x.length ≤ 256) : Fit (k + 1) (aSet (Idn.rSorted l) n v) := by
 obtain ⟨h1, h2⟩ := h.set n v
 refine ⟨by unfold aSet; exact rSorted_idem _, h1, fun a ha => ?_⟩
 obtain ⟨h3, h4⟩ := h2 a ha
 refine ⟨by omega, ?_, fun x hx' => ?_⟩
 ·rcases h4 with e | e
  ·rw [e]; exact hv
  ·rw [e]; exact (h.get a.name).1
 ·rcases h4 with e | e
  ·rw [e, Idn.insAll_mem] at hx'; exact hx x hx'
  ·rw [e] at hx'; exact (h.get a.name).2 x hx'
theorem rmK_len : ∀ (v old o : List Bs), rmK old v = some o → o.length ≤ old.length
  | [], old, o, h => by rw [rmK] at h; injection h with h; subst h; exact Nat.le_refl _
  | y :: v, old, o, h => by
    rw [rmK] at h
    split at h
    · exact Nat.le_trans (rmK_len v _ o h) List.length_erase_le
    · cases h
theorem eAtt_le (s : Idn.Sch) (a : Bs) (l : List Bs) : ∀ x ∈ (eAtt s a l).1, x.length ≤ 256 := by
 unfold eAtt
 split
 ·intro x hx; cases hx
 ·rename_i h1
  split
  ·intro x hx; cases hx
  ·exact (eVals_ok (by simpa using h1)).2
theorem lim_fit {k : Nat} {l r : List Idn.Att} {n : Bs} {v : List Bs} (h : Fit k l) (hn : n.length ≤ 64) (hx : ∀ x ∈ v, x.length ≤ 256) (hr : aLim (aSet (Idn.rSorted l) n v) n = (r, 0)) : Fit (k + 1) r := by
 unfold aLim at hr
 split at hr
 ·simp at hr
 ·rename_i h1
  simp only [Prod.mk.injEq, and_true] at hr
  subst hr
  have h2 := aSet_get l n v
  refine h.setFit hn ?_ hx
  rw [← h2]
  omega
theorem eMod_fit {s : Idn.Sch} {l : List Idn.Att} {m : Md} {r : List Idn.Att} {k : Nat} (h : Fit k l) (hr : eMod s l m = (r, 0)) : Fit (k + 1) r := by
 have hv := eAtt_le s m.name m.vals
 have hg := h.get m.name
 unfold eMod at hr
 split at hr
 ·simp at hr
 ·split at hr
  ·simp at hr
  ·split at hr
   ·rename_i h1; simp only [Prod.mk.injEq] at hr; simp [hr.2] at h1
   ·generalize (eAtt s m.name m.vals).1 = v at *
    split at hr
    ·unfold aRemove at hr
     split at hr
     ·simp at hr
     ·rename_i hn0
      have hn : m.name.length ≤ 64 := name_len (by simpa using hn0)
      split at hr
      ·simp at hr
      ·split at hr
       ·simp only [Prod.mk.injEq, and_true] at hr
        subst hr
        exact h.setFit hn (by simp [Idn.insAll]) fun x hx => by cases hx
       ·split at hr
        ·simp at hr
        ·rename_i o ho
         simp only [Prod.mk.injEq, and_true] at hr
         subst hr
         refine h.setFit hn ?_ fun x hx => hg.2 x (rmK_sub _ _ _ ho x hx)
         have h1 := insAll_len o
         have h2 := rmK_len _ _ _ ho
         have h3 := hg.1
         omega
    ·split at hr
     ·split at hr
      ·unfold aAdd at hr
       split at hr
       ·simp at hr
       ·rename_i hn0
        have hn : m.name.length ≤ 64 := name_len (by simpa using hn0)
        split at hr
        ·simp at hr
        ·split at hr
         ·rename_i h1; simp only [Prod.mk.injEq] at hr; simp [hr.2] at h1
         ·refine lim_fit h hn (fun x hx => ?_) hr
          rcases List.mem_append.1 hx with hx | hx
          ·exact hg.2 x hx
          ·exact hv x hx
      ·simp at hr
     ·unfold aReplace at hr
      split at hr
      ·simp at hr
      ·rename_i hn0
       have hn : m.name.length ≤ 64 := name_len (by simpa using hn0)
       split at hr
       ·rename_i h1; simp only [Prod.mk.injEq] at hr; simp [hr.2] at h1
       ·split at hr
        ·simp at hr
        ·exact lim_fit h hn hv hr
theorem fit_start {s : Idn.Sch} {n : Bs} {l : List Idn.Att} {x : En} (h : eNormal s n l = (x, 0)) : Fit 32 x.2 := by
 obtain ⟨_, _, h3, h4⟩ := nf_parts h
 have hc := sValid_check h4
 have h5 := Idn.aCheck_all hc
 have h6 := aCheck_zero hc
 exact ⟨h3.1, h6.1, fun a ha => ⟨name_len (h5.2.2 a ha).1, (h6.2 a ha).2, fun y hy => by
  have h7 := h3.2 a ha y hy
  have h8 := sNorm_le (s := s) (n := a.name) (v := y) (by rw [h7])
  rw [h7] at h8
  exact h8⟩⟩
end Go.Proofs.YtoopoglkeeoamaaGreatDoor
/- attrs: Replace. -/
namespace Go.Proofs.YtoopoglkeeoamaaGreatDoor
open Go.RowKit Go.Sort
open Idn (L B Bs drop_L take_L size_L)
theorem cloneS_any (v : Value) (l : List Bs) (w : World) (hv : StrsV w w.heap.size v l) (hl : l.length ≤ 1000000000) :
  Calls Tryz.prog 181 #[v] w fun e w' => ∃ v', e = .returned v' ∧ w'.ownsRow w.heap.size 9 1 v' l.length (l.map sv) ∧ Below w.heap.size w w' := by
 obtain ⟨A, c, rfl, hc⟩ := hv.shape
 by_cases h0 : l.length = 0
 ·have hl0 : l = [] := List.eq_nil_of_length_eq_zero h0
  subst hl0
  cases A with
  | none => exact (Tryz.slices_Clone_string_nil 0 c w).mono fun e w' ⟨h1, h2⟩ => ⟨_, h1, by rw [h2]; exact World.ownsRow_nil _ _ _ _, by rw [h2]; exact Below.refl _ _⟩
  | some a => exact (Tryz.slices_Clone_string_zero a c w).mono fun e w' ⟨v', h1, h2, _, h4⟩ => ⟨v', h1, h2, h4⟩
 ·obtain ⟨b, off, rfl, hb, _⟩ := StrsV.cell hv (k := 0) (by omega)
  refine (Tryz.slices_Clone_string b off l.length c (l.map B) w (by simp) (by omega) (fun j hj => ?_)).mono fun e w' ⟨v', h1, h2, _, h4⟩ => ⟨v', h1, ?_, h4⟩
  ·rw [List.length_map] at hj
   obtain ⟨b', off', hA', _, hcc⟩ := StrsV.cell hv hj
   injection hA' with hA'
   injection hA' with h1 h2
   subst h1 h2
   rw [hcc]
   simp [List.getD_eq_getElem?_getD, hj]
  ·have e : ((l.map B).take l.length).map Value.string = l.map sv := by
    rw [List.take_of_length_le (by simp), List.map_map]; rfl
   rw [e] at h2; exact h2
theorem replace_any (v : Value) (l : List Idn.Att) (n : ByteArray) (mv : Value) (vals : List Bs) (w : World) (hv : AttsV w w.heap.size v l) (hm : StrsV w w.heap.size mv vals) (hs : Idn.ASm7 l) (hsr : Idn.ASm7 (Idn.rSorted l)) (hl : l.length ≤ 890) (hn : n.size ≤ 1000000000) (hml : vals.length ≤ 1048600) (hmx : ∀ x ∈ vals, x.length ≤ 1000000000) (hfin : Idn.ASm7 (aSet (Idn.rSorted l) (L n) vals)) :
  Calls Tryz.prog 117 #[v, .string n, mv] w (RetA w (aReplace l (L n) vals)) := by
 have hN := name_any n w (by omega)
 have hVs := fun W (hW : Below w.heap.size w W) => values_any mv vals W (SlV.mono (SlV.keep hm hW) hW.size) ⟨by omega, fun x hx => by have := hmx x hx; omega⟩
 have hSo := fun W (hW : Below w.heap.size w W) => sortedG_any v l W (AttsV.mono (AttsV.keep hv hW) hW.size) hs
 have hCl := fun W (hW : Below w.heap.size w W) => cloneS_any mv vals W (SlV.mono (SlV.keep hm hW) hW.size) (by omega)
 have hsl := rSorted_le l
 obtain ⟨A, c, rfl, hc⟩ := SlV.shape hv
 obtain ⟨Am, cm, rfl, hcm⟩ := SlV.shape hm
 have HR : Hid (aReplace l (L n) vals = if !Idn.name (L n) then ([], 5) else if Idn.valsErr [] vals != 0 then ([], Idn.valsErr [] vals) else if 16 < vals.length then ([], 3)
  else aLim (aSet (Idn.rSorted l) (L n) vals) (L n)) := rfl
 generalize aReplace l (L n) vals = r at *
 generalize Idn.valsErr [] vals = ve at *
 generalize Idn.rSorted l = sl at *
 cases hnm : Idn.name (L n)
 ·rw [hnm] at hN
  have HF : Hid (r = ([], 5)) := by show _ = _; rw [HR.out, hnm]; rfl
  clear HR hSo hCl hVs hnm
  go_enter Tryz.func117, Tryz.ntmps117
  go_wp2_with (go_at_call 86; refine hN.mono ?_; rintro e w1 ⟨rfl, rfl⟩)
  go_ret2
  exact ⟨_, [], by rw [HF.out]; rfl, AttOwn.nil _ _, by rw [HF.out]; rfl, Below.refl _ _⟩
 rw [hnm] at hN
 replace HR : Hid (r = if ve != 0 then ([], ve) else if 16 < vals.length then ([], 3) else aLim (aSet sl (L n) vals) (L n)) := by show _ = _; rw [HR.out, hnm]; rfl
 clear hnm
 by_cases hve : ve = 0
 case neg =>
  have hI : (ve != 0) = true := by simpa using hve
  have HF : Hid (r = ([], ve)) := by show _ = _; rw [HR.out, if_pos hI]
  clear HR hSo hCl hve
  go_enter Tryz.func117, Tryz.ntmps117
  go_wp2_with fail
  refine hN.mono ?_
  rintro e w0 ⟨rfl, rfl⟩
  go_wp2_with fail
  refine (hVs _ (Below.refl _ _)).mono ?_
  rintro e w1 ⟨rfl, hb1⟩
  go_wp2
  go_ret2
  exact ⟨_, [], by rw [HF.out]; rfl, AttOwn.nil _ _, by rw [HF.out]; rfl, hb1⟩
 subst hve
 replace HR : Hid (r = if 16 < vals.length then ([], 3) else aLim (aSet sl (L n) vals) (L n)) := by show _ = _; rw [HR.out]; rfl
 by_cases h16 : 16 < vals.length
 ·have hI : (16 : Int) < (vals.length : Int) := by omega
  have HF : Hid (r = ([], 3)) := by show _ = _; rw [HR.out, if_pos h16]
  clear HR hSo hCl h16
  go_enter Tryz.func117, Tryz.ntmps117
  go_wp2_with fail
  refine hN.mono ?_
  rintro e w0 ⟨rfl, rfl⟩
  go_wp2_with fail
  refine (hVs _ (Below.refl _ _)).mono ?_
  rintro e w1 ⟨rfl, hb1⟩
  go_wp2
  go_ret2
  exact ⟨_, [], by rw [HF.out]; rfl, AttOwn.nil _ _, by rw [HF.out]; rfl, hb1⟩
 have hI : ¬ (16 : Int) < (vals.length : Int) := by omega
 have HF : Hid (r = aLim (aSet sl (L n) vals) (L n)) := by show _ = _; rw [HR.out, if_neg h16]
 clear HR h16
 go_enter Tryz.func117, Tryz.ntmps117
 go_wp2_with fail
 refine hN.mono ?_
 rintro e w0 ⟨rfl, rfl⟩
 go_wp2_with fail
 refine (hVs _ (Below.refl _ _)).mono ?_
 rintro e w1 ⟨rfl, hb1⟩
 clear hVs hN
 go_wp2_with fail
 refine (hSo w1 hb1).mono ?_
 rintro e w2 ⟨v2, ps2, rfl, hown2, hps2, hb2⟩
 obtain ⟨A2, c2, hv2⟩ := own_shape hown2.1
 subst hv2
 have HPS := Lib.hid hps2
 have hbw2 := hb1.trans (hb2.mono hb1.size)
 clear hSo hps2
 go_wp2_with fail
 refine (hCl w2 hbw2).mono ?_
 rintro e w3 ⟨v3, rfl, hown3, hb3⟩
 have hown2' := hown2.keep hb3
 obtain ⟨A3, c3, hv3⟩ := own_shape hown3
 subst hv3
 have hu3 := StrsV.of_own hown3
 have hlt2 := fun g => own_lt hown2.1 (g := g)
 have hge3 : ∀ b off, A3 = some ⟨b, off, none⟩ → (Value.slice A2 ps2.length c2).ownBlock ≠ some b := fun b off e h => by
  subst e
  have h1 := hlt2 b h
  rcases hown3.2 with ⟨h0, _⟩ | ⟨g, cap, cur, hv, hbg, _⟩
  ·cases h0
  ·injection hv with hv
   injection hv with hv
   injection hv with hv
   omega
 have hbs1 := hb1.size
 have hbs2 := hb2.size
 have hbs3 := hb3.size
 have hps1 : ps2.length ≤ 899 := by
  have e := congrArg List.length HPS.out
  rw [List.length_map] at e
  omega
 have hSet := set_any _ w1.heap.size ps2 n A3 c3 vals w3 hown2' (by omega) hu3 hge3 hn (by rw [HPS.out]; exact hsr) hps1 (by omega) hmx
 rw [HPS.out] at hSet
 have hbw3 := hbw2.trans (hb3.mono hbw2.size)
 generalize aSet sl (L n) vals = fl at *
 clear hown2 hown2' hown3 hu3 hge3 hlt2 hCl
 go_wp2_with fail
 refine hSet.mono ?_
 rintro e w4 ⟨v4, ps4, rfl, hown4, hps4, hb4⟩
 have hbw4 : Below w.heap.size w w4 := hbw3.trans (hb4.mono hbs1)
 have hLm := limited_any v4 ps4 w3.heap.size fl n w4 hown4 hps4 hn hfin
 obtain ⟨A4, c4, hv4⟩ := own_shape hown4.1
 subst hv4
 clear hSet
 go_wp2_with fail
 refine hLm.mono ?_
 rintro e w5 ⟨v5, ps5, rfl, hown5, hps5, hb5⟩
 clear hLm
 go_wp2
 go_ret2
 exact ⟨_, ps5, by rw [HF.out]; rfl, hown5.base hbw3.size, by rw [HF.out]; exact hps5, hbw4.trans (hb5.mono hbw4.size)⟩
end Go.Proofs.YtoopoglkeeoamaaGreatDoor
/- attrs: Remove. -/
namespace Go.Proofs.YtoopoglkeeoamaaGreatDoor
open Go.RowKit Go.Sort
open Idn (L B Bs drop_L take_L size_L)
theorem del_own (g cap k0 i : Nat) (q : List Bs) (base : Nat) (w : World) (hown : w.ownsRow base 9 1 (.slice (some ⟨g, 0, none⟩) q.length cap) q.length (q.map sv)) (hi : i < q.length) (hk : q.length ≤ k0) (hk9 : k0 ≤ 1000000000) :
  Calls Tryz.prog 179 #[.slice (some ⟨g, 0, none⟩) q.length k0, .int .i64 (i : Int), .int .i64 ((i : Int) + 1)] w fun e w' => e = .returned (.slice (some ⟨g, 0, none⟩) (q.take i ++ q.drop (i + 1)).length k0) ∧
   w'.ownsRow base 9 1 (.slice (some ⟨g, 0, none⟩) (q.take i ++ q.drop (i + 1)).length cap) (q.take i ++ q.drop (i + 1)).length ((q.take i ++ q.drop (i + 1)).map sv) ∧ w.grownBy w' (some g) := by
 rcases hown.2 with ⟨hnil, hn0⟩ | ⟨g', cap', cur, hu, hbase, hbk, h1, h2, h3, h4⟩
 ·omega
 injection hu with hu1 hu2 hu3
 injection hu1 with hu1
 injection hu1 with hu1
 subst hu1 hu3
 have hh : Holds encStr w g 0 q.toArray := holds_of_block hbk (by have := h4; rw [Nat.mul_one] at this; exact this)
 have hlen : (q.take i ++ q.drop (i + 1)).length = q.length - 1 := by simp; omega
 have hD := Tryz.slices_Delete_string g 0 k0 i (i + 1) q w hh hk (by omega) (by omega) (by omega)
 refine Calls.mono hD ?_
 rintro e w3 ⟨rfl, n, rfl⟩
 have e1 : i + 1 - i = 1 := by omega
 rw [e1]
 have hl2 : (q.take i ++ q.drop (i + 1) ++ List.replicate 1 []).length = q.length := by rw [List.length_append, hlen]; simp; omega
 have e0 := (grow_empty (putRow encStr (Go.Sort.ahead w n) g 0 (q.take i ++ q.drop (i + 1) ++ List.replicate 1 []).toArray)).symm
 refine ⟨by rw [hlen], ?_, ?_⟩
 ·rw [e0]
  refine ⟨by simp, .inr ⟨g, cap, _, rfl, hbase, heap_sorted _ hbk, by omega, h2, by simp [putCells, h3], ?_⟩⟩
  have ht := take_putCells cur (q.take i ++ q.drop (i + 1) ++ List.replicate 1 []) (by omega)
  have ht2 := congrArg (List.take (q.take i ++ q.drop (i + 1)).length) ht
  rw [List.take_take, Nat.min_eq_left (by rw [hl2, hlen]; omega), ← List.map_take, List.take_left' rfl] at ht2
  rw [Nat.mul_one]
  exact ht2
 ·rw [e0]
  exact grownBy_sorted _
theorem idxS_from (x : Bs) : ∀ (l : List Bs) (k : Nat), (l.contains x = false ∧ Lib.idxFromS (l.map B) (B x) k = -1) ∨ ∃ i, i < l.length ∧ Lib.idxFromS (l.map B) (B x) k = ((k + i : Nat) : Int) ∧ l.erase x = l.take i ++ l.drop (i + 1) ∧ l.contains x = true
  | [], k => .inl ⟨rfl, rfl⟩
  | y :: l, k => by
    by_cases h : y = x
    · subst h
      exact .inr ⟨0, by simp, by simp [Lib.idxFromS], by simp, by simp⟩
    · have hB : ¬ B y = B x := fun e => h (B_inj e)
      have hc : (y :: l).contains x = l.contains x := by
        rw [List.contains_cons]
        have : (x == y) = false := by rw [beq_eq_false_iff_ne]; exact fun e => h e.symm
        rw [this, Bool.false_or]
      have he : (y :: l).erase x = y :: l.erase x := by rw [List.erase_cons_tail (by simpa using h)]
      have hi : Lib.idxFromS ((y :: l).map B) (B x) k = Lib.idxFromS (l.map B) (B x) (k + 1) := by simp [Lib.idxFromS, hB]
      rw [hc, he, hi]
      rcases idxS_from x l (k + 1) with ⟨a, b⟩ | ⟨i, a, b, c, d⟩
      · exact .inl ⟨a, b⟩
      · exact .inr ⟨i + 1, by simp; omega, by rw [b]; congr 1; omega, by rw [c]; simp, d⟩
theorem idxS_law (x : Bs) (l : List Bs) : (l.contains x = false ∧ Lib.idxOfS (l.map B) (B x) = -1) ∨ ∃ i, i < l.length ∧ Lib.idxOfS (l.map B) (B x) = (i : Int) ∧ l.erase x = l.take i ++ l.drop (i + 1) ∧ l.contains x = true := by
 have := idxS_from x l 0
 simpa [Lib.idxOfS] using this
theorem index9_any (A : Option Addr) (n c : Nat) (l : List Bs) (x : Bs) (w : World) (hv : StrsV w w.heap.size (.slice A n c) l) (hl : l.length ≤ 1000000000) :
  Calls Tryz.prog 178 #[.slice A n c, .string (B x)] w fun e w' => e = .returned (.int .i64 (Lib.idxOfS (l.map B) (B x))) ∧ w = w' := by
 have hn := hv.len
 subst hn
 by_cases h0 : l.length = 0
 ·have hl0 : l = [] := List.eq_nil_of_length_eq_zero h0
  subst hl0
  exact (Tryz.slices_Index_string_empty A c (B x) w).mono fun e w' ⟨h1, h2⟩ => ⟨h1, h2.symm⟩
 ·obtain ⟨b, off, rfl, hb, _⟩ := StrsV.cell hv (k := 0) (by omega)
  refine (Tryz.slices_Index_string b off l.length c (l.map B) (B x) w (by simp) (by omega) (fun j hj => ?_)).mono fun e w' ⟨h1, h2⟩ => ⟨?_, h2.symm⟩
  ·rw [List.length_map] at hj
   obtain ⟨b', off', hA', _, hcc⟩ := StrsV.cell hv hj
   injection hA' with hA'
   injection hA' with h1 h2
   subst h1 h2
   rw [hcc]
   simp [List.getD_eq_getElem?_getD, hj]
  ·have e1 : (l.map B).take l.length = l.map B := List.take_of_length_le (by simp)
   rw [e1] at h1; exact h1
end Go.Proofs.YtoopoglkeeoamaaGreatDoor
/- attrs: Remove, walked. -/
namespace Go.Proofs.YtoopoglkeeoamaaGreatDoor
open Go.RowKit Go.Sort
open Idn (L B Bs drop_L take_L size_L)
theorem rmK_step (l : List Bs) (k : Nat) (hk : k < l.length) (cur : List Bs) (r : Option (List Bs)) (h : r = rmK cur (l.drop k)) : (cur.contains l[k] = false → r = none) ∧ (cur.contains l[k] = true → r = rmK (cur.erase l[k]) (l.drop (k + 1))) := by
 rw [List.drop_eq_getElem_cons hk, rmK] at h
 exact ⟨fun hn => by rw [h, hn]; rfl, fun hn => by rw [h, hn]; rfl⟩
def rmRes (sl : List Idn.Att) (n : Bs) : Option (List Bs) → List Idn.Att × Int
 | none => ([], 6)
 | some o => (aSet sl n o, 0)
theorem aRemove_unf (l : List Idn.Att) (n : Bs) (v : List Bs) : aRemove l n v = if !Idn.name n then ([], 5) else if (rGet l n).length = 0 then ([], 6) else if v.length = 0 then (aSet (Idn.rSorted l) n [], 0) else rmRes (Idn.rSorted l) n (rmK (rGet l n) v) := by
 unfold aRemove
 split
 ·rfl
 ·split
  ·rfl
  ·split
   ·rfl
   ·cases rmK (rGet l n) v <;> rfl
theorem remove_any (v : Value) (l : List Idn.Att) (n : ByteArray) (mv : Value) (less : List Bs) (w : World) (hv : AttsV w w.heap.size v l) (hm : StrsV w w.heap.size mv less) (hs : Idn.ASm7 l) (hsr : Idn.ASm7 (Idn.rSorted l)) (hl : l.length ≤ 890) (hn : n.size ≤ 1000000000) (hml : less.length ≤ 1048600) (hgn : (rGet l (L n)).length ≤ 10000) :
    Calls Tryz.prog 115 #[v, .string n, mv] w (RetA w (aRemove l (L n) less)) := by
  have hN := name_any n w (by omega)
  have hG := fun W (hW : Below w.heap.size w W) => getG_any v l n W (AttsV.mono (AttsV.keep hv hW) hW.size) hs hn
  have hSo := fun W (hW : Below w.heap.size w W) => sortedG_any v l W (AttsV.mono (AttsV.keep hv hW) hW.size) hs
  have hga := rGet_all (p := fun x => x.length ≤ 1000000000) (fun a ha x hx => (hs.2 a ha).2.2 x hx) (L n)
  have hsl := rSorted_le l
  obtain ⟨A, c, rfl, hc⟩ := SlV.shape hv
  obtain ⟨Am, cm, rfl, hcm⟩ := SlV.shape hm
  have HR := Lib.hid (aRemove_unf l (L n) less)
  generalize aRemove l (L n) less = r at *
  generalize rGet l (L n) = old at *
  generalize Idn.rSorted l = sl at *
  cases hnm : Idn.name (L n)
  · rw [hnm] at hN
    have HF : Hid (r = ([], 5)) := by show _ = _; rw [HR.out, hnm]; rfl
    clear HR hSo hG hnm
    go_enter Tryz.func115, Tryz.ntmps115
    go_wp2_with (go_at_call 86; refine hN.mono ?_; rintro e w1 ⟨rfl, rfl⟩)
    go_ret2
    exact ⟨_, [], by rw [HF.out]; rfl, AttOwn.nil _ _, by rw [HF.out]; rfl, Below.refl _ _⟩
  rw [hnm] at hN
  by_cases ho : old.length = 0
  · have hI : ((old.length : Int) == 0) = true := by rw [ho]; rfl
    have HF : Hid (r = ([], 6)) := by show _ = _; rw [HR.out, hnm, if_pos ho]; rfl
    clear HR hSo hnm ho
    go_enter Tryz.func115, Tryz.ntmps115
    go_wp2_with fail
    refine hN.mono ?_
    rintro e w0 ⟨rfl, rfl⟩
    go_wp2_with fail
    refine (hG _ (Below.refl _ _)).mono ?_
    rintro e w1 ⟨Ao, co, rfl, hown, hb1⟩
    clear hown
    go_wp2
    go_ret2
    exact ⟨_, [], by rw [HF.out]; rfl, AttOwn.nil _ _, by rw [HF.out]; rfl, hb1⟩
  have hI : ((old.length : Int) == 0) = false := by rw [beq_eq_false_iff_ne]; omega
  replace HR : Hid (r = if less.length = 0 then (aSet sl (L n) [], 0) else rmRes sl (L n) (rmK old less)) := by show _ = _; rw [HR.out, hnm, if_neg ho]; rfl
  clear hnm
  -- set at the end, whatever is left
  have hSet := fun W (hW : Below w.heap.size w W) (ps2 : List (Idn.Att × Value)) v2 (B1 : Nat) (hB : w.heap.size ≤ B1) (hBW : B1 ≤ W.heap.size) (hown : AttOwn W B1 v2 ps2) (hps : ps2.map (·.1) = sl) (A3 : Option Addr) (c3 : Nat) (q : List Bs) (hq : StrsV W W.heap.size (.slice A3 q.length c3) q) (hap : ∀ b off, A3 = some ⟨b, off, none⟩ → v2.ownBlock ≠ some b) (hql : q.length ≤ 100000) (hqx : ∀ x ∈ q, x.length ≤ 1000000000) =>
    set_any v2 B1 ps2 n A3 c3 q W hown hBW hq hap hn (by rw [hps]; exact hsr) (by
      have e := congrArg List.length hps
      rw [List.length_map] at e
      omega) (by omega) hqx
  by_cases hl0 : less.length = 0
  · have hI2 : ((less.length : Int) == 0) = true := by rw [hl0]; rfl
    have HF : Hid (r = (aSet sl (L n) [], 0)) := by show _ = _; rw [HR.out, if_pos hl0]
    clear HR hl0 ho
    go_enter Tryz.func115, Tryz.ntmps115
    go_wp2_with fail
    refine hN.mono ?_
    rintro e w0 ⟨rfl, rfl⟩
    go_wp2_with fail
    refine (hG _ (Below.refl _ _)).mono ?_
    rintro e w1 ⟨Ao, co, rfl, hown, hb1⟩
    clear hown hG
    go_wp2_with fail
    refine (hSo w1 hb1).mono ?_
    rintro e w2 ⟨v2, ps2, rfl, hown2, hps2, hb2⟩
    obtain ⟨A2, c2, hv2⟩ := own_shape hown2.1
    subst hv2
    have hbw2 := hb1.trans (hb2.mono hb1.size)
    have hS2 := hSet w2 hbw2 ps2 _ w1.heap.size hb1.size hb2.size hown2 hps2 none 0 [] (SlV.nil _ _ _ _) (by simp) (by simp) (by simp)
    rw [hps2] at hS2
    generalize aSet sl (L n) [] = fl at *
    clear hSo hSet hown2 hps2
    go_wp2_with fail
    refine hS2.mono ?_
    rintro e w3 ⟨v3, ps3, rfl, hown3, hps3, hb3⟩
    clear hS2
    go_wp2
    go_ret2
    exact ⟨_, ps3, by rw [HF.out]; rfl, hown3.base hbw2.size, by rw [HF.out]; exact hps3, hbw2.trans (hb3.mono hb1.size)⟩
  have hI2 : ((less.length : Int) == 0) = false := by rw [beq_eq_false_iff_ne]; omega
  replace HR : Hid (r = rmRes sl (L n) (rmK old less)) := by show _ = _; rw [HR.out, if_neg hl0]
  clear hl0
  go_enter Tryz.func115, Tryz.ntmps115
  go_wp2_with fail
  refine hN.mono ?_
  rintro e w0 ⟨rfl, rfl⟩
  go_wp2_with fail
  refine (hG _ (Below.refl _ _)).mono ?_
  rintro e w1 ⟨Ao, co, rfl, hown, hb1⟩
  obtain ⟨g, cap, hu, hgb, hgl⟩ := hown.form (by omega)
  injection hu with hu1 hu2 hu3
  subst hu1 hu3
  clear hG
  go_wp2_with fail
  have hview : ∀ (W : World) (cur : List Bs), W.ownsRow w.heap.size 9 1 (.slice (some ⟨g, 0, none⟩) cur.length co) cur.length (cur.map sv) → cur.length ≤ old.length → StrsV W W.heap.size (.slice (some ⟨g, 0, none⟩) cur.length old.length) cur := fun W cur h hle => by
    obtain ⟨A', c', e, hc, hx⟩ := StrsV.of_own h
    injection e with e1 e2 e3
    subst e1
    exact ⟨_, old.length, rfl, hle, hx⟩
  go_loopw [8, 30] (fun o i wr => ∃ (k : Nat) (cur : List Bs), k ≤ less.length ∧ i = .int .i64 k ∧ o = .slice (some ⟨g, 0, none⟩) cur.length old.length ∧ wr.ownsRow w.heap.size 9 1 (.slice (some ⟨g, 0, none⟩) cur.length co) cur.length (cur.map sv) ∧ Below w.heap.size w wr ∧ Hid (rmK old less = rmK cur (less.drop k)) ∧ cur.length ≤ old.length ∧ Hid (∀ x ∈ cur, x.length ≤ 1000000000)) (fun _ i _ => less.length - (intOf i).toNat)
  case atStart => exact ⟨0, old, Nat.zero_le _, rfl, rfl, hown, hb1, by show _ = _; simp, Nat.le_refl _, hga⟩
  case round =>
    obtain ⟨k, cur, hk, rfl, rfl, hownc, hb, hinv, hcl, hcx⟩ := hrel
    have hvc := hview wr cur hownc hcl
    by_cases hlt : k < less.length
    · obtain ⟨bm, om, hA, hbl, d0⟩ := StrsV.cell (SlV.keep hm hb) hlt
      subst hA
      have hltI : (k : Int) < (less.length : Int) := by omega
      obtain ⟨t1, t2⟩ := rmK_step less k hlt cur _ hinv.out
      have hIx := index9_any _ _ _ cur less[k] wr hvc (by omega)
      rcases idxS_law less[k] cur with ⟨h1, h2⟩ | ⟨i, hi, h2, h3, h4⟩
      · have HF : Hid (r = ([], 6)) := by show _ = _; rw [HR.out, t1 h1]; rfl
        rw [h2] at hIx
        clear t1 t2 h1 h2 HR hinv hownc hvc hSo hSet hview
        go_wp2_with fail
        refine hIx.mono ?_
        rintro e w2 ⟨rfl, rfl⟩
        go_wp2
        go_ret2
        exact ⟨_, [], by rw [HF.out]; rfl, AttOwn.nil _ _, by rw [HF.out]; rfl, hb⟩
      · have HE : Hid (rmK old less = rmK (cur.take i ++ cur.drop (i + 1)) (less.drop (k + 1))) := by show _ = _; rw [t2 h4, h3]
        rw [h2] at hIx
        have hD := del_own g co old.length i cur w.heap.size wr hownc hi hcl (by omega)
        have hi0 : ¬ ((i : Int) < 0) := by omega
        have hiB : (i : Int) < 1000000 := by omega
        have hsub : (cur.take i ++ cur.drop (i + 1)).length ≤ old.length := by simp; omega
        have HX : Hid (∀ x ∈ cur.take i ++ cur.drop (i + 1), x.length ≤ 1000000000) := by
          show ∀ x ∈ _, _
          intro x hx
          rcases List.mem_append.1 hx with hx | hx
          · exact hcx.out x (List.mem_of_mem_take hx)
          · exact hcx.out x (List.mem_of_mem_drop hx)
        generalize cur.take i ++ cur.drop (i + 1) = cu2 at *
        clear t1 t2 h2 h3 h4 HR hinv hownc hvc hSo hSet hview hcx hga hsr hs hsl hown hgl hi0
        have hneg : decide ((i : Int) < 0) = false := decide_eq_false (by omega)
        have HD := Lib.hid hD
        have hi9 : (i : Int) + 1 ≤ 1000000 := by omega
        have hi8 : (0 : Int) ≤ (i : Int) := by omega
        clear hD
        go_wp2_with fail
        refine hIx.mono ?_
        rintro e w2 ⟨rfl, rfl⟩
        go_wp2_with fail
        refine HD.out.mono ?_
        rintro e w2 ⟨rfl, hown2, hg2⟩
        have hb2 := hb.grown hg2 hb.size (fun x hx => by injection hx with hx; omega)
        clear HD hIx
        go_wp2_with fail
        go_roundw
        case rel => exact ⟨k + 1, cu2, by omega, by go_num, rfl, hown2, hb2, HE, hsub, HX⟩
        case measure => simp [intOf]; omega
    · have hltI : ¬ (k : Int) < (less.length : Int) := by omega
      have HE : rmK old less = some cur := by rw [hinv.out, List.drop_eq_nil_of_le (by omega)]; rfl
      have HF : Hid (r = (aSet sl (L n) cur, 0)) := by show _ = _; rw [HR.out, HE]; rfl
      have hgw := (own_cell hownc).2.2.2
      clear HR hinv HE hownc hview
      go_wp2_with fail
      refine (hSo wr hb).mono ?_
      rintro e w2 ⟨v2, ps2, rfl, hown2, hps2, hb2⟩
      obtain ⟨A2, c2, hv2⟩ := own_shape hown2.1
      subst hv2
      have hbw2 := hb.trans (hb2.mono hb.size)
      have hS2 := hSet w2 hbw2 ps2 _ wr.heap.size hb.size hb2.size hown2 hps2 _ _ cur (SlV.mono (SlV.keep hvc hb2) hb2.size) (fun b off e h => by
        injection e with e
        injection e with e1 e2
        have := (hown2.1.lt _ h).1
        omega) (by omega) hcx.out
      rw [hps2] at hS2
      generalize aSet sl (L n) cur = fl at *
      clear hSo hSet hown2 hps2 hvc hcx
      go_wp2_with fail
      refine hS2.mono ?_
      rintro e w3 ⟨v3, ps3, rfl, hown3, hps3, hb3⟩
      clear hS2
      go_wp2
      go_ret2
      exact ⟨_, ps3, by rw [HF.out]; rfl, hown3.base hbw2.size, by rw [HF.out]; exact hps3, hbw2.trans (hb3.mono hb.size)⟩
end Go.Proofs.YtoopoglkeeoamaaGreatDoor
/- entry: modified, walked. -/
namespace Go.Proofs.YtoopoglkeeoamaaGreatDoor
open Go.RowKit Go.Sort
open Idn (L B Bs drop_L take_L size_L)
theorem eMod_unf (s : Idn.Sch) (l : List Idn.Att) (op : Int) (n : Bs) (vals : List Bs) : eMod s l ⟨op, n, vals⟩ = if op < 1 ∨ 3 < op then ([], 2)
 else if !(tyLook (sound s) n).2 then ([], 6)
 else if (eVals s n vals).2 != 0 then ([], (eVals s n vals).2)
 else if dupK [] (eVals s n vals).1 then ([], 7)
 else if op = 2 then aRemove l n (eVals s n vals).1
 else if op = 1 then (if 0 < (eVals s n vals).1.length then aAdd l n (eVals s n vals).1 else ([], 6))
 else aReplace l n (eVals s n vals).1 := by
 unfold eMod eAtt
 dsimp only
 by_cases h1 : op < 1 ∨ 3 < op
 ·rw [if_pos h1, if_pos h1]
 ·rw [if_neg h1, if_neg h1]
  by_cases h3 : (eVals s n vals).2 = 0
  ·cases h4 : dupK [] (eVals s n vals).1 <;> simp [h3]
  ·simp [h3]
theorem modified_any (u : Value) (s : Idn.Sch) (lv : Value) (l : List Idn.Att) (op : Int) (n : ByteArray) (mv : Value) (vals : List Bs) (k : Nat) (w : World) (hu : SchV w w.heap.size u s) (hs : SSm s) (hE : Env w) (hU : EnvU w) (hv : AttsV w w.heap.size lv l) (hm : StrsV w w.heap.size mv vals) (hf : Fit k l) (hk : k ≤ 90) (hn : n.size ≤ 1000000000) (hvl : vals.length ≤ 1048600) (hvx : ∀ x ∈ vals, x.length ≤ 100000000) :
    Calls Tryz.prog 60 #[u, lv, .agg #[.int .i64 op, .string n, mv]] w (RetA w (eMod s l ⟨op, L n, vals⟩)) := by
  have hTy := fun W (hW : Below w.heap.size w W) => type_any u s n W (SchV.mono (SchV.keep hu hW) hW.size) hs hn
  have hNo := fun W (hW : Below w.heap.size w W) => enorm_any u s n mv vals W (SchV.mono (SchV.keep hu hW) hW.size) hs (hE.keep hW) (hU.keep hW) (SlV.mono (SlV.keep hm hW) hW.size) hn hvl hvx
  have hA := fun W (hW : Below w.heap.size w W) => AttsV.mono (AttsV.keep hv hW) hW.size
  have hLn : (L n).length ≤ 1000000000 := by rw [← size_L]; exact hn
  have hl9 : l.length ≤ 890 := by have := hf.2.1; omega
  have h7 : Idn.ASm7 l := hf.asm7 (by omega)
  have h7s : Idn.ASm7 (Idn.rSorted l) := by rw [hf.1]; exact h7
  have hgl := hf.get (L n)
  have hRm := fun W (hW : Below w.heap.size w W) rv q (h : StrsV W W.heap.size rv q) h1 => remove_any lv l n rv q W (hA W hW) h h7 h7s hl9 hn h1 (by omega)
  have hAd := fun W (hW : Below w.heap.size w W) rv q (h : StrsV W W.heap.size rv q) (h1 : q.length ≤ 1048600) (h2 : ∀ x ∈ q, x.length ≤ 256) => add_any lv l n rv q W (hA W hW) h h7 h7s hl9 hn h1 (fun x hx => by have := h2 x hx; omega) (by omega) (hf.set7 (by omega) hLn (by rw [List.length_append]; omega) (fun x hx => by
    rcases List.mem_append.1 hx with hx | hx
    · have := hgl.2 x hx; omega
    · have := h2 x hx; omega))
  have hRp := fun W (hW : Below w.heap.size w W) rv q (h : StrsV W W.heap.size rv q) (h1 : q.length ≤ 1048600) (h2 : ∀ x ∈ q, x.length ≤ 256) => replace_any lv l n rv q W (hA W hW) h h7 h7s hl9 hn h1 (fun x hx => by have := h2 x hx; omega) (hf.set7 (by omega) hLn (by omega) (fun x hx => by have := h2 x hx; omega))
  have HR := Lib.hid (eMod_unf s l op (L n) vals)
  have hex := fun h => eVals_ok (s := s) (a := L n) (l := vals) h
  obtain ⟨sa, sb, rfl, hT, hC⟩ := hu
  obtain ⟨A1, c1, rfl, _⟩ := SlV.shape hT
  obtain ⟨A2, c2, rfl, _⟩ := SlV.shape hC
  obtain ⟨A, c, rfl, hc⟩ := SlV.shape hv
  obtain ⟨Am, cm, rfl, hcm⟩ := SlV.shape hm
  generalize eMod s l ⟨op, L n, vals⟩ = r at *
  generalize tyLook (sound s) (L n) = t at *
  obtain ⟨⟨tn, ty, ts⟩, ok⟩ := t
  generalize eVals s (L n) vals = ev at *
  obtain ⟨ex, ee⟩ := ev
  unfold tyV sv at hTy
  dsimp only at hTy hNo hex
  clear hT hC hA hgl h7 h7s hl9 hLn hE hU hs hvx
  go_enter Tryz.func60, Tryz.ntmps60
  go_upto_region 1 with fail
  with_reducible refine gen2 (R := fun W => Code.wp Tryz.prog _ _ _ W) ?_
  intro W hbW hszW hc1 hc2
  have q0 : W.cell? ⟨w.heap.size, 0, none⟩ = some (.slice A1 s.types.length c1) := hc1 0 _ rfl
  have q1 : W.cell? ⟨w.heap.size, 1, none⟩ = some (.slice A2 s.classes.length c2) := hc1 1 _ rfl
  have m0 : W.cell? ⟨w.heap.size + 1, 0, none⟩ = some (.int .i64 op) := hc2 0 _ rfl
  have m1 : W.cell? ⟨w.heap.size + 1, 1, none⟩ = some (.string n) := hc2 1 _ rfl
  have m2 : W.cell? ⟨w.heap.size + 1, 2, none⟩ = some (.slice Am vals.length cm) := hc2 2 _ rfl
  clear hc1 hc2 hszW
  by_cases h1 : op < 1
  · have HF : Hid (r = ([], 2)) := by show _ = _; rw [HR.out, if_pos (.inl h1)]
    clear HR hTy hNo hRm hAd hRp
    go_wp2_with fail
    go_ret2
    exact ⟨_, [], by rw [HF.out]; rfl, AttOwn.nil _ _, by rw [HF.out]; rfl, hbW⟩
  by_cases h3 : 3 < op
  · have HF : Hid (r = ([], 2)) := by show _ = _; rw [HR.out, if_pos (.inr h3)]
    clear HR hTy hNo hRm hAd hRp
    go_wp2_with fail
    go_ret2
    exact ⟨_, [], by rw [HF.out]; rfl, AttOwn.nil _ _, by rw [HF.out]; rfl, hbW⟩
  have HR2 : Hid (r = if !ok then ([], 6)
    else if ee != 0 then ([], ee)
    else if dupK [] ex then ([], 7)
    else if op = 2 then aRemove l (L n) ex
    else if op = 1 then (if 0 < ex.length then aAdd l (L n) ex else ([], 6))
    else aReplace l (L n) ex) := by show _ = _; rw [HR.out, if_neg (by omega)]
  clear HR
  go_wp2_with fail
  refine (hTy W hbW).mono ?_
  rintro e w1 ⟨rfl, hb1⟩
  clear hTy
  go_upto_region 4 with fail
  with_reducible refine gen1 (R := fun W => Code.wp Tryz.prog _ _ _ W) ?_
  intro W2 hbW2 _ _ _
  have hb12 := hb1.trans (hbW2.mono hb1.size)
  have hbw2 := hbW.trans (hb12.mono hbW.size)
  replace q0 := cell_later hb12 q0
  replace q1 := cell_later hb12 q1
  replace m0 := cell_later hb12 m0
  replace m1 := cell_later hb12 m1
  replace m2 := cell_later hb12 m2
  clear hb1 hbW2 hb12
  cases ok
  · have HF : Hid (r = ([], 6)) := HR2.out
    clear HR2 hNo hRm hAd hRp
    go_wp2_with fail
    go_ret2
    exact ⟨_, [], by rw [HF.out]; rfl, AttOwn.nil _ _, by rw [HF.out]; rfl, hbw2⟩
  go_wp2_with fail
  refine (hNo W2 hbw2).mono ?_
  rintro e w3 ⟨v3, rfl, hown3, hb3⟩
  obtain ⟨A3, c3, hv3⟩ := own_shape hown3
  subst hv3
  have hbw3 := hbw2.trans (hb3.mono hbw2.size)
  replace m0 := cell_later hb3 m0
  replace m1 := cell_later hb3 m1
  clear q0 q1 m2 hNo hbW
  by_cases hee : ee = 0
  case neg =>
    have hI : (ee != 0) = true := by simpa using hee
    have HF : Hid (r = ([], ee)) := by show _ = _; rw [HR2.out, hI]; rfl
    clear HR2 hRm hAd hRp hee hown3
    go_wp2_with fail
    go_ret2
    exact ⟨_, [], by rw [HF.out]; rfl, AttOwn.nil _ _, by rw [HF.out]; rfl, hbw3⟩
  subst hee
  obtain ⟨hxl, hxx⟩ := hex rfl
  have hS3 := StrsV.of_own hown3
  have hTw := etwice_any _ ex w3 hS3 (by omega)
  have hxl2 : ex.length ≤ 1048600 := by omega
  clear hex hxl hown3
  cases hd : dupK [] ex
  case true =>
    rw [hd] at hTw
    have HF : Hid (r = ([], 7)) := by show _ = _; rw [HR2.out, hd]; rfl
    clear HR2 hRm hAd hRp hS3 hd
    go_wp2_with fail
    refine hTw.mono ?_
    rintro e w4 ⟨rfl, hb4⟩
    go_wp2
    go_ret2
    exact ⟨_, [], by rw [HF.out]; rfl, AttOwn.nil _ _, by rw [HF.out]; rfl, hbw3.trans (hb4.mono hbw3.size)⟩
  rw [hd] at hTw
  have HR3 : Hid (r = if op = 2 then aRemove l (L n) ex
    else if op = 1 then (if 0 < ex.length then aAdd l (L n) ex else ([], 6))
    else aReplace l (L n) ex) := by show _ = _; rw [HR2.out, hd]; rfl
  clear HR2 hd
  go_wp2_with fail
  refine hTw.mono ?_
  rintro e w4 ⟨rfl, hb4⟩
  have hbw4 := hbw3.trans (hb4.mono hbw3.size)
  replace m0 := cell_later hb4 m0
  replace m1 := cell_later hb4 m1
  have hS4 := SlV.mono (SlV.keep hS3 hb4) hb4.size
  have kR := hRm w4 hbw4 _ ex hS4 hxl2
  have kA := hAd w4 hbw4 _ ex hS4 hxl2 hxx
  have kP := hRp w4 hbw4 _ ex hS4 hxl2 hxx
  clear hTw hS3 hRm hAd hRp hS4
  have hop : op = 1 ∨ op = 2 ∨ op = 3 := by omega
  rcases hop with rfl | rfl | rfl
  · clear kR kP
    by_cases hx0 : 0 < ex.length
    · have hI : (0 : Int) < (ex.length : Int) := by omega
      have HF : Hid (r = aAdd l (L n) ex) := by show _ = _; rw [HR3.out, if_neg (by decide), if_pos rfl, if_pos hx0]
      clear HR3 hx0 h1 h3
      generalize aAdd l (L n) ex = fin at *
      go_wp2_with fail
      refine kA.mono ?_
      rintro e w5 ⟨v5, ps5, rfl, hown5, hps5, hb5⟩
      clear kA
      go_wp2
      go_ret2
      exact ⟨_, ps5, by rw [HF.out]; rfl, hown5.base hbw4.size, by rw [HF.out]; exact hps5, hbw4.trans (hb5.mono hbw4.size)⟩
    · have hI : ¬ (0 : Int) < (ex.length : Int) := by omega
      have HF : Hid (r = ([], 6)) := by show _ = _; rw [HR3.out, if_neg (by decide), if_pos rfl, if_neg hx0]
      clear HR3 hx0 h1 h3 kA
      go_wp2_with fail
      go_ret2
      exact ⟨_, [], by rw [HF.out]; rfl, AttOwn.nil _ _, by rw [HF.out]; rfl, hbw4⟩
  · clear kA kP
    have HF : Hid (r = aRemove l (L n) ex) := by show _ = _; rw [HR3.out, if_pos rfl]
    clear HR3 h1 h3
    generalize aRemove l (L n) ex = fin at *
    go_wp2_with fail
    refine kR.mono ?_
    rintro e w5 ⟨v5, ps5, rfl, hown5, hps5, hb5⟩
    clear kR
    go_wp2
    go_ret2
    exact ⟨_, ps5, by rw [HF.out]; rfl, hown5.base hbw4.size, by rw [HF.out]; exact hps5, hbw4.trans (hb5.mono hbw4.size)⟩
  · clear kA kR
    have HF : Hid (r = aReplace l (L n) ex) := by show _ = _; rw [HR3.out, if_neg (by decide), if_neg (by decide)]
    clear HR3 h1 h3
    generalize aReplace l (L n) ex = fin at *
    go_wp2_with fail
    refine kP.mono ?_
    rintro e w5 ⟨v5, ps5, rfl, hown5, hps5, hb5⟩
    clear kP
    go_wp2
    go_ret2
    exact ⟨_, ps5, by rw [HF.out]; rfl, hown5.base hbw4.size, by rw [HF.out]; exact hps5, hbw4.trans (hb5.mono hbw4.size)⟩
end Go.Proofs.YtoopoglkeeoamaaGreatDoor
