/- Part 48 of the proof that identitylaw11.IndexNil returns true at every entry, name and filter: the package variables hold what the program lays; nothing else is asked. -/
import Derived.Test.YtgjllfonmgfhgaaGreatDoorInl26
import Derived.Test.YtgjllfonmgfhgaaGreatDoorInl39
import Derived.Test.YtgjllfonmgfhgaaGreatDoorInl47
set_option linter.unusedVariables false
set_option linter.unusedSimpArgs false
/- The program's index: Put. -/
namespace Go.Proofs.YtgjllfonmgfhgaaGreatDoor
open Go.RowKit Go.Sort
open Idn (L B Bs drop_L take_L size_L)
theorem asm7_asm {A : List Idn.Att} (h : Idn.ASm7 A) : ASm A := ⟨Nat.le_trans h.1 (by decide), fun a ha => ⟨(h.2 a ha).1, Nat.le_trans (h.2 a ha).2.1 (by decide), (h.2 a ha).2.2⟩⟩
def TwoC (X : World) (p : Nat) (a b : Value) : Prop := X.cell? ⟨p, 0, none⟩ = some a ∧ X.cell? ⟨p, 1, none⟩ = some b
theorem twoCA (W : World) (a b : Value) (t : TypeId) : TwoC (W.alloc (.cells #[a, b] t)) W.heap.size a b := by
  have e := heap_alloc_new W (.cells #[a, b] t)
  refine ⟨?_, ?_⟩
  · rw [cell_of_row _ W.heap.size 0 _ _ (0, 0) e]; rfl
  · rw [cell_of_row _ W.heap.size 1 _ _ (0, 0) e]; rfl
theorem twoCB {X : World} {p : Nat} {a0 b0 : Value} (h0 : X.cell? ⟨p, 0, none⟩ = some a0) (h1 : X.cell? ⟨p, 1, none⟩ = some b0) (a b : Value) : TwoC ((X.setCell ⟨p, 0, none⟩ a).setCell ⟨p, 1, none⟩ b) p a b := by
  refine ⟨?_, ?_⟩ <;> go_simp
theorem two_new {W w1 : World} {a b : Value} {t : TypeId} (h : Below (W.alloc (.cells #[a, b] t)).drew.heap.size (W.alloc (.cells #[a, b] t)).drew w1) :
    (w1.cell? ⟨W.heap.size, 0, none⟩ = some a ∧ w1.cell? ⟨W.heap.size, 1, none⟩ = some b) ∧ (w1.frozen? ⟨W.heap.size, 0, none⟩ = false ∧ w1.frozen? ⟨W.heap.size, 1, none⟩ = false) := by
  have e : w1.heap[W.heap.size]? = some (.cells #[a, b] t (0, 0)) := (h.block _ (by simp [World.drew])).trans (heap_alloc_new W _)
  refine ⟨⟨?_, ?_⟩, ⟨Lib.frozen_of_heap e 0, Lib.frozen_of_heap e 1⟩⟩
  · rw [cell_of_row _ W.heap.size 0 _ _ (0, 0) e]; rfl
  · rw [cell_of_row _ W.heap.size 1 _ _ (0, 0) e]; rfl
theorem AttOwn.setB {w : World} {base : Nat} {v : Value} {ps : List (Idn.Att × Value)} (h : AttOwn w base v ps) {a : Addr} (ha : a.block < base) (u : Value) : AttOwn (w.setCell a u) base v ps :=
  ⟨ownsRow_setCell_below h.1 ha u, fun p hp => ownsRow_setCell_below (h.2.1 p hp) ha u, h.2.2⟩
/-- 'len(m)' under a guard that holds -/
theorem run_lenF {e t : TypeId} (ht : Tryz.prog.underlying t = some (.map 9 e)) {w : World} {b : Nat} {f : Bs → Option Value} (hf : MapF w b f) (ty : TypeId) : ∃ ks : List Bs, ks.Nodup ∧ (∀ x, x ∈ ks ↔ f x ≠ none) ∧ (Builtin.len_ #[t] ty #[.map (some b)]).run Tryz.prog w = .ok (.int .i64 ks.length) w := by
  obtain ⟨ks, hnd, hks, D, h, hdv, hsz, _⟩ := hf.keys
  exact ⟨ks, hnd, hks, by rw [h.len ht ty, hsz]⟩
theorem wpList_lenG {ops : Array Oper} {Q : Exit → Act → World → Prop} {a : Act} {w : World} {rest : List Oper} {o : Oper} (hw : Region.wanted o (yielded ops a.tmps) = true) (m : Operand) (t : TypeId) (hop : o.op = Op.call { callee := Callee.builtin Builtin.len, args := #[m], argTypes := #[t] }) {e : TypeId} (ht : Tryz.prog.underlying t = some (.map 9 e))
    {b : Nat} {f : Bs → Option Value} (hm : a.eval m = .map (some b)) (hf : MapF w b f)
    (hK : ∀ ks : List Bs, ks.Nodup → (∀ x, x ∈ ks ↔ f x ≠ none) → wpList Tryz.prog ops Q rest (a.put o.dst (.int .i64 ks.length)) w) : wpList Tryz.prog ops Q (o :: rest) a w := by
  obtain ⟨ks, hnd, hks, hrun⟩ := run_lenF ht hf o.type
  refine wpList_step fun K' hK' => ?_
  rw [if_pos hw]
  unfold Oper.wp
  simp [execOp, hop, resolve, invoke, builtin, hm, hrun, Result.andThen]
  exact hK' _ _ (hK ks hnd hks)
theorem _root_.Go.RowKit.Below.after {w W W4 W7 : World} {hs lo px : Nat} {s : Idn.Sch} {ns : List Bs} {es es' : List IxE} {ta cb : Value} {eb vb : Nat} {g g' : Bs → Value} {ts : List (Bs × Nat)} {G G' : Bs → Bs → Option Nat} (h : Below hs W7 W) (h4 : IxV W4 hs lo px s ns es' ta cb eb vb g' ts G') (h47 : Below W4.heap.size W4 W7) (hm : Mv (IxS eb ts G) w W4) (hI : IxV w hs lo px s ns es ta cb eb vb g ts G) : Below hs w W :=
  ((hm.below hI.lowS hI.hsz).trans (h47.mono h4.hsz)).trans h
section
variable {w : World} {hs lo px : Nat} {s : Idn.Sch} {ns : List Bs} {es : List IxE} {ta cb : Value} {eb vb : Nat} {g : Bs → Value} {ts : List (Bs × Nat)} {G : Bs → Bs → Option Nat}
set_option maxHeartbeats 4000000 in
set_option maxRecDepth 100000 in
theorem ixPut_any (hI : IxV w hs lo px s ns es ta cb eb vb g ts G) (hG : GdI s ns es) (hE : ∀ W, Below hs w W → Env W ∧ EnvU W) (n : Bs) (hn : n.length ≤ 1000000) (av : Value) (A : List Idn.Att) (hatv : AttsV w w.heap.size av A) (hA7 : Idn.ASm7 A) :
    Calls Tryz.prog 15 #[.pointer (some ⟨px, 0, none⟩), .agg #[.string (B n), av]] w fun e w' => e = .returned (.int .i64 (ixPut es n A).1) ∧ ∃ g' G', IxV w' hs lo px s ns (ixPut es n A).2 ta cb eb vb g' ts G' ∧ Mv (IxS eb ts G) w w' ∧ ∀ k, IxS eb ts G' k → IxS eb ts G k ∨ w.heap.size ≤ k := by
  have hnm : n.length ≤ maxLen := by unfold maxLen; omega
  obtain ⟨Ag, cg, rfl, _⟩ := SlV.shape hatv
  have hR : ixPut es n A = if n.isEmpty || !validN n then (5, es) else if Idn.aCheck A != 0 then (Idn.aCheck A, es) else if !hasE es n && decide (256 ≤ es.length) then (3, es) else (0, insE n (Idn.rSorted A) es) := rfl
  have HR := Lib.hid hR
  clear hR
  have hkeep : ∀ W', Below w.heap.size w W' → ∃ g' G', IxV W' hs lo px s ns es ta cb eb vb g' ts G' ∧ Mv (IxS eb ts G) w W' ∧ ∀ k, IxS eb ts G' k → IxS eb ts G k ∨ w.heap.size ≤ k := fun W' hW => ⟨g, G, hI.keep hW, Mv.of_below hW _, fun k hk => .inl hk⟩
  have hVn := fun W => nm_valid_any (B n) W (by rw [Idn.size_B]; omega)
  have hCk := fun W (hW : Below w.heap.size w W) => attsCheck_any _ A W (AttsV.mono (AttsV.keep hatv hW) hW.size) (asm7_asm hA7)
  simp only [Idn.L_B] at hVn
  have c2 := hI.c2
  go_enter Tryz.func15, Tryz.ntmps15
  go_upto_region 1 with fail
  with_reducible refine gen1 (R := fun W => Code.wp Tryz.prog _ _ _ W) ?_
  intro W hb hszW hc _
  have q0 : W.cell? ⟨w.heap.size, 0, none⟩ = some (.string (B n)) := hc 0 _ rfl
  have q1 : W.cell? ⟨w.heap.size, 1, none⟩ = some (.slice Ag A.length cg) := hc 1 _ rfl
  replace c2 := cell_later hb c2
  clear hc hszW
  go_upto_region 3 with (go_at_call 47; refine (ready_any px eb W c2).mono ?_; rintro e w0 ⟨rfl, rfl⟩)
  by_cases h0 : n = []
  · have hbe : (B n).toList.isEmpty = true := by rw [toList_L, Idn.L_B, h0]; rfl
    have HF : Hid (ixPut es n A = (5, es)) := by show _ = _; rw [HR.out, h0]; rfl
    clear h0 HR hVn hCk
    go_wp2
    go_ret
    rw [HF.out]
    exact ⟨rfl, hkeep _ hb⟩
  have hbe : (B n).toList.isEmpty = false := by rw [toList_L, Idn.L_B]; cases n <;> simp_all
  have hie : n.isEmpty = false := by cases n <;> simp_all
  cases hvn : validN n with
  | false =>
    have HF : Hid (ixPut es n A = (5, es)) := by show _ = _; rw [HR.out, hie, hvn]; rfl
    rw [hvn] at hVn
    clear h0 HR hCk hvn hie
    go_wp2_with (go_at_call 48; refine (hVn _).mono ?_; rintro e w1 ⟨rfl, hb1⟩)
    go_ret
    rw [HF.out]
    exact ⟨rfl, hkeep _ (hb.trans (hb1.mono hb.size))⟩
  | true =>
  rw [hvn] at hVn
  have HR2 : Hid (ixPut es n A = if Idn.aCheck A != 0 then (Idn.aCheck A, es) else if !hasE es n && decide (256 ≤ es.length) then (3, es) else (0, insE n (Idn.rSorted A) es)) := by show _ = _; rw [HR.out, hie, hvn]; rfl
  clear HR h0 hie
  go_upto_region 5 with (go_at_call 48; refine (hVn _).mono ?_; rintro e w1 ⟨rfl, hb1⟩)
  have hb1' := hb.trans (hb1.mono hb.size)
  replace hCk := hCk w1 hb1'
  replace q0 := cell_later hb1 q0
  replace q1 := cell_later hb1 q1
  replace c2 := cell_later hb1 c2
  go_upto_region 6 with (go_at_call 49; refine hCk.mono ?_; rintro e w2 ⟨rfl, hb2⟩)
  replace q0 := cell_later hb2 q0
  replace q1 := cell_later hb2 q1
  replace c2 := cell_later hb2 c2
  replace hb := hb1'.trans (hb2.mono hb1'.size)
  clear hb1' hb1 hb2 hVn hCk hbe
  generalize w2 = W at *
  by_cases hac : Idn.aCheck A = 0
  case neg =>
    have hI0 : (Idn.aCheck A != 0) = true := by simpa using hac
    have HF : Hid (ixPut es n A = (Idn.aCheck A, es)) := by show _ = _; rw [HR2.out, hI0]; rfl
    clear HR2
    generalize Idn.aCheck A = ac at *
    go_wp2
    go_ret
    rw [HF.out]
    exact ⟨rfl, hkeep _ hb⟩
  have HR3 : Hid (ixPut es n A = if !hasE es n && decide (256 ≤ es.length) then (3, es) else (0, insE n (Idn.rSorted A) es)) := by show _ = _; rw [HR2.out, hac]; rfl
  rw [hac]
  clear HR2
  go_upto_region 8 with fail
  cases hh : hasE es n with
  | true =>
    obtain ⟨A0, hA0⟩ := hasE_iff.1 hh
    obtain ⟨Ab, cb', hgn, _⟩ := SlV.shape (hI.entry hA0)
    have hef : entF es g n = some (.agg #[.string (B n), .slice Ab A0.length cb']) := by unfold entF; rw [hh, ← hgn]; rfl
    have HF : Hid (ixPut es n A = (0, insE n (Idn.rSorted A) es)) := by show _ = _; rw [HR3.out, hh]; rfl
    clear HR3 hgn
    have hmS : ∀ W', Below W.drew.heap.size W.drew W' → (Instr.lookup 75 (.map (some eb)) (.string (B n)) true).run Tryz.prog W' = .ok (.tuple #[.agg #[.string (B n), .slice Ab A0.length cb'], .bool true]) W' := fun W' hW' => by
      have hm : MapF W' eb (entF es g) := (hI.ent.keep hb.drew).keep hW'
      have := hm.run_look Tryz.underlying75 (zeroEnt _) (k := n) hnm
      rwa [hef] at this
    have hbd : Below w.heap.size w W.drew := hb.drew
    have d0 : W.drew.cell? ⟨w.heap.size, 0, none⟩ = some (.string (B n)) := q0
    have d1 : W.drew.cell? ⟨w.heap.size, 1, none⟩ = some (.slice Ag A.length cg) := q1
    have d2 : W.drew.cell? ⟨px, 2, none⟩ = some (.map (some eb)) := c2
    refine wp_region_held_drew (S := fun W' => Below W.drew.heap.size W.drew W') (by kernel_rfl) (Below.refl _ _) (fun hHeld => ?_)
    refine wpAnyH_take (i := 0) (oi := ⟨_, _, _, _, _, _⟩) (v := ?x1v) rfl (by kernel_rfl) (by kernel_rfl) (by kernel_rfl) (fun _ _ _ h => h) (Or.inl ⟨by rfl, ?x1h⟩) (by assumption) ?x1r
    rotate_left 1
    · (intro w hSw; (try dsimp only at hSw); go_simp; (try with_reducible rfl))
    try simp only [Act.put, List.setIfInBounds_toArray, List.set_cons_zero, List.set_cons_succ]
    refine wpAnyH_take (i := 1) (oi := ⟨_, _, _, _, _, _⟩) (v := ?x2v) rfl (by kernel_rfl) (by kernel_rfl) (by kernel_rfl) (fun _ _ _ h => h) (Or.inl ⟨by rfl, ?x2h⟩) (by assumption) ?x2r
    rotate_left 1
    · (intro w hSw; (try dsimp only at hSw); go_simp; (try with_reducible rfl))
    try simp only [Act.put, List.setIfInBounds_toArray, List.set_cons_zero, List.set_cons_succ]
    refine wpAnyH_take (i := 2) (oi := ⟨_, _, _, _, _, _⟩) (v := ?x3v) rfl (by kernel_rfl) (by kernel_rfl) (by kernel_rfl) (fun _ _ _ h => h) (Or.inl ⟨by rfl, ?x3h⟩) (by assumption) ?x3r
    rotate_left 1
    · (intro w hSw; (try dsimp only at hSw); go_simp; (try with_reducible rfl))
    try simp only [Act.put, List.setIfInBounds_toArray, List.set_cons_zero, List.set_cons_succ]
    refine wpAnyH_take (i := 3) (oi := ⟨_, _, _, _, _, _⟩) (v := ?x4v) rfl (by kernel_rfl) (by kernel_rfl) (by kernel_rfl) (fun _ _ _ h => h) (Or.inl ⟨by rfl, ?x4h⟩) (by assumption) ?x4r
    rotate_left 1
    · (intro w hSw; (try dsimp only at hSw); have f2 := cell_later hSw d2; go_simp; (try with_reducible rfl))
    try simp only [Act.put, List.setIfInBounds_toArray, List.set_cons_zero, List.set_cons_succ]
    refine wpAnyH_take (i := 4) (oi := ⟨_, _, _, _, _, _⟩) (v := ?x5v) rfl (by kernel_rfl) (by kernel_rfl) (by kernel_rfl) (fun _ _ _ h => h) (Or.inl ⟨by rfl, ?x5h⟩) (by assumption) ?x5r
    rotate_left 1
    · (intro w hSw; (try dsimp only at hSw); go_simp; (try with_reducible rfl))
    try simp only [Act.put, List.setIfInBounds_toArray, List.set_cons_zero, List.set_cons_succ]
    refine wpAnyH_take (i := 5) (oi := ⟨_, _, _, _, _, _⟩) (v := ?x6v) rfl (by kernel_rfl) (by kernel_rfl) (by kernel_rfl) (fun _ _ _ h => h) (Or.inl ⟨by rfl, ?x6h⟩) (by assumption) ?x6r
    rotate_left 1
    · (intro w hSw; (try dsimp only at hSw); have f0 := cell_later hSw d0; go_simp; (try with_reducible rfl))
    try simp only [Act.put, List.setIfInBounds_toArray, List.set_cons_zero, List.set_cons_succ]
    refine wpAnyH_take (i := 6) (oi := ⟨_, _, _, _, _, _⟩) (v := ?x7v) rfl (by kernel_rfl) (by kernel_rfl) (by kernel_rfl) (fun _ _ _ h => h) (Or.inl ⟨by rfl, ?x7h⟩) (by assumption) ?x7r
    rotate_left 1
    · (intro w hSw; (try dsimp only at hSw); have f5 := hmS _ hSw; go_simp; (try with_reducible rfl))
    try simp only [Act.put, List.setIfInBounds_toArray, List.set_cons_zero, List.set_cons_succ]
    refine wpAnyH_take (i := 7) (oi := ⟨_, _, _, _, _, _⟩) (v := ?x8v) rfl (by kernel_rfl) (by kernel_rfl) (by kernel_rfl) (fun _ _ _ h => h) (Or.inl ⟨by rfl, ?x8h⟩) (by assumption) ?x8r
    rotate_left 1
    · (intro w hSw; (try dsimp only at hSw); go_simp; (try with_reducible rfl))
    try simp only [Act.put, List.setIfInBounds_toArray, List.set_cons_zero, List.set_cons_succ]
    refine wpAnyH_take (i := 8) (oi := ⟨_, _, _, _, _, _⟩) (v := ?x9v) rfl (by kernel_rfl) (by kernel_rfl) (by kernel_rfl) (fun _ _ _ h => h) (Or.inl ⟨by rfl, ?x9h⟩) (by assumption) ?x9r
    rotate_left 1
    · (intro w hSw; (try dsimp only at hSw); go_simp; (try with_reducible rfl))
    try simp only [Act.put, List.setIfInBounds_toArray, List.set_cons_zero, List.set_cons_succ]
    refine wpAnyH_take (i := 9) (oi := ⟨_, _, _, _, _, _⟩) (v := ?x10v) rfl (by kernel_rfl) (by kernel_rfl) (by kernel_rfl) (fun _ _ _ h => h) (Or.inl ⟨by rfl, ?x10h⟩) (by assumption) ?x10r
    rotate_left 1
    · (intro w hSw; (try dsimp only at hSw); go_simp; (try with_reducible rfl))
    try simp only [Act.put, List.setIfInBounds_toArray, List.set_cons_zero, List.set_cons_succ]
    refine wpAnyH_ready (rs := [10]) (by kernel_rfl) (by simp) ?_
    refine AllReadyH.cons (o := ⟨_, _, _, _, _, _⟩) rfl (fun K hK => ?_) AllReadyH.nil
    go_simp
    refine hK.out _ _ ?_ (fun hHeld => ?_)
    · exact (Below.refl _ _).alloc (Nat.le_refl _) _
    clear hK K
    try simp only [Act.put, List.setIfInBounds_toArray, List.set_cons_zero, List.set_cons_succ]
    refine wpAnyH_ready (rs := [11]) (by kernel_rfl) (by simp) ?_
    refine AllReadyH.cons (o := ⟨_, _, _, _, _, _⟩) rfl (fun K hK => ?_) AllReadyH.nil
    go_simp
    refine hK.out _ _ ?_ (fun hHeld => ?_)
    · exact (Below.refl _ _).alloc (Nat.le_refl _) _
    clear hK K
    try simp only [Act.put, List.setIfInBounds_toArray, List.set_cons_zero, List.set_cons_succ]
    refine wpAnyH_take (i := 12) (oi := ⟨_, _, _, _, _, _⟩) (v := ?x11v) rfl (by kernel_rfl) (by kernel_rfl) (by kernel_rfl) (fun _ _ _ h => h) (Or.inl ⟨by rfl, ?x11h⟩) (by assumption) ?x11r
    rotate_left 1
    · (intro w hSw; (try dsimp only at hSw); go_simp; (try with_reducible rfl))
    try simp only [Act.put, List.setIfInBounds_toArray, List.set_cons_zero, List.set_cons_succ]
    refine wpAnyH_done (by kernel_rfl) ?_ _
    clear hmS
    with_reducible generalize (W.alloc (.cells #[.string (B n), .slice Ab A0.length cb'] 41)).drew = W3 at hHeld ⊢
    have hb3 := hbd.trans (hHeld.mono hbd.size)
    replace q0 := cell_later hHeld d0
    replace q1 := cell_later hHeld d1
    have hI3 := hI.keep hb3
    have k2 := hI3.c2
    clear hHeld d0 d1 d2 hbd c2 hb
    go_upto_region 11 with fail
    have hDr := ixDrop_any hI3 hG (fun W hW => hE W ((hb3.mono hI.hsz).trans hW)) n hn
    go_upto_region 12 with (go_at_call 17; refine hDr.mono ?_; rintro e W4 ⟨rfl, G1, hI4, hm4, hn4⟩)
    have r0 := hm4.cell hI3.allMap q0
    have r1 := hm4.cell hI3.allMap q1
    have hMw4 : Mv (IxS eb ts G) w W4 := (Mv.of_below hb3 _).trans hm4 fun j hj => .inl hj
    have hnw4 : ∀ k, IxS eb ts G1 k → IxS eb ts G k ∨ w.heap.size ≤ k := fun k hk => (hn4 k hk).imp id fun h => Nat.le_trans hb3.size h
    have hav4 : AttsV W4 W4.heap.size (.slice Ag A.length cg) A := AttsV.mono (AttsV.keepC hatv fun b off u _ hc => hMw4.cell hI.allMap hc) hMw4.size
    have hSo := fun W (hW : Below W4.heap.size W4 W) => sortedG_any _ A W (AttsV.mono (AttsV.keep hav4 hW) hW.size) hA7
    have hSt : ∀ W', Below W4.heap.size W4 W' → W'.cell? ⟨w.heap.size, 0, none⟩ = some (.string (B n)) ∧ W'.cell? ⟨w.heap.size, 1, none⟩ = some (.slice Ag A.length cg) ∧ Below W4.heap.size W4 W' := fun W' hW => ⟨cell_later hW r0, cell_later hW r1, hW⟩
    clear hDr
    go_cut [8] (fun v wx => ∃ (z : Nat) (A5 : Option Addr) (c5 : Nat) (ps : List (Idn.Att × Value)), v = .pointer (some ⟨z, 0, none⟩) ∧ Below W4.heap.size W4 wx ∧ AttOwn wx W4.heap.size (.slice A5 (Idn.rSorted A).length c5) ps ∧ ps.map (·.1) = Idn.rSorted A ∧ TwoC wx z (.string (B n)) (.slice A5 (Idn.rSorted A).length c5))
    case first =>
      clear hI hI3 hI4 hG hE hkeep hatv hav4
      go_region_held3 (fun W' => W'.cell? ⟨w.heap.size, 0, none⟩ = some (.string (B n)) ∧ W'.cell? ⟨w.heap.size, 1, none⟩ = some (.slice Ag A.length cg) ∧ Below W4.heap.size W4 W')
        (first | (refine hSt _ ?_; repeat (first | with_reducible exact Below.refl _ _ | with_reducible apply Below.drew | with_reducible refine Below.lay ?_ _ | with_reducible refine Below.setCell ?_ (by simp) _ | with_reducible refine Below.on ?_ hb5)))
        (first | (go_at_call 50; refine (hSo _ (by repeat (first | with_reducible exact Below.refl _ _ | with_reducible apply Below.drew | with_reducible refine Below.lay ?_ _))).mono ?_; rintro e W5 ⟨v5, ps, rfl, hao, hps, hb5⟩; obtain ⟨A5, c5, hsh, _⟩ := SlV.shape (hao.atts hps); subst hsh; first | have hn := two_new hb5 | skip))
      all_goals (go_wp2_with fail; go_meet)
      all_goals first
        | exact ⟨_, A5, c5, ps, rfl, And.right (And.right (by assumption)), (hao.keep ((Below.refl _ _).alloc (Nat.le_refl _) _)).lower (Nat.le_refl _), hps, twoCA _ _ _ _⟩
        | exact ⟨_, A5, c5, ps, rfl, And.right (And.right (by assumption)), ((hao.setB (by simp) _).setB (by simp) _).lower (by simp), hps, twoCB hn.1.1 hn.1.2 _ _⟩
    obtain ⟨W5, hW5⟩ : ∃ W5 : Nat, W5 = 0 := ⟨0, rfl⟩
    clear hW5 W5
    obtain ⟨z5, A5, c5, ps, rfl, hb46, hao, hps, t0, t1⟩ := hcut
    generalize wc = W6 at *
    replace r0 := cell_later hb46 r0
    replace r1 := cell_later hb46 r1
    clear hSt
    go_upto_region 13 with fail
    have hI6 := (hI4.keep hb46).keep (Below.refl _ W6).drew
    have hao6 := hao.keep (Below.refl _ W6).drew
    have hav6 : AttsV W6.drew W6.drew.heap.size (.slice A5 (Idn.rSorted A).length c5) (Idn.rSorted A) := hao6.atts hps
    have d0 : W6.drew.cell? ⟨w.heap.size, 0, none⟩ = some (.string (B n)) := r0
    have u0 : W6.drew.cell? ⟨z5, 0, none⟩ = some (.string (B n)) := t0
    have u1 : W6.drew.cell? ⟨z5, 1, none⟩ = some (.slice A5 (Idn.rSorted A).length c5) := t1
    have d2 : W6.drew.cell? ⟨px, 2, none⟩ = some (.map (some eb)) := hI6.c2
    have hb47 : Below W4.heap.size W4 W6.drew := hb46.drew
    clear r0 r1 t0 t1 hb46
    refine wp_tail_drew 7 (by kernel_rfl) (by kernel_rfl) ?_
    simp only [List.take_succ_cons, List.take_zero, List.drop_succ_cons, List.drop_zero]
    repeat still_step
    refine wpStill_nil ?_
    generalize W6.drew = W7 at *
    have hlo5 : lo ≤ W4.heap.size := hI4.loz
    go_upto_region 14 with (at_mapUpdate; refine wpList_putF _ rfl _ _ _ 75 rfl Tryz.underlying75 rfl hI6.ent (l := namesE (ixDrop es n)) (fun y hy => mem_names.2 (entF_ne.1 hy)) (hG.drop n).names_len n rfl hnm (.agg #[.string (B n), .slice A5 (Idn.rSorted A).length c5]) rfl ?_; intro W8 hm8 hv8)
    have hv8' : Mv (IxS eb ts G1) W7 W8 := hv8.mono fun k hk => .inl hk
    have hall7 := hI6.allMap
    replace d0 := hv8'.cell hall7 d0
    replace u0 := hv8'.cell hall7 u0
    replace u1 := hv8'.cell hall7 u1
    have hV8 := hI6.vl.mv hv8 (fun e => hI6.ebv (Eq.symm e)) (fun k hk => by have e : k = eb := hk; rw [e]; exact hI6.ebs)
    have hAe := rGet_small (aCheck_sorted hac) (rSorted_idem A)
    have hEa := each_any (w := W8) 52 #[.pointer (some ⟨w.heap.size, 0, none⟩)] fn_put1 px s ta cb n _ (Idn.rSorted A) true (fun t => lvE s (ixDrop es n) t ++ nV s t (Idn.rSorted A)) (n :: namesE (ixDrop es n))
      (hv8'.cell hall7 hI6.c0) (hv8'.cell hall7 hI6.c1) (hv8'.cell hall7 hI6.c3) (SchV.mono (hI6.sch.keepC fun b off u _ hc => hv8'.cell hall7 hc) (Nat.le_trans hI6.hsz hv8'.size)) hG.sm hV8 (hI6.tl (hG.drop n))
      (AttsV.mono (AttsV.keepC hav6 fun b off u _ hc => hv8'.cell hall7 hc) hv8'.size) (chk_sm (aCheck_sorted hac)) (fun a => ⟨Nat.le_trans (hAe a).1 (by decide), fun x hx => Nat.le_trans ((hAe a).2 x hx) (by decide)⟩)
      (fun W hW => hE W ((hv8'.trans hW fun j hj => .inl (.inr hj)).below hI6.lowS hI6.hsz |>.after hI4 hb47 hMw4 hI)) (fun t ht v m h => ⟨List.mem_append_left _ (GdI.mIn s (ixDrop es n) ts t ht v m h).1, List.mem_cons_of_mem _ (GdI.mIn s (ixDrop es n) ts t ht v m h).2⟩) (fun t _ v hv => List.mem_append_right _ hv) List.mem_cons_self
      (fun V G2 M2 t v hMV ht hV2 hv hM2 => put1_any hV2 ht v n w.heap.size (hMV.cell hV8.allMap d0) (by unfold maxLen; omega) hnm (hM2 t ht) (by rw [List.length_append]; have := (hG.drop n).lv_len t.1; have := nV_small (s := s) (aCheck_sorted hac) (rSorted_idem A) t.1; omega) (by have := (hG.drop n).len; unfold namesE; rw [List.length_cons, List.length_map]; omega))
    have hno : hasE (ixDrop es n) n = false := by rw [hasE_drop]; simp
    have hmix : (mixM s (Idn.rSorted A) n true (atB s (ixDrop es n)) fun _ => false) = atB s (insE n (Idn.rSorted A) (ixDrop es n)) := by
      funext t v m
      rw [atB_ins (drop_ok hG.ok n) hvn hno]
      unfold mixM
      by_cases hc : m = n ∧ (nV s t (Idn.rSorted A)).contains v = true
      · rw [if_pos ⟨rfl, hc.1, hc.2⟩, if_pos hc]
      · rw [if_neg (fun h => hc ⟨h.2.1, h.2.2⟩), if_neg hc]
    rw [hmix] at hEa
    have hfin : ∀ W9 G9, VlV W9 vb ts G9 (atB s (insE n (Idn.rSorted A) (ixDrop es n))) → Mv (VlS ts G1) W8 W9 → (∀ k, VlS ts G9 k → VlS ts G1 k ∨ W8.heap.size ≤ k) → ∃ g', IxV W9 hs lo px s ns (insE n (Idn.rSorted A) es) ta cb eb vb g' ts G9 ∧ Mv (IxS eb ts G) w W9 ∧ ∀ k, IxS eb ts G9 k → IxS eb ts G k ∨ w.heap.size ≤ k := fun W9 G9 hV9 hm9 hn9 => by
      have h79 : Mv (IxS eb ts G1) W7 W9 := hv8'.trans hm9 fun j hj => .inl (.inr hj)
      have hn79 : ∀ k, VlS ts G9 k → VlS ts G1 k ∨ W7.heap.size ≤ k := fun k hk => (hn9 k hk).imp id fun h => Nat.le_trans hv8'.size h
      have hw7 : w.heap.size ≤ W7.heap.size := Nat.le_trans hMw4.size hb47.size
      refine ⟨fun m => if m = n then .slice A5 (Idn.rSorted A).length c5 else g m, ?_, ((hMw4.then_below hb47).trans h79 hnw4), ?_⟩
      · rw [← ins_drop hG.ok hvn (Idn.rSorted A)]
        refine hI6.turned h79 ?_ (fun e he => ?_) hV9 hn79
        · rw [entF_ins (drop_ok hG.ok n) hvn]
          exact hm8.mv hm9 fun hk => hI6.ebs hk
        · rcases (insE_mem hvn (drop_ok hG.ok n) e).1 he with rfl | ⟨h1, h2⟩
          · refine ⟨ps, ?_, hps⟩
            simp only [if_true]
            exact (hao6.mv h79 fun k hk => .inr (hall7 k hk)).lower hlo5
          · obtain ⟨qs, h3, h4⟩ := hI6.att e h1
            refine ⟨qs, ?_, h4⟩
            simp only [if_neg h2]
            exact h3.mv h79 fun k hk => .inr (hall7 k hk)
      · rintro k (rfl | hk)
        · exact .inl (.inl rfl)
        · rcases hn79 k hk with h | h
          · exact hnw4 k (.inr h)
          · exact .inr (Nat.le_trans hw7 h)
    clear hmix hI hI3 hI4 hI6 hV8 hm8 hv8 hv8' hall7 hE hG hatv hSo hao hao6 hav4 hav6
    go_wp2_with (go_at_call 51; refine hEa.mono ?_; rintro e w5 ⟨rfl, G5, hV5, hm5, hn5⟩)
    go_ret
    obtain ⟨g', h1, h2, h3⟩ := hfin _ _ hV5 hm5 hn5
    rw [HF.out]
    exact ⟨rfl, g', G5, h1, h2, h3⟩
  | false =>
    have hef : entF es g n = none := by unfold entF; rw [hh]; rfl
    by_cases hfl : 256 ≤ es.length
    · have HF : Hid (ixPut es n A = (3, es)) := by show _ = _; rw [HR3.out, hh, decide_eq_true hfl]; rfl
      clear HR3
      have hmS : ∀ W', Below W.drew.heap.size W.drew W' → (Instr.lookup 75 (.map (some eb)) (.string (B n)) true).run Tryz.prog W' = .ok (.tuple #[.agg #[.string ⟨#[]⟩, .slice none 0 0], .bool false]) W' := fun W' hW' => by
        have hm : MapF W' eb (entF es g) := (hI.ent.keep hb.drew).keep hW'
        have := hm.run_look Tryz.underlying75 (zeroEnt _) (k := n) hnm
        rwa [hef] at this
      have hbd : Below w.heap.size w W.drew := hb.drew
      have d0 : W.drew.cell? ⟨w.heap.size, 0, none⟩ = some (.string (B n)) := q0
      have d1 : W.drew.cell? ⟨w.heap.size, 1, none⟩ = some (.slice Ag A.length cg) := q1
      have d2 : W.drew.cell? ⟨px, 2, none⟩ = some (.map (some eb)) := c2
      refine wp_region_held_drew (S := fun W' => Below W.drew.heap.size W.drew W') (by kernel_rfl) (Below.refl _ _) (fun hHeld => ?_)
      refine wpAnyH_take (i := 0) (oi := ⟨_, _, _, _, _, _⟩) (v := ?x12v) rfl (by kernel_rfl) (by kernel_rfl) (by kernel_rfl) (fun _ _ _ h => h) (Or.inl ⟨by rfl, ?x12h⟩) (by assumption) ?x12r
      rotate_left 1
      · (intro w hSw; (try dsimp only at hSw); go_simp; (try with_reducible rfl))
      try simp only [Act.put, List.setIfInBounds_toArray, List.set_cons_zero, List.set_cons_succ]
      refine wpAnyH_take (i := 1) (oi := ⟨_, _, _, _, _, _⟩) (v := ?x13v) rfl (by kernel_rfl) (by kernel_rfl) (by kernel_rfl) (fun _ _ _ h => h) (Or.inl ⟨by rfl, ?x13h⟩) (by assumption) ?x13r
      rotate_left 1
      · (intro w hSw; (try dsimp only at hSw); go_simp; (try with_reducible rfl))
      try simp only [Act.put, List.setIfInBounds_toArray, List.set_cons_zero, List.set_cons_succ]
      refine wpAnyH_take (i := 2) (oi := ⟨_, _, _, _, _, _⟩) (v := ?x14v) rfl (by kernel_rfl) (by kernel_rfl) (by kernel_rfl) (fun _ _ _ h => h) (Or.inl ⟨by rfl, ?x14h⟩) (by assumption) ?x14r
      rotate_left 1
      · (intro w hSw; (try dsimp only at hSw); go_simp; (try with_reducible rfl))
      try simp only [Act.put, List.setIfInBounds_toArray, List.set_cons_zero, List.set_cons_succ]
      refine wpAnyH_take (i := 3) (oi := ⟨_, _, _, _, _, _⟩) (v := ?x15v) rfl (by kernel_rfl) (by kernel_rfl) (by kernel_rfl) (fun _ _ _ h => h) (Or.inl ⟨by rfl, ?x15h⟩) (by assumption) ?x15r
      rotate_left 1
      · (intro w hSw; (try dsimp only at hSw); have f2 := cell_later hSw d2; go_simp; (try with_reducible rfl))
      try simp only [Act.put, List.setIfInBounds_toArray, List.set_cons_zero, List.set_cons_succ]
      refine wpAnyH_take (i := 4) (oi := ⟨_, _, _, _, _, _⟩) (v := ?x16v) rfl (by kernel_rfl) (by kernel_rfl) (by kernel_rfl) (fun _ _ _ h => h) (Or.inl ⟨by rfl, ?x16h⟩) (by assumption) ?x16r
      rotate_left 1
      · (intro w hSw; (try dsimp only at hSw); go_simp; (try with_reducible rfl))
      try simp only [Act.put, List.setIfInBounds_toArray, List.set_cons_zero, List.set_cons_succ]
      refine wpAnyH_take (i := 5) (oi := ⟨_, _, _, _, _, _⟩) (v := ?x17v) rfl (by kernel_rfl) (by kernel_rfl) (by kernel_rfl) (fun _ _ _ h => h) (Or.inl ⟨by rfl, ?x17h⟩) (by assumption) ?x17r
      rotate_left 1
      · (intro w hSw; (try dsimp only at hSw); have f0 := cell_later hSw d0; go_simp; (try with_reducible rfl))
      try simp only [Act.put, List.setIfInBounds_toArray, List.set_cons_zero, List.set_cons_succ]
      refine wpAnyH_take (i := 6) (oi := ⟨_, _, _, _, _, _⟩) (v := ?x18v) rfl (by kernel_rfl) (by kernel_rfl) (by kernel_rfl) (fun _ _ _ h => h) (Or.inl ⟨by rfl, ?x18h⟩) (by assumption) ?x18r
      rotate_left 1
      · (intro w hSw; (try dsimp only at hSw); have f5 := hmS _ hSw; go_simp; (try with_reducible rfl))
      try simp only [Act.put, List.setIfInBounds_toArray, List.set_cons_zero, List.set_cons_succ]
      refine wpAnyH_take (i := 7) (oi := ⟨_, _, _, _, _, _⟩) (v := ?x19v) rfl (by kernel_rfl) (by kernel_rfl) (by kernel_rfl) (fun _ _ _ h => h) (Or.inl ⟨by rfl, ?x19h⟩) (by assumption) ?x19r
      rotate_left 1
      · (intro w hSw; (try dsimp only at hSw); go_simp; (try with_reducible rfl))
      try simp only [Act.put, List.setIfInBounds_toArray, List.set_cons_zero, List.set_cons_succ]
      refine wpAnyH_take (i := 8) (oi := ⟨_, _, _, _, _, _⟩) (v := ?x20v) rfl (by kernel_rfl) (by kernel_rfl) (by kernel_rfl) (fun _ _ _ h => h) (Or.inl ⟨by rfl, ?x20h⟩) (by assumption) ?x20r
      rotate_left 1
      · (intro w hSw; (try dsimp only at hSw); go_simp; (try with_reducible rfl))
      try simp only [Act.put, List.setIfInBounds_toArray, List.set_cons_zero, List.set_cons_succ]
      refine wpAnyH_take (i := 9) (oi := ⟨_, _, _, _, _, _⟩) (v := ?x21v) rfl (by kernel_rfl) (by kernel_rfl) (by kernel_rfl) (fun _ _ _ h => h) (Or.inl ⟨by rfl, ?x21h⟩) (by assumption) ?x21r
      rotate_left 1
      · (intro w hSw; (try dsimp only at hSw); go_simp; (try with_reducible rfl))
      try simp only [Act.put, List.setIfInBounds_toArray, List.set_cons_zero, List.set_cons_succ]
      refine wpAnyH_ready (rs := [10]) (by kernel_rfl) (by simp) ?_
      refine AllReadyH.cons (o := ⟨_, _, _, _, _, _⟩) rfl (fun K hK => ?_) AllReadyH.nil
      go_simp
      refine hK.out _ _ ?_ (fun hHeld => ?_)
      · exact (Below.refl _ _).alloc (Nat.le_refl _) _
      clear hK K
      try simp only [Act.put, List.setIfInBounds_toArray, List.set_cons_zero, List.set_cons_succ]
      refine wpAnyH_ready (rs := [11]) (by kernel_rfl) (by simp) ?_
      refine AllReadyH.cons (o := ⟨_, _, _, _, _, _⟩) rfl (fun K hK => ?_) AllReadyH.nil
      go_simp
      refine hK.out _ _ ?_ (fun hHeld => ?_)
      · exact (Below.refl _ _).alloc (Nat.le_refl _) _
      clear hK K
      try simp only [Act.put, List.setIfInBounds_toArray, List.set_cons_zero, List.set_cons_succ]
      refine wpAnyH_take (i := 12) (oi := ⟨_, _, _, _, _, _⟩) (v := ?x22v) rfl (by kernel_rfl) (by kernel_rfl) (by kernel_rfl) (fun _ _ _ h => h) (Or.inl ⟨by rfl, ?x22h⟩) (by assumption) ?x22r
      rotate_left 1
      · (intro w hSw; (try dsimp only at hSw); go_simp; (try with_reducible rfl))
      try simp only [Act.put, List.setIfInBounds_toArray, List.set_cons_zero, List.set_cons_succ]
      refine wpAnyH_done (by kernel_rfl) ?_ _
      clear hmS
      with_reducible generalize (W.alloc (.cells #[.string ⟨#[]⟩, .slice none 0 0] 41)).drew = W3 at hHeld ⊢
      have hb3 := hbd.trans (hHeld.mono hbd.size)
      replace q0 := cell_later hHeld d0
      replace q1 := cell_later hHeld d1
      have hI3 := hI.keep hb3
      have k2 := hI3.c2
      clear hHeld d0 d1 d2 hbd c2 hb
      have hent := hI3.ent
      have hok := hG.ok
      clear hI hI3 hG hE
      go_wp2_with (at_len; refine wpList_lenG (by rfl) _ 75 rfl Tryz.underlying75 rfl hent ?_; intro ks hnd hks; have hkl := len_names hok hnd (fun x => (hks x).trans entF_ne); have hge : (256 : Int) ≤ ks.length := by omega)
      go_ret
      rw [HF.out]
      exact ⟨rfl, hkeep _ hb3⟩
    have HF : Hid (ixPut es n A = (0, insE n (Idn.rSorted A) es)) := by show _ = _; rw [HR3.out, hh, decide_eq_false hfl]; rfl
    clear HR3
    have hmS : ∀ W', Below W.drew.heap.size W.drew W' → (Instr.lookup 75 (.map (some eb)) (.string (B n)) true).run Tryz.prog W' = .ok (.tuple #[.agg #[.string ⟨#[]⟩, .slice none 0 0], .bool false]) W' := fun W' hW' => by
      have hm : MapF W' eb (entF es g) := (hI.ent.keep hb.drew).keep hW'
      have := hm.run_look Tryz.underlying75 (zeroEnt _) (k := n) hnm
      rwa [hef] at this
    have hbd : Below w.heap.size w W.drew := hb.drew
    have d0 : W.drew.cell? ⟨w.heap.size, 0, none⟩ = some (.string (B n)) := q0
    have d1 : W.drew.cell? ⟨w.heap.size, 1, none⟩ = some (.slice Ag A.length cg) := q1
    have d2 : W.drew.cell? ⟨px, 2, none⟩ = some (.map (some eb)) := c2
    refine wp_region_held_drew (S := fun W' => Below W.drew.heap.size W.drew W') (by kernel_rfl) (Below.refl _ _) (fun hHeld => ?_)
    refine wpAnyH_take (i := 0) (oi := ⟨_, _, _, _, _, _⟩) (v := ?x23v) rfl (by kernel_rfl) (by kernel_rfl) (by kernel_rfl) (fun _ _ _ h => h) (Or.inl ⟨by rfl, ?x23h⟩) (by assumption) ?x23r
    rotate_left 1
    · (intro w hSw; (try dsimp only at hSw); go_simp; (try with_reducible rfl))
    try simp only [Act.put, List.setIfInBounds_toArray, List.set_cons_zero, List.set_cons_succ]
    refine wpAnyH_take (i := 1) (oi := ⟨_, _, _, _, _, _⟩) (v := ?x24v) rfl (by kernel_rfl) (by kernel_rfl) (by kernel_rfl) (fun _ _ _ h => h) (Or.inl ⟨by rfl, ?x24h⟩) (by assumption) ?x24r
    rotate_left 1
    · (intro w hSw; (try dsimp only at hSw); go_simp; (try with_reducible rfl))
    try simp only [Act.put, List.setIfInBounds_toArray, List.set_cons_zero, List.set_cons_succ]
    refine wpAnyH_take (i := 2) (oi := ⟨_, _, _, _, _, _⟩) (v := ?x25v) rfl (by kernel_rfl) (by kernel_rfl) (by kernel_rfl) (fun _ _ _ h => h) (Or.inl ⟨by rfl, ?x25h⟩) (by assumption) ?x25r
    rotate_left 1
    · (intro w hSw; (try dsimp only at hSw); go_simp; (try with_reducible rfl))
    try simp only [Act.put, List.setIfInBounds_toArray, List.set_cons_zero, List.set_cons_succ]
    refine wpAnyH_take (i := 3) (oi := ⟨_, _, _, _, _, _⟩) (v := ?x26v) rfl (by kernel_rfl) (by kernel_rfl) (by kernel_rfl) (fun _ _ _ h => h) (Or.inl ⟨by rfl, ?x26h⟩) (by assumption) ?x26r
    rotate_left 1
    · (intro w hSw; (try dsimp only at hSw); have f2 := cell_later hSw d2; go_simp; (try with_reducible rfl))
    try simp only [Act.put, List.setIfInBounds_toArray, List.set_cons_zero, List.set_cons_succ]
    refine wpAnyH_take (i := 4) (oi := ⟨_, _, _, _, _, _⟩) (v := ?x27v) rfl (by kernel_rfl) (by kernel_rfl) (by kernel_rfl) (fun _ _ _ h => h) (Or.inl ⟨by rfl, ?x27h⟩) (by assumption) ?x27r
    rotate_left 1
    · (intro w hSw; (try dsimp only at hSw); go_simp; (try with_reducible rfl))
    try simp only [Act.put, List.setIfInBounds_toArray, List.set_cons_zero, List.set_cons_succ]
    refine wpAnyH_take (i := 5) (oi := ⟨_, _, _, _, _, _⟩) (v := ?x28v) rfl (by kernel_rfl) (by kernel_rfl) (by kernel_rfl) (fun _ _ _ h => h) (Or.inl ⟨by rfl, ?x28h⟩) (by assumption) ?x28r
    rotate_left 1
    · (intro w hSw; (try dsimp only at hSw); have f0 := cell_later hSw d0; go_simp; (try with_reducible rfl))
    try simp only [Act.put, List.setIfInBounds_toArray, List.set_cons_zero, List.set_cons_succ]
    refine wpAnyH_take (i := 6) (oi := ⟨_, _, _, _, _, _⟩) (v := ?x29v) rfl (by kernel_rfl) (by kernel_rfl) (by kernel_rfl) (fun _ _ _ h => h) (Or.inl ⟨by rfl, ?x29h⟩) (by assumption) ?x29r
    rotate_left 1
    · (intro w hSw; (try dsimp only at hSw); have f5 := hmS _ hSw; go_simp; (try with_reducible rfl))
    try simp only [Act.put, List.setIfInBounds_toArray, List.set_cons_zero, List.set_cons_succ]
    refine wpAnyH_take (i := 7) (oi := ⟨_, _, _, _, _, _⟩) (v := ?x30v) rfl (by kernel_rfl) (by kernel_rfl) (by kernel_rfl) (fun _ _ _ h => h) (Or.inl ⟨by rfl, ?x30h⟩) (by assumption) ?x30r
    rotate_left 1
    · (intro w hSw; (try dsimp only at hSw); go_simp; (try with_reducible rfl))
    try simp only [Act.put, List.setIfInBounds_toArray, List.set_cons_zero, List.set_cons_succ]
    refine wpAnyH_take (i := 8) (oi := ⟨_, _, _, _, _, _⟩) (v := ?x31v) rfl (by kernel_rfl) (by kernel_rfl) (by kernel_rfl) (fun _ _ _ h => h) (Or.inl ⟨by rfl, ?x31h⟩) (by assumption) ?x31r
    rotate_left 1
    · (intro w hSw; (try dsimp only at hSw); go_simp; (try with_reducible rfl))
    try simp only [Act.put, List.setIfInBounds_toArray, List.set_cons_zero, List.set_cons_succ]
    refine wpAnyH_take (i := 9) (oi := ⟨_, _, _, _, _, _⟩) (v := ?x32v) rfl (by kernel_rfl) (by kernel_rfl) (by kernel_rfl) (fun _ _ _ h => h) (Or.inl ⟨by rfl, ?x32h⟩) (by assumption) ?x32r
    rotate_left 1
    · (intro w hSw; (try dsimp only at hSw); go_simp; (try with_reducible rfl))
    try simp only [Act.put, List.setIfInBounds_toArray, List.set_cons_zero, List.set_cons_succ]
    refine wpAnyH_ready (rs := [10]) (by kernel_rfl) (by simp) ?_
    refine AllReadyH.cons (o := ⟨_, _, _, _, _, _⟩) rfl (fun K hK => ?_) AllReadyH.nil
    go_simp
    refine hK.out _ _ ?_ (fun hHeld => ?_)
    · exact (Below.refl _ _).alloc (Nat.le_refl _) _
    clear hK K
    try simp only [Act.put, List.setIfInBounds_toArray, List.set_cons_zero, List.set_cons_succ]
    refine wpAnyH_ready (rs := [11]) (by kernel_rfl) (by simp) ?_
    refine AllReadyH.cons (o := ⟨_, _, _, _, _, _⟩) rfl (fun K hK => ?_) AllReadyH.nil
    go_simp
    refine hK.out _ _ ?_ (fun hHeld => ?_)
    · exact (Below.refl _ _).alloc (Nat.le_refl _) _
    clear hK K
    try simp only [Act.put, List.setIfInBounds_toArray, List.set_cons_zero, List.set_cons_succ]
    refine wpAnyH_take (i := 12) (oi := ⟨_, _, _, _, _, _⟩) (v := ?x33v) rfl (by kernel_rfl) (by kernel_rfl) (by kernel_rfl) (fun _ _ _ h => h) (Or.inl ⟨by rfl, ?x33h⟩) (by assumption) ?x33r
    rotate_left 1
    · (intro w hSw; (try dsimp only at hSw); go_simp; (try with_reducible rfl))
    try simp only [Act.put, List.setIfInBounds_toArray, List.set_cons_zero, List.set_cons_succ]
    refine wpAnyH_done (by kernel_rfl) ?_ _
    clear hmS
    with_reducible generalize (W.alloc (.cells #[.string ⟨#[]⟩, .slice none 0 0] 41)).drew = W3 at hHeld ⊢
    have hb3 := hbd.trans (hHeld.mono hbd.size)
    replace q0 := cell_later hHeld d0
    replace q1 := cell_later hHeld d1
    have hI3 := hI.keep hb3
    have k2 := hI3.c2
    clear hHeld d0 d1 d2 hbd c2 hb
    have hent := hI3.ent
    have hok := hG.ok
    go_upto_region 11 with (at_len; refine wpList_lenG (by rfl) _ 75 rfl Tryz.underlying75 rfl hent ?_; intro ks hnd hks; have hkl := len_names hok hnd (fun x => (hks x).trans entF_ne); have hge : ¬ (256 : Int) ≤ ks.length := by omega)
    have hDr := ixDrop_any hI3 hG (fun W hW => hE W ((hb3.mono hI.hsz).trans hW)) n hn
    go_upto_region 12 with (go_at_call 17; refine hDr.mono ?_; rintro e W4 ⟨rfl, G1, hI4, hm4, hn4⟩)
    have r0 := hm4.cell hI3.allMap q0
    have r1 := hm4.cell hI3.allMap q1
    have hMw4 : Mv (IxS eb ts G) w W4 := (Mv.of_below hb3 _).trans hm4 fun j hj => .inl hj
    have hnw4 : ∀ k, IxS eb ts G1 k → IxS eb ts G k ∨ w.heap.size ≤ k := fun k hk => (hn4 k hk).imp id fun h => Nat.le_trans hb3.size h
    have hav4 : AttsV W4 W4.heap.size (.slice Ag A.length cg) A := AttsV.mono (AttsV.keepC hatv fun b off u _ hc => hMw4.cell hI.allMap hc) hMw4.size
    have hSo := fun W (hW : Below W4.heap.size W4 W) => sortedG_any _ A W (AttsV.mono (AttsV.keep hav4 hW) hW.size) hA7
    have hSt : ∀ W', Below W4.heap.size W4 W' → W'.cell? ⟨w.heap.size, 0, none⟩ = some (.string (B n)) ∧ W'.cell? ⟨w.heap.size, 1, none⟩ = some (.slice Ag A.length cg) ∧ Below W4.heap.size W4 W' := fun W' hW => ⟨cell_later hW r0, cell_later hW r1, hW⟩
    clear hDr
    go_cut [8] (fun v wx => ∃ (z : Nat) (A5 : Option Addr) (c5 : Nat) (ps : List (Idn.Att × Value)), v = .pointer (some ⟨z, 0, none⟩) ∧ Below W4.heap.size W4 wx ∧ AttOwn wx W4.heap.size (.slice A5 (Idn.rSorted A).length c5) ps ∧ ps.map (·.1) = Idn.rSorted A ∧ TwoC wx z (.string (B n)) (.slice A5 (Idn.rSorted A).length c5))
    case first =>
      clear hI hI3 hI4 hG hE hkeep hatv hav4
      go_region_held3 (fun W' => W'.cell? ⟨w.heap.size, 0, none⟩ = some (.string (B n)) ∧ W'.cell? ⟨w.heap.size, 1, none⟩ = some (.slice Ag A.length cg) ∧ Below W4.heap.size W4 W')
        (first | (refine hSt _ ?_; repeat (first | with_reducible exact Below.refl _ _ | with_reducible apply Below.drew | with_reducible refine Below.lay ?_ _ | with_reducible refine Below.setCell ?_ (by simp) _ | with_reducible refine Below.on ?_ hb5)))
        (first | (go_at_call 50; refine (hSo _ (by repeat (first | with_reducible exact Below.refl _ _ | with_reducible apply Below.drew | with_reducible refine Below.lay ?_ _))).mono ?_; rintro e W5 ⟨v5, ps, rfl, hao, hps, hb5⟩; obtain ⟨A5, c5, hsh, _⟩ := SlV.shape (hao.atts hps); subst hsh; first | have hn := two_new hb5 | skip))
      all_goals (go_wp2_with fail; go_meet)
      all_goals first
        | exact ⟨_, A5, c5, ps, rfl, And.right (And.right (by assumption)), (hao.keep ((Below.refl _ _).alloc (Nat.le_refl _) _)).lower (Nat.le_refl _), hps, twoCA _ _ _ _⟩
        | exact ⟨_, A5, c5, ps, rfl, And.right (And.right (by assumption)), ((hao.setB (by simp) _).setB (by simp) _).lower (by simp), hps, twoCB hn.1.1 hn.1.2 _ _⟩
    obtain ⟨W5, hW5⟩ : ∃ W5 : Nat, W5 = 0 := ⟨0, rfl⟩
    clear hW5 W5
    obtain ⟨z5, A5, c5, ps, rfl, hb46, hao, hps, t0, t1⟩ := hcut
    generalize wc = W6 at *
    replace r0 := cell_later hb46 r0
    replace r1 := cell_later hb46 r1
    clear hSt
    go_upto_region 13 with fail
    have hI6 := (hI4.keep hb46).keep (Below.refl _ W6).drew
    have hao6 := hao.keep (Below.refl _ W6).drew
    have hav6 : AttsV W6.drew W6.drew.heap.size (.slice A5 (Idn.rSorted A).length c5) (Idn.rSorted A) := hao6.atts hps
    have d0 : W6.drew.cell? ⟨w.heap.size, 0, none⟩ = some (.string (B n)) := r0
    have u0 : W6.drew.cell? ⟨z5, 0, none⟩ = some (.string (B n)) := t0
    have u1 : W6.drew.cell? ⟨z5, 1, none⟩ = some (.slice A5 (Idn.rSorted A).length c5) := t1
    have d2 : W6.drew.cell? ⟨px, 2, none⟩ = some (.map (some eb)) := hI6.c2
    have hb47 : Below W4.heap.size W4 W6.drew := hb46.drew
    clear r0 r1 t0 t1 hb46
    refine wp_tail_drew 7 (by kernel_rfl) (by kernel_rfl) ?_
    simp only [List.take_succ_cons, List.take_zero, List.drop_succ_cons, List.drop_zero]
    repeat still_step
    refine wpStill_nil ?_
    generalize W6.drew = W7 at *
    have hlo5 : lo ≤ W4.heap.size := hI4.loz
    go_upto_region 14 with (at_mapUpdate; refine wpList_putF _ rfl _ _ _ 75 rfl Tryz.underlying75 rfl hI6.ent (l := namesE (ixDrop es n)) (fun y hy => mem_names.2 (entF_ne.1 hy)) (hG.drop n).names_len n rfl hnm (.agg #[.string (B n), .slice A5 (Idn.rSorted A).length c5]) rfl ?_; intro W8 hm8 hv8)
    have hv8' : Mv (IxS eb ts G1) W7 W8 := hv8.mono fun k hk => .inl hk
    have hall7 := hI6.allMap
    replace d0 := hv8'.cell hall7 d0
    replace u0 := hv8'.cell hall7 u0
    replace u1 := hv8'.cell hall7 u1
    have hV8 := hI6.vl.mv hv8 (fun e => hI6.ebv (Eq.symm e)) (fun k hk => by have e : k = eb := hk; rw [e]; exact hI6.ebs)
    have hAe := rGet_small (aCheck_sorted hac) (rSorted_idem A)
    have hEa := each_any (w := W8) 52 #[.pointer (some ⟨w.heap.size, 0, none⟩)] fn_put1 px s ta cb n _ (Idn.rSorted A) true (fun t => lvE s (ixDrop es n) t ++ nV s t (Idn.rSorted A)) (n :: namesE (ixDrop es n))
      (hv8'.cell hall7 hI6.c0) (hv8'.cell hall7 hI6.c1) (hv8'.cell hall7 hI6.c3) (SchV.mono (hI6.sch.keepC fun b off u _ hc => hv8'.cell hall7 hc) (Nat.le_trans hI6.hsz hv8'.size)) hG.sm hV8 (hI6.tl (hG.drop n))
      (AttsV.mono (AttsV.keepC hav6 fun b off u _ hc => hv8'.cell hall7 hc) hv8'.size) (chk_sm (aCheck_sorted hac)) (fun a => ⟨Nat.le_trans (hAe a).1 (by decide), fun x hx => Nat.le_trans ((hAe a).2 x hx) (by decide)⟩)
      (fun W hW => hE W ((hv8'.trans hW fun j hj => .inl (.inr hj)).below hI6.lowS hI6.hsz |>.after hI4 hb47 hMw4 hI)) (fun t ht v m h => ⟨List.mem_append_left _ (GdI.mIn s (ixDrop es n) ts t ht v m h).1, List.mem_cons_of_mem _ (GdI.mIn s (ixDrop es n) ts t ht v m h).2⟩) (fun t _ v hv => List.mem_append_right _ hv) List.mem_cons_self
      (fun V G2 M2 t v hMV ht hV2 hv hM2 => put1_any hV2 ht v n w.heap.size (hMV.cell hV8.allMap d0) (by unfold maxLen; omega) hnm (hM2 t ht) (by rw [List.length_append]; have := (hG.drop n).lv_len t.1; have := nV_small (s := s) (aCheck_sorted hac) (rSorted_idem A) t.1; omega) (by have := (hG.drop n).len; unfold namesE; rw [List.length_cons, List.length_map]; omega))
    have hno : hasE (ixDrop es n) n = false := by rw [hasE_drop]; simp
    have hmix : (mixM s (Idn.rSorted A) n true (atB s (ixDrop es n)) fun _ => false) = atB s (insE n (Idn.rSorted A) (ixDrop es n)) := by
      funext t v m
      rw [atB_ins (drop_ok hG.ok n) hvn hno]
      unfold mixM
      by_cases hc : m = n ∧ (nV s t (Idn.rSorted A)).contains v = true
      · rw [if_pos ⟨rfl, hc.1, hc.2⟩, if_pos hc]
      · rw [if_neg (fun h => hc ⟨h.2.1, h.2.2⟩), if_neg hc]
    rw [hmix] at hEa
    have hfin : ∀ W9 G9, VlV W9 vb ts G9 (atB s (insE n (Idn.rSorted A) (ixDrop es n))) → Mv (VlS ts G1) W8 W9 → (∀ k, VlS ts G9 k → VlS ts G1 k ∨ W8.heap.size ≤ k) → ∃ g', IxV W9 hs lo px s ns (insE n (Idn.rSorted A) es) ta cb eb vb g' ts G9 ∧ Mv (IxS eb ts G) w W9 ∧ ∀ k, IxS eb ts G9 k → IxS eb ts G k ∨ w.heap.size ≤ k := fun W9 G9 hV9 hm9 hn9 => by
      have h79 : Mv (IxS eb ts G1) W7 W9 := hv8'.trans hm9 fun j hj => .inl (.inr hj)
      have hn79 : ∀ k, VlS ts G9 k → VlS ts G1 k ∨ W7.heap.size ≤ k := fun k hk => (hn9 k hk).imp id fun h => Nat.le_trans hv8'.size h
      have hw7 : w.heap.size ≤ W7.heap.size := Nat.le_trans hMw4.size hb47.size
      refine ⟨fun m => if m = n then .slice A5 (Idn.rSorted A).length c5 else g m, ?_, ((hMw4.then_below hb47).trans h79 hnw4), ?_⟩
      · rw [← ins_drop hG.ok hvn (Idn.rSorted A)]
        refine hI6.turned h79 ?_ (fun e he => ?_) hV9 hn79
        · rw [entF_ins (drop_ok hG.ok n) hvn]
          exact hm8.mv hm9 fun hk => hI6.ebs hk
        · rcases (insE_mem hvn (drop_ok hG.ok n) e).1 he with rfl | ⟨h1, h2⟩
          · refine ⟨ps, ?_, hps⟩
            simp only [if_true]
            exact (hao6.mv h79 fun k hk => .inr (hall7 k hk)).lower hlo5
          · obtain ⟨qs, h3, h4⟩ := hI6.att e h1
            refine ⟨qs, ?_, h4⟩
            simp only [if_neg h2]
            exact h3.mv h79 fun k hk => .inr (hall7 k hk)
      · rintro k (rfl | hk)
        · exact .inl (.inl rfl)
        · rcases hn79 k hk with h | h
          · exact hnw4 k (.inr h)
          · exact .inr (Nat.le_trans hw7 h)
    clear hmix hI hI3 hI4 hI6 hV8 hm8 hv8 hv8' hall7 hE hG hatv hSo hao hao6 hav4 hav6
    go_wp2_with (go_at_call 51; refine hEa.mono ?_; rintro e w5 ⟨rfl, G5, hV5, hm5, hn5⟩)
    go_ret
    obtain ⟨g', h1, h2, h3⟩ := hfin _ _ hV5 hm5 hn5
    rw [HF.out]
    exact ⟨rfl, g', G5, h1, h2, h3⟩
end
end Go.Proofs.YtgjllfonmgfhgaaGreatDoor
