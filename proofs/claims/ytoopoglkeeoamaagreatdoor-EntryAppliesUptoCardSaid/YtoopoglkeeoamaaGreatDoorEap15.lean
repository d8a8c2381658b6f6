/- Part 15 of the proof that identitylaw08.EntryApplies returns true: the package variables hold what the program lays; nothing else is asked. -/
import Derived.Test.YtoopoglkeeoamaaGreatDoorEap11
import Derived.Test.YtoopoglkeeoamaaGreatDoorEap13
import Derived.Test.YtoopoglkeeoamaaGreatDoorEap14
set_option linter.unusedVariables false
set_option linter.unusedSimpArgs false
set_option maxRecDepth 100000
set_option maxHeartbeats 8000000
/- schema: word, orNone, typeLine, classLine. -/
namespace Go.Proofs.YtoopoglkeeoamaaGreatDoor
open Go.RowKit Go.Sort
open Idn (L B Bs drop_L take_L size_L)
theorem L_app (s t : ByteArray) : L (s ++ t) = L s ++ L t := by
 show (s ++ t).data.toList = _
 rw [ByteArray.data_append]; simp [L]
theorem B_app (a b : Bs) : B a ++ B b = B (a ++ b) := by
 apply Idn.L_inj; rw [L_app]; rfl
theorem run_add {P : Program} {a b : Bs} {s t : ByteArray} (hs : s = B a) (ht : t = B b) (h : a.length + b.length ≤ 9223372036854775807) (w : World) : (Op.stringOp .add s t).run P w = .ok (.string (B (a ++ b))) w := by
 subst hs ht
 rw [run_string_add_sum w _ _ (by rw [Idn.size_B, Idn.size_B]; exact h), B_app]
end Go.Proofs.YtoopoglkeeoamaaGreatDoor
/- schema: classLine. -/
namespace Go.Proofs.YtoopoglkeeoamaaGreatDoor
open Go.RowKit Go.Sort
open Idn (L B Bs drop_L take_L size_L)
end Go.Proofs.YtoopoglkeeoamaaGreatDoor
/- Check, look, Type. -/
namespace Go.Proofs.YtoopoglkeeoamaaGreatDoor
open Go.RowKit Go.Sort
open Idn (L B Bs drop_L take_L size_L)
theorem gen2f {R : World → Prop} {w : World} {C1 C2 : Array Value} {t1 t2 : TypeId}
  (h : ∀ W, Below w.heap.size w W → W.heap.size = w.heap.size + 2 → (∀ (i : Nat) (v : Value), C1[i]? = some v → W.cell? ⟨w.heap.size, i, none⟩ = some v) → (∀ (i : Nat) (v : Value), C2[i]? = some v → W.cell? ⟨w.heap.size + 1, i, none⟩ = some v) → (∀ i, W.frozen? ⟨w.heap.size + 1, i, none⟩ = false) → R W) : R ((w.alloc (.cells C1 t1)).alloc (.cells C2 t2)) := by
 have e1 : (w.alloc (.cells C1 t1)).heap.size = w.heap.size + 1 := by simp
 have hnew : ((w.alloc (.cells C1 t1)).alloc (.cells C2 t2)).heap[w.heap.size + 1]? = some (.cells C2 t2 (0, 0)) := by
  rw [← e1]; exact heap_alloc_new _ _
 refine gen2 (R := fun W => W = ((w.alloc (.cells C1 t1)).alloc (.cells C2 t2)) → R W) (fun W a b c d e => ?_) rfl
 subst e
 exact h _ a b c d (fun i => Lib.frozen_of_heap hnew i)
theorem MapV.one {w : World} {v : Value} {l : List (Bs × Value)} (h : MapV w v l) : v.oneCell' = true := by
 rcases h with ⟨rfl, _⟩ | ⟨b, rfl, _⟩ <;> rfl
theorem MapV.shape {w : World} {v : Value} {l : List (Bs × Value)} (h : MapV w v l) : ∃ o, v = .map o := by
 rcases h with ⟨rfl, _⟩ | ⟨b, rfl, _⟩ <;> exact ⟨_, rfl⟩
theorem KnV.shape {w : World} {hi : Nat} {m1 m2 : Value} {s : Idn.Sch} (h : KnV w hi m1 m2 s) : ∃ o1 o2, m1 = .map o1 ∧ m2 = .map o2 := by
 obtain ⟨o1, h1⟩ := h.1.shape
 obtain ⟨es, h2, _⟩ := h.2
 obtain ⟨o2, h2⟩ := h2.shape
 exact ⟨o1, o2, h1, h2⟩
theorem MapV.set2 {w : World} {m : Value} {l : List (Bs × Value)} (h : MapV w m l) {p i : Nat} {x : Value} (hc : w.cell? ⟨p, i, none⟩ = some x) (v u : Value) {j k : Nat} : MapV ((w.setCell ⟨p, j, none⟩ v).setCell ⟨p, k, none⟩ u) m l := by
 rcases h with h | ⟨b, h1, h2⟩
 ·exact .inl h
 ·exact .inr ⟨b, h1, (h2.set v (h2.ne hc)).set u (h2.ne hc)⟩
theorem KnV.set2 {w : World} {hi : Nat} {m1 m2 : Value} {s : Idn.Sch} (h : KnV w hi m1 m2 s) {p i : Nat} {x : Value} (hc : w.cell? ⟨p, i, none⟩ = some x) (v u : Value) {j k : Nat} (hp : hi ≤ p) : KnV ((w.setCell ⟨p, j, none⟩ v).setCell ⟨p, k, none⟩ u) hi m1 m2 s := by
 obtain ⟨h1, es, h2, h3⟩ := h
 exact ⟨h1.set2 hc v u, es, h2.set2 hc v u, h3.keep ⟨rfl, rfl, rfl, by simp, fun q hq => by
  rw [Below.heap_setCell _ _ _ _ (by show q ≠ p; omega), Below.heap_setCell _ _ _ _ (by show q ≠ p; omega)]⟩⟩
theorem KnV.keep {w w' : World} {hi : Nat} {m1 m2 : Value} {s : Idn.Sch} (h : KnV w hi m1 m2 s) (hb : Below w.heap.size w w') (hh : hi ≤ w.heap.size) : KnV w' hi m1 m2 s := by
 obtain ⟨h1, es, h2, h3⟩ := h
 exact ⟨h1.keep hb, es, h2.keep hb, h3.keep (hb.mono hh)⟩
theorem look_any (v : Value) (s : Idn.Sch) (w : World) (hv : SchV w w.heap.size v s) (hs : SSm s) :
  Calls Tryz.prog 98 #[v] w fun e w' => ∃ m1 m2, e = .returned (.agg #[m1, m2]) ∧ Below w.heap.size w w' ∧ KnV w' w.heap.size m1 m2 (sound s) := by
 have hE := fun W (hW : Below w.heap.size w W) => examine_any v s W w.heap.size hW.size (SchV.keep hv hW) hs
 have hv0 := hv
 obtain ⟨a, b, rfl, hT, hC⟩ := hv
 obtain ⟨A, ca, rfl, hca⟩ := SlV.shape hT
 obtain ⟨A', cb, rfl, hcb⟩ := SlV.shape hC
 clear hT hC hv0
 go_enter Tryz.func98, Tryz.ntmps98
 go_wp2_with fail
 with_reducible refine gen2f (R := fun W => Calls Tryz.prog 162 _ W _) ?_
 intro W hbW hszW _ hc2 hf2
 have r0 := hc2 0 _ rfl
 have r1 := hc2 1 _ rfl
 have hf : W.frozen? ⟨w.heap.size + 1, 0, none⟩ = false ∧ W.frozen? ⟨w.heap.size + 1, 1, none⟩ = false := ⟨hf2 0, hf2 1⟩
 clear hc2 hf2
 refine (hE W hbW).mono ?_
 rintro e w1 ⟨m1, m2, rfl, hb1, hk⟩
 obtain ⟨o1, o2, rfl, rfl⟩ := hk.shape
 have hbw1 := hbW.trans (hb1.mono hbW.size)
 have ba := hb1.alloc hb1.size (.cells #[.map o1, .map o2] 119)
 have R0 := cell_later ba r0
 have R1 := cell_later ba r1
 have G0 := (ba.frozen (p := ⟨w.heap.size + 1, 0, none⟩) (by show w.heap.size + 1 < _; omega)).trans hf.1
 have G1 := (ba.frozen (p := ⟨w.heap.size + 1, 1, none⟩) (by show w.heap.size + 1 < _; omega)).trans hf.2
 have hbwa := hbW.trans (ba.mono hbW.size)
 have hk' := hk.keep ((Below.refl w1.heap.size w1).alloc (Nat.le_refl _) (.cells #[.map o1, .map o2] 119)) (Nat.le_trans hbW.size hb1.size)
 clear ba hf r0 r1 hE
 have hz : w.heap.size + 1 < w.heap.size + 2 := by omega
 go_wp2
 exact bodyPost_ret (v := .agg #[.map o1, .map o2]) (by simp [results, Tryz.results98, go_sem, R0, R1, G0, G1]) rfl ⟨_, _, rfl, (hbwa.setCell (by simp) _).setCell (by simp) _, hk'.set2 R0 _ _ (by omega)⟩
end Go.Proofs.YtoopoglkeeoamaaGreatDoor
/- schema.Type. -/
namespace Go.Proofs.YtoopoglkeeoamaaGreatDoor
open Go.RowKit Go.Sort
open Idn (L B Bs drop_L take_L size_L)
def tyLook (s : Idn.Sch) (n : Bs) : Idn.AT × Bool :=
  match Idn.ixT s.types n with
  | none => (⟨[], 0, false⟩, false)
  | some k => match s.types[k]? with
    | none => (⟨[], 0, false⟩, false)
    | some t => (t, true)
theorem tyLook_lk (s : Idn.Sch) (n : Bs) : (lk (tyE s.types) (Idn.lower n)).getD (.agg #[.string ⟨#[]⟩, .int .i64 0, .bool false]) = tyV (tyLook s n).1 ∧ (lk (tyE s.types) (Idn.lower n)).isSome = (tyLook s n).2 := by
  unfold tyLook
  cases h : Idn.ixT s.types n with
  | none => rw [lk_ty_none h]; exact ⟨rfl, rfl⟩
  | some k =>
    obtain ⟨t, ht, h2⟩ := lk_ty_some h
    rw [h2]
    simp only [ht]
    exact ⟨rfl, rfl⟩
theorem field_known (o1 o2 : Option Nat) (w : World) : (Instr.field 119 (.agg #[.map o1, .map o2]) 0).run Tryz.prog w = .ok (.map o1) w := by kernel_rfl
theorem type_any (v : Value) (s : Idn.Sch) (n : ByteArray) (w : World) (hv : SchV w w.heap.size v s) (hs : SSm s) (hn : n.size ≤ 1000000000) :
  Calls Tryz.prog 114 #[v, .string n] w fun e w' => e = .returned (.tuple #[tyV (tyLook (sound s) (L n)).1, .bool (tyLook (sound s) (L n)).2]) ∧ Below w.heap.size w w' := by
 have hE := fun W (hW : Below w.heap.size w W) => look_any v s W (SchV.mono (SchV.keep hv hW) hW.size) hs
 have hl := fun W => lower_any n W (by omega)
 obtain ⟨hva, hsome⟩ := tyLook_lk (sound s) (L n)
 generalize tyLook (sound s) (L n) = rr at *
 obtain ⟨⟨ta, tb, tc⟩, td⟩ := rr
 unfold tyV at hva ⊢
 simp only [sv] at hva ⊢
 obtain ⟨a, b, rfl, hT, hC⟩ := hv
 obtain ⟨A, ca, rfl, hca⟩ := SlV.shape hT
 obtain ⟨A', cb, rfl, hcb⟩ := SlV.shape hC
 clear hT hC
 go_enter Tryz.func114, Tryz.ntmps114
 go_wp2_with fail
 with_reducible refine gen2f (R := fun W => Calls Tryz.prog 98 _ W _) ?_
 intro W hbW hszW _ hc2 hf2
 have r0 := hc2 0 _ rfl
 have r1 := hc2 1 _ rfl
 have r2 := hc2 2 _ rfl
 have hf : W.frozen? ⟨w.heap.size + 1, 0, none⟩ = false ∧ W.frozen? ⟨w.heap.size + 1, 1, none⟩ = false ∧ W.frozen? ⟨w.heap.size + 1, 2, none⟩ = false := ⟨hf2 0, hf2 1, hf2 2⟩
 clear hc2 hf2
 refine (hE W hbW).mono ?_
 rintro e w1 ⟨m1, m2, rfl, hb1, hk⟩
 obtain ⟨o1, o2, rfl, rfl⟩ := hk.shape
 have hfd := field_known o1 o2 w1
 go_wp2_with fail
 refine (hl w1).mono ?_
 rintro e w2 ⟨rfl, hb2⟩
 have hk2 := hk.1.keep hb2
 have hb12 : Below W.heap.size W w2 := hb1.trans (hb2.mono hb1.size)
 have ba := hb12.alloc hb12.size (.cells #[.string (B ta), .int .i64 tb, .bool tc] 65)
 have R0 := cell_later ba r0
 have R1 := cell_later ba r1
 have R2 := cell_later ba r2
 have G0 := (ba.frozen (p := ⟨w.heap.size + 1, 0, none⟩) (by show w.heap.size + 1 < _; omega)).trans hf.1
 have G1 := (ba.frozen (p := ⟨w.heap.size + 1, 1, none⟩) (by show w.heap.size + 1 < _; omega)).trans hf.2.1
 have G2 := (ba.frozen (p := ⟨w.heap.size + 1, 2, none⟩) (by show w.heap.size + 1 < _; omega)).trans hf.2.2
 have hbwa := hbW.trans (ba.mono hbW.size)
 have hne : w.heap.size + 1 ≠ w2.heap.size := by have := hb12.size; omega
 clear ba hf r0 r1 r2 hE hl
 rw [← Idn.L_B (Idn.lower (L n))] at hva hsome
 go_wp2_with (at_lookup; refine wpList_look w2 rfl _ _ 116 rfl 9 65 Tryz.underlying9 Tryz.underlying116 (zeroAT _) hk2 rfl (B (Idn.lower (L n))) rfl hva hsome ?_)
 exact bodyPost_ret (v := .tuple #[.agg #[.string (B ta), .int .i64 tb, .bool tc], .bool td]) (by simp [results, Tryz.results114, go_sem, R0, R1, R2, G0, G1, G2, hne]) rfl ⟨rfl, ((hbwa.setCell (by simp) _).setCell (by simp) _).setCell (by simp) _⟩
end Go.Proofs.YtoopoglkeeoamaaGreatDoor
/- lineage: what the maps hand over. -/
namespace Go.Proofs.YtoopoglkeeoamaaGreatDoor
open Go.RowKit Go.Sort
open Idn (L B Bs drop_L take_L size_L)
def zCl : Value := .agg #[.string ⟨#[]⟩, .string ⟨#[]⟩, .slice none 0 0, .slice none 0 0]
def valAt (es : List (Bs × Value)) (o : Option Nat) : Value := ((o.bind fun k => es[k]?).map (·.2)).getD zCl
theorem lk_val {es : List (Bs × Value)} {l : List Idn.Cl} (h : ClK es l) (n : Bs) : (lk es (Idn.lower n)).getD zCl = valAt es (Idn.ixC l n) := by
 rw [← h.idx, lk, find_ix]; rfl
theorem ClSh.val {es : List (Bs × Value)} (h : ClSh es) (o : Option Nat) : ∃ a b A k c A' k' c', valAt es o = .agg #[.string a, .string b, .slice A k c, .slice A' k' c'] := by
  unfold valAt
  cases o with
  | none => exact ⟨_, _, _, _, _, _, _, _, rfl⟩
  | some k =>
    simp only [Option.bind_some]
    cases hx : es[k]? with
    | none => exact ⟨_, _, _, _, _, _, _, _, rfl⟩
    | some p =>
      obtain ⟨a, b, A, k, c, A', k', c', h'⟩ := h p (List.mem_of_getElem? hx)
      exact ⟨a, b, A, k, c, A', k', c', by simp [h']⟩
def cellsAt (es : List (Bs × Value)) (k : Nat) : List Value := match valAt es (some k) with | .agg cs => cs.toList | _ => []
theorem ClsIs.val {w : World} {hi : Nat} {es : List (Bs × Value)} {l : List Idn.Cl} (h : ClsIs w hi es l) {k : Nat} (hk : k < l.length) :
  ∃ v u, valAt es (some k) = .agg #[.string (B l[k].name), .string (B l[k].super), v, u] ∧ cellsAt es k = [sv l[k].name, sv l[k].super, v, u] ∧ StrsV w hi v l[k].must ∧ StrsV w hi u l[k].may := by
 obtain ⟨v, u, h1, h2, h3⟩ := h.2 k l[k] (List.getElem?_eq_getElem hk)
 have e : valAt es (some k) = .agg #[.string (B l[k].name), .string (B l[k].super), v, u] := by simp [valAt, h1]
 exact ⟨v, u, e, by rw [cellsAt, e]; rfl, h2, h3⟩
theorem MapV.eqn {w : World} {m2 : Value} {es : List (Bs × Value)} {l : List Idn.Cl} (h : MapV w m2 es) (hK : ClK es l) (n : Bs) :
  (Instr.lookup 117 m2 (.string (B (Idn.lower n))) true).run Tryz.prog w = .ok (.tuple #[valAt es (Idn.ixC l n), .bool (Idn.ixC l n).isSome]) w := by
 have := h.run (P := Tryz.prog) Tryz.underlying9 Tryz.underlying117 (zeroCL _) (B (Idn.lower n))
 rw [Idn.L_B] at this
 rw [this]
 have e1 := lk_val hK n
 unfold zCl at e1
 rw [e1, hK.lk n]
theorem cells_read {w : World} {hi : Nat} {es : List (Bs × Value)} {l : List Idn.Cl} (h : ClsIs w hi es l) : ∀ (acc : List Nat), (∀ k ∈ acc, k < l.length) →
    (acc.filterMap (l[·]?)).length = acc.length ∧ (acc.flatMap (cellsAt es)).length = acc.length * 4 ∧ ∀ (i : Nat) (x : Idn.Cl), (acc.filterMap (l[·]?))[i]? = some x → ∃ cs : List Value, cs.length = 4 ∧ EC w hi x cs ∧ ∀ (j : Nat) (u : Value), cs[j]? = some u → (acc.flatMap (cellsAt es))[i * 4 + j]? = some u
  | [], _ => ⟨rfl, rfl, fun i x hx => by simp at hx⟩
  | k :: acc, hb => by
    obtain ⟨ih1, ih0, ih⟩ := cells_read h acc (fun j hj => hb j (List.mem_cons_of_mem _ hj))
    have hk := hb k List.mem_cons_self
    obtain ⟨v, u, e1, e2, hv, hu⟩ := h.val hk
    have hf : (k :: acc).filterMap (l[·]?) = l[k] :: acc.filterMap (l[·]?) := by simp [List.filterMap_cons, hk]
    refine ⟨by rw [hf]; simp [ih1], by simp [e2, ih0]; omega, fun i x hx => ?_⟩
    rw [hf] at hx
    cases i with
    | zero =>
      simp at hx
      subst hx
      refine ⟨[sv l[k].name, sv l[k].super, v, u], rfl, ⟨v, u, rfl, hv, hu⟩, fun j u' hj => ?_⟩
      have hj4 : j < 4 := (List.getElem?_eq_some_iff.1 hj).1
      rw [List.flatMap_cons, e2, List.getElem?_append_left (by simp; omega)]
      simpa using hj
    | succ i =>
      simp only [List.getElem?_cons_succ] at hx
      obtain ⟨cs, h1, h2, h3⟩ := ih i x hx
      refine ⟨cs, h1, h2, fun j u' hj => ?_⟩
      rw [List.flatMap_cons, e2, List.getElem?_append_right (by simp; omega)]
      have := h3 j u' hj
      rw [← this]
      congr 1
      simp
      omega
end Go.Proofs.YtoopoglkeeoamaaGreatDoor
/- lineage: the walk. -/
namespace Go.Proofs.YtoopoglkeeoamaaGreatDoor
open Go.RowKit Go.Sort
open Idn (L B Bs drop_L take_L size_L)
theorem info_cl : (Tryz.prog.info? 67).map (fun i => (i.zero, i.size, i.bytes)) = some (some zCl, 4, 80) := by kernel_rfl
def FourAt (X : World) (p : Nat) (a b c d : Value) : Prop :=
 (X.cell? ⟨p, 0, none⟩ = some a ∧ X.cell? ⟨p, 1, none⟩ = some b ∧ X.cell? ⟨p, 2, none⟩ = some c ∧ X.cell? ⟨p, 3, none⟩ = some d) ∧
 (X.frozen? ⟨p, 0, none⟩ = false ∧ X.frozen? ⟨p, 1, none⟩ = false ∧ X.frozen? ⟨p, 2, none⟩ = false ∧ X.frozen? ⟨p, 3, none⟩ = false) ∧ p < X.heap.size
theorem fourA (W : World) (a b c d : Value) (t : TypeId) : FourAt (W.alloc (.cells #[a, b, c, d] t)) W.heap.size a b c d := by
 have e := heap_alloc_new W (.cells #[a, b, c, d] t)
 refine ⟨⟨?_, ?_, ?_, ?_⟩, ⟨Lib.frozen_of_heap e 0, Lib.frozen_of_heap e 1, Lib.frozen_of_heap e 2, Lib.frozen_of_heap e 3⟩, by simp⟩
 ·rw [cell_of_row _ W.heap.size 0 _ _ (0, 0) e]; rfl
 ·rw [cell_of_row _ W.heap.size 1 _ _ (0, 0) e]; rfl
 ·rw [cell_of_row _ W.heap.size 2 _ _ (0, 0) e]; rfl
 ·rw [cell_of_row _ W.heap.size 3 _ _ (0, 0) e]; rfl
theorem fourB {W : World} {p : Nat} {a0 b0 c0 d0 : Value} (h : FourAt W p a0 b0 c0 d0) (a b c d : Value) : FourAt ((((W.setCell ⟨p, 0, none⟩ a).setCell ⟨p, 1, none⟩ b).setCell ⟨p, 2, none⟩ c).setCell ⟨p, 3, none⟩ d) p a b c d := by
 obtain ⟨⟨h0, h1, h2, h3⟩, ⟨g0, g1, g2, g3⟩, hl⟩ := h
 refine ⟨⟨by simp [go_sem, h0, h1, h2, h3], by simp [go_sem, h0, h1, h2, h3], by simp [go_sem, h0, h1, h2, h3], by simp [go_sem, h0, h1, h2, h3]⟩, ⟨by simp [g0], by simp [g1], by simp [g2], by simp [g3]⟩, by simpa using hl⟩
theorem genF {R : World → Prop} {lo p : Nat} {W X : World} {a b c d : Value} (h : ∀ X, Below lo W X → FourAt X p a b c d → R X) (hb : Below lo W X) (hf : FourAt X p a b c d) : R X := h X hb hf
theorem But.own {p : Nat} {w w1 w2 : World} (h : But p w w1) (hb : Below w.heap.size w1 w2) : But p w w2 :=
 ⟨hb.os.trans h.os, hb.tape.trans h.tape, hb.output.trans h.output, Nat.le_trans h.size hb.size, fun k hk hp => (hb.block k hk).trans (h.block k hk hp)⟩
theorem But.drew {p : Nat} {w w1 : World} (h : But p w w1) : But p w w1.drew := ⟨h.os, h.tape, h.output, h.size, h.block⟩
theorem But.put {p i : Nat} {w w1 : World} (h : But p w w1) (v : Value) : But p w (w1.setCell ⟨p, i, none⟩ v) :=
 ⟨h.os, h.tape, h.output, by simpa using h.size, fun k hk hp => by rw [Below.heap_setCell _ _ _ _ hp]; exact h.block k hk hp⟩
theorem But.on {p : Nat} {w w1 w2 : World} (h : But p w w1) (hb : Below w1.heap.size w1 w2) : But p w w2 := h.own (hb.mono h.size)
theorem own_but {w w' : World} {base p : Nat} {e : TypeId} {size : Nat} {v : Value} {n : Nat} {xs : List Value} (h : w.ownsRow base e size v n xs) (hb : But p w w') (hp : p < base) : w'.ownsRow base e size v n xs := by
 refine ⟨h.1, ?_⟩
 rcases h.2 with hn | ⟨g, cap, cur, rfl, hb', hgg, rest⟩
 ·exact .inl hn
 ·exact .inr ⟨g, cap, cur, rfl, hb', by rw [hb.block g (Array.getElem?_eq_some_iff.1 hgg).1 (by omega)]; exact hgg, rest⟩
theorem FourAt.keep {X Y : World} {p : Nat} {a b c d : Value} (h : FourAt X p a b c d) {lo : Nat} (hb : Below lo X Y) (hp : p < lo) : FourAt Y p a b c d := by
 obtain ⟨⟨h0, h1, h2, h3⟩, ⟨g0, g1, g2, g3⟩, hl⟩ := h
 exact ⟨⟨(hb.cell (p := ⟨p, 0, none⟩) hp).trans h0, (hb.cell (p := ⟨p, 1, none⟩) hp).trans h1, (hb.cell (p := ⟨p, 2, none⟩) hp).trans h2, (hb.cell (p := ⟨p, 3, none⟩) hp).trans h3⟩,
  ⟨(hb.frozen (p := ⟨p, 0, none⟩) hp).trans g0, (hb.frozen (p := ⟨p, 1, none⟩) hp).trans g1, (hb.frozen (p := ⟨p, 2, none⟩) hp).trans g2, (hb.frozen (p := ⟨p, 3, none⟩) hp).trans g3⟩, Nat.lt_of_lt_of_le hl hb.size⟩
def LinV (w : World) (base hi : Nat) (v : Value) (l : List Idn.Cl) : Prop :=
 ∃ xs, w.ownsRow base 67 4 v l.length xs ∧ ∀ (i : Nat) (x : Idn.Cl), l[i]? = some x → ∃ cs : List Value, cs.length = 4 ∧ EC w hi x cs ∧ ∀ (j : Nat) (u : Value), cs[j]? = some u → xs[i * 4 + j]? = some u
theorem LinV.cls {w : World} {base hi : Nat} {v : Value} {l : List Idn.Cl} (h : LinV w base hi v l) (hhi : hi ≤ w.heap.size) : ClassesV w w.heap.size v l := by
 obtain ⟨xs, h1, h2⟩ := h
 exact SlV.keepE (SlV.own h1 h2) (Below.refl _ _) fun _ _ _ he => he.mono hhi
theorem own_base {w : World} {base base' : Nat} {e : TypeId} {size : Nat} {v : Value} {n : Nat} {xs : List Value} (h : w.ownsRow base e size v n xs) (hb : base' ≤ base) : w.ownsRow base' e size v n xs := by
 refine ⟨h.1, ?_⟩
 rcases h.2 with hn | ⟨g, cap, cur, rfl, hb', rest⟩
 ·exact .inl hn
 ·exact .inr ⟨g, cap, cur, rfl, by omega, rest⟩
theorem LinV.base {w : World} {base base' hi : Nat} {v : Value} {l : List Idn.Cl} (h : LinV w base hi v l) (hb : base' ≤ base) : LinV w base' hi v l := by
 obtain ⟨xs, h1, h2⟩ := h
 exact ⟨xs, own_base h1 hb, h2⟩
theorem cls_out {w : World} {hi base : Nat} {es : List (Bs × Value)} {l : List Idn.Cl} {acc : List Nat} {v : Value} (h : ClsIs w hi es l) (_hhi : hi ≤ w.heap.size) (ha : ∀ k ∈ acc, k < l.length) (hown : w.ownsRow base 67 4 v acc.length (acc.flatMap (cellsAt es))) :
  LinV w base hi v (acc.filterMap (l[·]?)) := by
 obtain ⟨h1, _, h2⟩ := cells_read h acc ha
 rw [← h1] at hown
 exact ⟨_, hown, h2⟩
theorem lineage_lin (m1 m2 : Value) (s : Idn.Sch) (hi : Nat) (n : ByteArray) (w : World) (hk : KnV w hi m1 m2 s) (hh : hi ≤ w.heap.size) (hd : Idn.Dec s.classes) (hs : SSm s) (hn : n.size ≤ 1000000000) :
    Calls Tryz.prog 213 #[.agg #[m1, m2], .string n] w fun e w' => ∃ v, e = .returned v ∧ Below w.heap.size w w' ∧ LinV w' w.heap.size hi v ((Idn.lin s (L n)).filterMap (s.classes[·]?)) := by
  obtain ⟨o1, o2, rfl, rfl⟩ := hk.shape
  obtain ⟨_, es, hm, hcls⟩ := hk
  have hK := hcls.K
  have hl := fun W => lower_any n W (by omega)
  obtain ⟨ua, ub, A3, k3, c3, A4, k4, c4, hua⟩ := hcls.Sh.val (Idn.ixC s.classes (L n))
  go_enter Tryz.func213, Tryz.ntmps213
  go_wp2
  with_reducible refine gen1 (R := fun W => Code.wp Tryz.prog _ _ _ W) ?_
  intro W hbW hszW hc1 _
  have b1 := hc1 1 _ rfl
  clear hc1
  have hmW := hm.keep hbW
  have hS : ∀ W', Below W.heap.size W W' → W'.cell? ⟨w.heap.size, 1, none⟩ = some (.map o2) ∧ (Instr.lookup 117 (.map o2) (.string (B (Idn.lower (L n)))) true).run Tryz.prog W' = .ok (.tuple #[.agg #[.string ua, .string ub, .slice A3 k3 c3, .slice A4 k4 c4], .bool (Idn.ixC s.classes (L n)).isSome]) W' ∧ Below W.heap.size W W' := fun W' hW => by
    refine ⟨cell_later hW b1, ?_, hW⟩
    have := (hmW.keep hW).eqn hK (L n)
    rw [hua] at this
    exact this
  have hlow : w.heap.size < W.heap.size := by omega
  clear hszW
  generalize hq : Idn.ixC s.classes (L n) = q at *
  generalize hsb : q.isSome = sb at *
  have hw0 := Below.refl W.heap.size W
  go_region_held3 (fun W' => W'.cell? ⟨w.heap.size, 1, none⟩ = some (.map o2) ∧ (Instr.lookup 117 (.map o2) (.string (B (Idn.lower (L n)))) true).run Tryz.prog W' = .ok (.tuple #[.agg #[.string ua, .string ub, .slice A3 k3 c3, .slice A4 k4 c4], .bool sb]) W' ∧ Below W.heap.size W W')
    (first | (refine hS _ ?_; repeat (first | with_reducible exact Below.refl _ _ | with_reducible apply Below.drew | with_reducible refine Below.lay ?_ _ | with_reducible refine Below.setCell ?_ (by simp) _ | with_reducible refine Below.on ?_ hb3)))
    (first | (go_at_call 49; refine (hl _).mono ?_; rintro e w3 ⟨rfl, hb3⟩; first | have hn4 := four_new hb3 | skip))
  all_goals
    first
    | (with_reducible refine genF (R := fun X => Exit.then _ _ _ _ X) (lo := W.heap.size) (W := W) (p := w3.heap.size) ?_ (by repeat (first | with_reducible exact Below.refl _ _ | with_reducible apply Below.drew | with_reducible refine Below.lay ?_ _ | with_reducible refine Below.setCell ?_ (by simp) _ | with_reducible refine Below.on ?_ hb3)) (fourA _ _ _ _ _ _)
       intro X hbX hF
       have hple : W.heap.size ≤ w3.heap.size := hb3.size
       generalize w3.heap.size = p at hple hF ⊢)
    | (have hF0 : FourAt w3 W.heap.size _ _ _ _ := ⟨hn4.1, hn4.2, World.block_lt_of_cell? w3 _ hn4.1.1⟩
       with_reducible refine genF (R := fun X => Exit.then _ _ _ _ X) (lo := W.heap.size) (W := W) (p := W.heap.size) ?_ (by repeat (first | with_reducible exact Below.refl _ _ | with_reducible apply Below.drew | with_reducible refine Below.lay ?_ _ | with_reducible refine Below.setCell ?_ (by simp) _ | with_reducible refine Below.on ?_ hb3)) (fourB hF0 _ _ _ _)
       intro X hbX hF
       have hple : W.heap.size ≤ W.heap.size := Nat.le_refl _
       obtain ⟨p, hp⟩ : ∃ p, p = W.heap.size := ⟨_, rfl⟩
       rw [← hp] at hF ⊢
       have hple : W.heap.size ≤ p := by omega
       clear hp)
    have b1X := cell_later hbX b1
    have hmX := hmW.keep hbX
    have hbwX := hbW.trans (hbX.mono hbW.size)
    clear hS hw0 hl
    have hlen := hs.2.1
    go_wp2
    go_loopg [5, 7] s.classes.length (fun gg v ok wr => ∃ (acc : List Nat) (o : Option Nat) (a b : ByteArray) (A : Option Addr) (k c : Nat) (A' : Option Addr) (k' c' : Nat), ok = .bool o.isSome ∧ wr.ownsRow X.heap.size 67 4 v acc.length (acc.flatMap (cellsAt es)) ∧ FourAt wr p (.string a) (.string b) (.slice A k c) (.slice A' k' c') ∧ But p X wr ∧
      Aside (valAt es o = .agg #[.string a, .string b, .slice A k c, .slice A' k' c']) ∧ Aside (∀ j ∈ acc, j < s.classes.length) ∧ Aside (∀ j, o = some j → j < gg) ∧ acc.length + gg ≤ s.classes.length ∧ Aside (acc ++ Idn.linK s.classes gg o = Idn.lin s (L n)))
    case atStart =>
      refine ⟨[], q, ua, ub, A3, k3, c3, A4, k4, c4, by rw [hsb], World.ownsRow_nil _ _ _ _, hF, But.refl _ _, hua, fun j hj => by simp at hj, fun j hj => ?_, by simp, by show _ = _; rw [Idn.lin, hq]; rfl⟩
      rw [← hq] at hj
      exact Idn.ixC_lt _ _ _ hj
    case round =>
      obtain ⟨acc, o, a, b, A, k, c, A', k', c', rfl, hown, hF4, hbt, hval, hacc, hog, hag, hinv⟩ := hrel
      have hbwr : Below w.heap.size w wr := hbwX.trans (hbt.below (by omega) (by have := hbX.size; omega))
      cases o with
      | none =>
        have HF : Hid (Idn.lin s (L n) = acc) := by show _ = _; rw [← hinv.out, Idn.linK_none, List.append_nil]
        have hcl := cls_out (hcls.keep (hbwr.mono hh)) (Nat.le_trans hh hbwr.size) hacc.out hown
        clear hinv hval hog hacc
        go_wp2
        go_ret
        exact ⟨_, rfl, hbwr, by rw [HF.out]; exact hcl.base hbwX.size⟩
      | some i =>
        have hig := hog.out i rfl
        have hil : i < s.classes.length := by omega
        obtain ⟨vv, uu, e1, e2, _, _⟩ := hcls.val hil
        have hb0 : b = B s.classes[i].super := by
          rw [hval.out] at e1
          injection e1 with e1
          have e1 := congrArg Array.toList e1
          simp only [List.cons.injEq] at e1
          injection e1.2.1
        have hcell : cellsAt es i = [.string a, .string b, .slice A k c, .slice A' k' c'] := by rw [cellsAt, hval.out]
        have hup : Idn.up1 s.classes i = if s.classes[i].super.isEmpty then none else Idn.ixC s.classes s.classes[i].super := by rw [Idn.up1]; simp [hil]
        have hstep : acc ++ [i] ++ Idn.linK s.classes (gk - 1) (Idn.up1 s.classes i) = Idn.lin s (L n) := by
          rw [← hinv.out, show gk = (gk - 1) + 1 by omega, Idn.linK_some, Nat.add_sub_cancel]; simp
        have hdec := hd i
        have hsl : b.size ≤ 1000000000 := by rw [hb0, Idn.size_B]; exact (hs.2.2 s.classes[i] (List.getElem_mem hil)).2.1
        have hLb : L b = s.classes[i].super := by rw [hb0, Idn.L_B]
        have hemp : b.toList.isEmpty = s.classes[i].super.isEmpty := by rw [toList_L, hLb]
        rw [← hLb] at hup
        have Hstep := Lib.hid hstep
        have Hup := Lib.hid hup
        have Hcell := Lib.hid hcell
        have hacc' : Aside (∀ j ∈ acc ++ [i], j < s.classes.length) := fun j hj => by
          rcases List.mem_append.1 hj with hj | hj
          · exact hacc.out j hj
          · simp at hj; omega
        clear hstep hup hcell e1 e2 hinv hacc hval hog hb0
        obtain ⟨⟨q0, q1, q2, q3⟩, ⟨f0, f1, f2, f3⟩, hpl⟩ := hF4
        have hbs := hbt.size
        go_wp2_with (at_builtin; refine wpList_push wr rfl _ _ 30 rfl X.heap.size 67 zCl 4 80 Tryz.underlying30 info_cl rfl (by decide) _ acc.length _ hown rfl [.string a, .string b, .slice A k c, .slice A' k' c'] rfl rfl (by intro u hu; simp at hu; rcases hu with rfl | rfl | rfl | rfl <;> rfl) (by omega) hbs ?_ rfl)
        intro v' w1 hown' _ _ hb' _
        have hbt' := hbt.own hb'
        have hF5 : FourAt w1 p (.string a) (.string b) (.slice A k c) (.slice A' k' c') := FourAt.keep ⟨⟨q0, q1, q2, q3⟩, ⟨f0, f1, f2, f3⟩, hpl⟩ hb' hF.2.2
        have hF5d : FourAt w1.drew p (.string a) (.string b) (.slice A k c) (.slice A' k' c') := hF5
        obtain ⟨⟨q0', q1', q2', q3'⟩, ⟨f0', f1', f2', f3'⟩, hpl'⟩ := hF5
        clear hown q0 q1 q2 q3 f0 f1 f2 f3 hbt hbwr
        have hbw1 : Below w.heap.size w w1 := hbwX.trans (hbt'.below (by omega) (by have := hbX.size; omega))
        have hown2 : w1.ownsRow X.heap.size 67 4 v' (acc ++ [i]).length ((acc ++ [i]).flatMap (cellsAt es)) := by
          rw [List.flatMap_append, List.length_append]
          simpa [Hcell.out] using hown'
        clear hown'
        cases he : s.classes[i].super.isEmpty
        · rw [he] at hemp
          have hup2 : Idn.up1 s.classes i = Idn.ixC s.classes (L b) := by rw [Hup.out, hLb, if_neg (by simp [he])]
          have hl2 := fun W => lower_any b W (by omega)
          obtain ⟨a2, b2, A5, k5, c5, A6, k6, c6, hv2⟩ := hcls.Sh.val (Idn.ixC s.classes (L b))
          have hS : ∀ W', But p w1 W' → W'.cell? ⟨w.heap.size, 1, none⟩ = some (.map o2) ∧ (Instr.lookup 117 (.map o2) (.string (B (Idn.lower (L b)))) true).run Tryz.prog W' = .ok (.tuple #[.agg #[.string a2, .string b2, .slice A5 k5 c5, .slice A6 k6 c6], .bool (Idn.ixC s.classes (L b)).isSome]) W' ∧ But p w1 W' := fun W' hW => by
            have hXW : But p X W' := hbt'.trans hW
            have hbW' : Below w.heap.size w W' := hbwX.trans (hXW.below (by omega) (by have := hbX.size; omega))
            refine ⟨hXW.cell b1X (by have := hbX.size; omega) (by omega), ?_, hW⟩
            have := (hm.keep hbW').eqn hK (L b)
            rw [hv2] at this
            exact this
          have Hup2 := Lib.hid hup2
          have Hv2 := Lib.hid hv2
          clear hup2 hv2 Hup Hcell
          generalize hq2 : Idn.ixC s.classes (L b) = q2 at *
          generalize hsb2 : q2.isSome = sb2 at *
          have Hsb2 := Lib.hid hsb2
          have HLb := Lib.hid hLb
          clear hsb2 hq2 he hLb
          have hw0 := But.refl p w1
          go_wp2
          have hw1d : But p w1 w1.drew := But.drew hw0
          have z1 : w1.drew.cell? ⟨w.heap.size, 1, none⟩ = some (.map o2) := (hS _ hw1d).1
          have q1d : w1.drew.cell? ⟨p, 1, none⟩ = some (.string b) := q1'
          go_region_law (
            go_simp
            go_at_call 49
            refine (hl2 _).mono ?_
            rintro e w6 ⟨rfl, hb6⟩
            have hw6 : But p w1 w6 := But.on hw1d hb6
            obtain ⟨z6, y6, _⟩ := hS w6 hw6
            have hF6 : FourAt w6 p (.string a) (.string b) (.slice A k c) (.slice A' k' c') := FourAt.keep hF5d hb6 hpl'
            obtain ⟨⟨r0, r1, r2, r3⟩, ⟨g0, g1, g2, g3⟩, hpl6⟩ := hF6
            go_wp2_with fail)
          all_goals
            have hfin := fourB (FourAt.keep hF5d hb6 hpl') (.string a2) (.string b2) (.slice A5 k5 c5) (.slice A6 k6 c6)
            have hbf : But p w1 ((((w6.setCell ⟨p, 0, none⟩ (.string a2)).setCell ⟨p, 1, none⟩ (.string b2)).setCell ⟨p, 2, none⟩ (.slice A5 k5 c5)).setCell ⟨p, 3, none⟩ (.slice A6 k6 c6)) := by
              repeat (first | with_reducible exact But.refl _ _ | with_reducible apply But.drew | with_reducible refine But.put ?_ _ | with_reducible refine But.on ?_ hb6)
            have hog2 : ∀ j, q2 = some j → j < gk - 1 := fun j hj => by have := hdec j (by rw [Hup2.out]; exact hj); omega
            go_wp2
            go_roundg (gk - 1)
            case measure => omega
            case rel =>
              exact ⟨acc ++ [i], q2, a2, b2, A5, k5, c5, A6, k6, c6, by rw [Hsb2.out], own_but hown2 hbf hF.2.2, hfin, hbt'.trans hbf, Hv2.out, hacc', hog2, by simp; omega, by have h := Hstep.out; rw [Hup2.out] at h; exact h⟩
        · rw [he] at hemp
          have HF : Hid (Idn.lin s (L n) = acc ++ [i]) := by show _ = _; rw [← Hstep.out, Hup.out, hLb, if_pos he, Idn.linK_none, List.append_nil]
          have hcl := cls_out (hcls.keep (hbw1.mono hh)) (Nat.le_trans hh hbw1.size) hacc'.out hown2
          go_wp2
          go_ret
          exact ⟨_, rfl, hbw1, by rw [HF.out]; exact hcl.base hbwX.size⟩
theorem lineage_any (m1 m2 : Value) (s : Idn.Sch) (hi : Nat) (n : ByteArray) (w : World) (hk : KnV w hi m1 m2 s) (hh : hi ≤ w.heap.size) (hd : Idn.Dec s.classes) (hs : SSm s) (hn : n.size ≤ 1000000000) :
  Calls Tryz.prog 213 #[.agg #[m1, m2], .string n] w fun e w' => ∃ v, e = .returned v ∧ Below w.heap.size w w' ∧ ClassesV w' w'.heap.size v ((Idn.lin s (L n)).filterMap (s.classes[·]?)) :=
 (lineage_lin m1 m2 s hi n w hk hh hd hs hn).mono fun _ _ ⟨v, h1, h2, h3⟩ => ⟨v, h1, h2, h3.cls (Nat.le_trans hh h2.size)⟩
end Go.Proofs.YtoopoglkeeoamaaGreatDoor
/- schema: Parse at the chapter's example. -/
namespace Go.Proofs.YtoopoglkeeoamaaGreatDoor
open Go.RowKit Go.Sort
open Idn (L B Bs drop_L take_L size_L)
end Go.Proofs.YtoopoglkeeoamaaGreatDoor
/- law07: few. -/
namespace Go.Proofs.YtoopoglkeeoamaaGreatDoor
open Go.RowKit Go.Sort
open Idn (L B Bs drop_L take_L size_L)
def fewC (c : Idn.Cl) : Bool := decide (c.name.length ≤ 70) && (decide (c.super.length ≤ 70) && (short c.must && short c.may))
def few (s : Idn.Sch) : Bool := s.types.all (fun t => decide (t.name.length ≤ 70)) && (s.classes.all fewC && (decide (s.types.length ≤ 70) && decide (s.classes.length ≤ 40)))
end Go.Proofs.YtoopoglkeeoamaaGreatDoor
/- Walks of the reference of layer 7: sound. -/
namespace Go.Proofs.YtoopoglkeeoamaaGreatDoor
open Go.RowKit Go.Sort
open Idn (L B Bs drop_L take_L size_L)
theorem r_sound_any (v : Value) (s : Idn.Sch) (w : World) (hv : SchV w w.heap.size v s) (hs : SSm s) :
  Calls Tryz.prog 172 #[v] w fun e w' => ∃ v', e = .returned v' ∧ Below w.heap.size w w' ∧ SchV w' w.heap.size v' (sound s) := by
 have hE := fun W (hW : Below w.heap.size w W) => r_check_any v s W (SchV.mono (SchV.keep hv hW) hW.size) hs
 have hv0 := hv
 obtain ⟨a, b, rfl, hT, hC⟩ := hv
 obtain ⟨A, ca, rfl, hca⟩ := SlV.shape hT
 obtain ⟨A', cb, rfl, hcb⟩ := SlV.shape hC
 clear hT hC
 by_cases h : Idn.sCheck s = 0
 ·have hss : Hid (sound s = s) := if_pos h
  rw [h] at hE
  clear h
  go_enter Tryz.func172, Tryz.ntmps172
  go_wp2_with fail
  with_reducible refine gen2f (R := fun W => Calls Tryz.prog 219 _ W _) ?_
  intro W hbW hszW hc1 hc2 hf2
  have hf : W.frozen? ⟨w.heap.size + 1, 0, none⟩ = false ∧ W.frozen? ⟨w.heap.size + 1, 1, none⟩ = false := ⟨hf2 0, hf2 1⟩
  refine (hE W hbW).mono ?_
  rintro e w1 ⟨rfl, hb1⟩
  have a0 := cell_later hb1 (hc1 0 _ rfl)
  have a1 := cell_later hb1 (hc1 1 _ rfl)
  have r0 := cell_later hb1 (hc2 0 _ rfl)
  have r1 := cell_later hb1 (hc2 1 _ rfl)
  have g0 := (hb1.frozen (p := ⟨w.heap.size + 1, 0, none⟩) (by show w.heap.size + 1 < _; omega)).trans hf.1
  have g1 := (hb1.frozen (p := ⟨w.heap.size + 1, 1, none⟩) (by show w.heap.size + 1 < _; omega)).trans hf.2
  have hbw1 := hbW.trans (hb1.mono hbW.size)
  clear hc1 hc2 hf2 hf hE
  go_wp2
  exact bodyPost_ret (v := .agg #[.slice A s.types.length ca, .slice A' s.classes.length cb]) (by simp [results, Tryz.results172, go_sem, r0, r1, g0, g1]) rfl ⟨_, rfl, (hbw1.setCell (by simp) _).setCell (by simp) _, by rw [hss.out]; exact hv0.keep ((hbw1.setCell (by simp) _).setCell (by simp) _)⟩
 ·have hss : Hid (sound s = ⟨[], []⟩) := if_neg h
  generalize Idn.sCheck s = r at *
  have h1 : (r == 0) = false := by simpa using h
  have h2 : (r != 0) = true := by simpa using h
  go_enter Tryz.func172, Tryz.ntmps172
  go_wp2_with fail
  with_reducible refine gen2f (R := fun W => Calls Tryz.prog 219 _ W _) ?_
  intro W hbW hszW hc1 hc2 hf2
  have hf : W.frozen? ⟨w.heap.size + 1, 0, none⟩ = false ∧ W.frozen? ⟨w.heap.size + 1, 1, none⟩ = false := ⟨hf2 0, hf2 1⟩
  refine (hE W hbW).mono ?_
  rintro e w1 ⟨rfl, hb1⟩
  have r0 := cell_later hb1 (hc2 0 _ rfl)
  have r1 := cell_later hb1 (hc2 1 _ rfl)
  have g0 := (hb1.frozen (p := ⟨w.heap.size + 1, 0, none⟩) (by show w.heap.size + 1 < _; omega)).trans hf.1
  have g1 := (hb1.frozen (p := ⟨w.heap.size + 1, 1, none⟩) (by show w.heap.size + 1 < _; omega)).trans hf.2
  have hbw1 := hbW.trans (hb1.mono hbW.size)
  clear hc1 hc2 hf2 hf hE
  go_wp2
  exact bodyPost_ret (v := .agg #[.slice none 0 0, .slice none 0 0]) (by simp [results, Tryz.results172, go_sem, r0, r1, g0, g1]) rfl ⟨_, rfl, (hbw1.setCell (by simp) _).setCell (by simp) _, by rw [hss.out]; exact ⟨_, _, rfl, SlV.nil _ _ _ _, SlV.nil _ _ _ _⟩⟩
end Go.Proofs.YtoopoglkeeoamaaGreatDoor
/- Walks of the reference of layer 7: Type. -/
namespace Go.Proofs.YtoopoglkeeoamaaGreatDoor
open Go.RowKit Go.Sort
open Idn (L B Bs drop_L take_L size_L)
theorem field_sch0 (a b : Option Addr) (n c m d : Nat) (w : World) : (Instr.field 32 (.agg #[.slice a n c, .slice b m d]) 0).run Tryz.prog w = .ok (.slice a n c) w := by kernel_rfl
theorem field_sch1 (a b : Option Addr) (n c m d : Nat) (w : World) : (Instr.field 32 (.agg #[.slice a n c, .slice b m d]) 1).run Tryz.prog w = .ok (.slice b m d) w := by kernel_rfl
theorem ssm_sound' {s : Idn.Sch} (h : SSm s) : SSm (sound s) := by
 unfold sound
 by_cases h' : Idn.sCheck s = 0
 ·rw [if_pos h']; exact h
 ·rw [if_neg h']; exact ⟨⟨by simp, by simp⟩, ⟨by simp, by simp⟩⟩
theorem r_type_any (v : Value) (s : Idn.Sch) (n : ByteArray) (w : World) (hv : SchV w w.heap.size v s) (hs : SSm s) (hn : n.size ≤ 1000000000) :
    Calls Tryz.prog 105 #[v, .string n] w fun e w' => e = .returned (.tuple #[tyV (tyLook (sound s) (L n)).1, .bool (tyLook (sound s) (L n)).2]) ∧ Below w.heap.size w w' := by
  have hE := fun W (hW : Below w.heap.size w W) => r_sound_any v s W (SchV.mono (SchV.keep hv hW) hW.size) hs
  have hss := ssm_sound' hs
  obtain ⟨a, b, rfl, hT, hC⟩ := hv
  obtain ⟨A, ca, rfl, hca⟩ := SlV.shape hT
  obtain ⟨A', cb, rfl, hcb⟩ := SlV.shape hC
  clear hT hC
  generalize sound s = t at *
  generalize hrr : tyLook t (L n) = rr at *
  have Hrr := Lib.hid hrr
  clear hrr
  go_enter Tryz.func105, Tryz.ntmps105
  go_wp2_with fail
  with_reducible refine gen2f (R := fun W => Calls Tryz.prog 172 _ W _) ?_
  intro W hbW hszW _ hc2 hf2
  have hf : W.frozen? ⟨w.heap.size + 1, 0, none⟩ = false ∧ W.frozen? ⟨w.heap.size + 1, 1, none⟩ = false ∧ W.frozen? ⟨w.heap.size + 1, 2, none⟩ = false := ⟨hf2 0, hf2 1, hf2 2⟩
  have r0 := hc2 0 _ rfl
  have r1 := hc2 1 _ rfl
  have r2 := hc2 2 _ rfl
  clear hc2 hf2
  refine (hE W hbW).mono ?_
  rintro e w1 ⟨v', rfl, hb1, hv'⟩
  obtain ⟨a', b', rfl, hT', hC'⟩ := hv'
  obtain ⟨D, cd, rfl, hcd⟩ := SlV.shape hT'
  obtain ⟨D', cd', rfl, hcd'⟩ := SlV.shape hC'
  have hfd := field_sch0 D D' t.types.length cd t.classes.length cd' w1
  have hTA := r_typeAt_any _ t.types n w1 (SlV.mono hT' hb1.size) hss.1 hn
  go_wp2_with fail
  refine hTA.mono ?_
  rintro e w2 ⟨rfl, hb2⟩
  have hb12 := hb1.trans (hb2.mono hb1.size)
  replace r0 := cell_later hb12 r0
  replace r1 := cell_later hb12 r1
  replace r2 := cell_later hb12 r2
  have g0 := (hb12.frozen (p := ⟨w.heap.size + 1, 0, none⟩) (by show w.heap.size + 1 < _; omega)).trans hf.1
  have g1 := (hb12.frozen (p := ⟨w.heap.size + 1, 1, none⟩) (by show w.heap.size + 1 < _; omega)).trans hf.2.1
  have g2 := (hb12.frozen (p := ⟨w.heap.size + 1, 2, none⟩) (by show w.heap.size + 1 < _; omega)).trans hf.2.2
  have hbw2 := hbW.trans (hb12.mono hbW.size)
  have hT2 : TypesV w2 W.heap.size _ t.types := SlV.keep hT' (hb2.mono hb1.size)
  have htl := hss.1.1
  clear hTA hfd hE hf hT' hC'
  cases hx : Idn.ixT t.types (L n) with
  | none =>
    have HF : Hid (rr = (⟨[], 0, false⟩, false)) := by show _ = _; rw [← Hrr.out, tyLook, hx]
    have hI : decide ((0 : Int) ≤ Idn.optI none) = false := rfl
    clear hx
    go_wp2
    exact bodyPost_ret (v := .tuple #[.agg #[.string ⟨#[]⟩, .int .i64 0, .bool false], .bool false]) (by simp [results, Tryz.results105, go_sem, r0, r1, r2, g0, g1, g2]) rfl ⟨by rw [HF.out]; rfl, ((hbw2.setCell (by simp) _).setCell (by simp) _).setCell (by simp) _⟩
  | some j =>
    have hjl := Idn.ixT_lt _ _ _ hx
    have HF : Hid (rr = (t.types[j], true)) := by show _ = _; rw [← Hrr.out, tyLook, hx]; simp [hjl]
    obtain ⟨b, off, rfl, hbl, c0, c1, c2⟩ := TypesV.cell hT2 hjl
    have hI : decide ((0 : Int) ≤ Idn.optI (some j)) = true := decide_eq_true (by simp only [Idn.optI]; omega)
    have hj : Idn.optI (some j) = (j : Int) := rfl
    have hjI : (j : Int) < (t.types.length : Int) := by omega
    clear hx
    simp only [hj] at hI ⊢
    go_wp2
    exact bodyPost_ret (v := .tuple #[.agg #[.string (B t.types[j].name), .int .i64 t.types[j].syn, .bool t.types[j].single], .bool true]) (by simp [results, Tryz.results105, go_sem, r0, r1, r2, g0, g1, g2]) rfl ⟨by rw [HF.out]; rfl, ((hbw2.setCell (by simp) _).setCell (by simp) _).setCell (by simp) _⟩
end Go.Proofs.YtoopoglkeeoamaaGreatDoor
