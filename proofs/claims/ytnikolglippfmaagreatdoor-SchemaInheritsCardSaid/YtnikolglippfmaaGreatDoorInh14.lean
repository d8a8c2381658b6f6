/- Part 14 of the proof that a class requires and allows what its superclass requires and allows, and a valid entry has all that its classes require, and stays valid with its attribute names in upper case: the package variables hold what the program lays; nothing else is asked: the package variables hold what the program lays; nothing else is asked. -/
import Derived.Test.YtnikolglippfmaaGreatDoorInh01
import Derived.Test.YtnikolglippfmaaGreatDoorInh11
import Derived.Test.YtnikolglippfmaaGreatDoorInh13
import Derived.Deep.LoopGhost
/- Check, look, Type. -/
namespace Go.Proofs.YtnikolglippfmaaGreatDoor
open Go.RowKit Go.Sort
open Idn (L B Bs drop_L take_L size_L)

theorem gen2f {R : World → Prop} {w : World} {C1 C2 : Array Value} {t1 t2 : TypeId}
    (h : ∀ W, Below w.heap.size w W → W.heap.size = w.heap.size + 2 → (∀ (i : Nat) (v : Value), C1[i]? = some v → W.cell? ⟨w.heap.size, i, none⟩ = some v) → (∀ (i : Nat) (v : Value), C2[i]? = some v → W.cell? ⟨w.heap.size + 1, i, none⟩ = some v) → (∀ i, W.frozen? ⟨w.heap.size + 1, i, none⟩ = false) → R W) : R ((w.alloc (.cells C1 t1)).alloc (.cells C2 t2)) := by
  have e1 : (w.alloc (.cells C1 t1)).heap.size = w.heap.size + 1 := by simp
  have hnew : ((w.alloc (.cells C1 t1)).alloc (.cells C2 t2)).heap[w.heap.size + 1]? = some (.cells C2 t2 (0, 0)) := by
    rw [← e1]; exact heap_alloc_new _ _
  refine gen2 (R := fun W => W = ((w.alloc (.cells C1 t1)).alloc (.cells C2 t2)) → R W) (fun W a b c d e => ?_) rfl
  subst e
  exact h _ a b c d (fun i => Lib.frozen_of_heap hnew i)
theorem MapV.one {w : World} {v : Value} {l : List (Bs × Value)} (h : MapV w v l) : v.oneCell' = true := by
  rcases h with ⟨rfl, _⟩ | ⟨b, rfl, _⟩ <;> rfl
theorem MapV.shape {w : World} {v : Value} {l : List (Bs × Value)} (h : MapV w v l) : ∃ o, v = .map o := by
  rcases h with ⟨rfl, _⟩ | ⟨b, rfl, _⟩ <;> exact ⟨_, rfl⟩
theorem KnV.shape {w : World} {hi : Nat} {m1 m2 : Value} {s : Idn.Sch} (h : KnV w hi m1 m2 s) : ∃ o1 o2, m1 = .map o1 ∧ m2 = .map o2 := by
  obtain ⟨o1, h1⟩ := h.1.shape
  obtain ⟨es, h2, _⟩ := h.2
  obtain ⟨o2, h2⟩ := h2.shape
  exact ⟨o1, o2, h1, h2⟩
theorem MapV.set2 {w : World} {m : Value} {l : List (Bs × Value)} (h : MapV w m l) {p i : Nat} {x : Value} (hc : w.cell? ⟨p, i, none⟩ = some x) (v u : Value) {j k : Nat} : MapV ((w.setCell ⟨p, j, none⟩ v).setCell ⟨p, k, none⟩ u) m l := by
  rcases h with h | ⟨b, h1, h2⟩
  · exact .inl h
  · exact .inr ⟨b, h1, (h2.set v (h2.ne hc)).set u (h2.ne hc)⟩
theorem KnV.set2 {w : World} {hi : Nat} {m1 m2 : Value} {s : Idn.Sch} (h : KnV w hi m1 m2 s) {p i : Nat} {x : Value} (hc : w.cell? ⟨p, i, none⟩ = some x) (v u : Value) {j k : Nat} (hp : hi ≤ p) : KnV ((w.setCell ⟨p, j, none⟩ v).setCell ⟨p, k, none⟩ u) hi m1 m2 s := by
  obtain ⟨h1, es, h2, h3⟩ := h
  exact ⟨h1.set2 hc v u, es, h2.set2 hc v u, h3.keep ⟨rfl, rfl, rfl, by simp, fun q hq => by
    rw [Below.heap_setCell _ _ _ _ (by show q ≠ p; omega), Below.heap_setCell _ _ _ _ (by show q ≠ p; omega)]⟩⟩
theorem KnV.keep {w w' : World} {hi : Nat} {m1 m2 : Value} {s : Idn.Sch} (h : KnV w hi m1 m2 s) (hb : Below w.heap.size w w') (hh : hi ≤ w.heap.size) : KnV w' hi m1 m2 s := by
  obtain ⟨h1, es, h2, h3⟩ := h
  exact ⟨h1.keep hb, es, h2.keep hb, h3.keep (hb.mono hh)⟩

set_option maxHeartbeats 1000000 in
set_option maxRecDepth 100000 in
theorem schCheck_any (v : Value) (s : Idn.Sch) (w : World) (hv : SchV w w.heap.size v s) (hs : SSm s) :
    Calls Tryz.prog 22 #[v] w fun e w' => e = .returned (.int .i64 (Idn.sCheck s)) ∧ Below w.heap.size w w' := by
  have hE := fun W (hW : Below w.heap.size w W) => examine_any v s W w.heap.size hW.size (SchV.keep hv hW) hs
  obtain ⟨a, b, rfl, hT, hC⟩ := hv
  obtain ⟨A, ca, rfl, hca⟩ := SlV.shape hT
  obtain ⟨A', cb, rfl, hcb⟩ := SlV.shape hC
  clear hT hC
  generalize hrr : Idn.sCheck s = r at *
  have hR0 := Lib.hid hrr
  clear hrr
  go_enter Tryz.func22, Tryz.ntmps22
  go_wp2_with fail
  with_reducible refine gen1 (R := fun W => Calls Tryz.prog 69 _ W _) ?_
  intro W hbW _ _ _
  refine (hE W hbW).mono ?_
  rintro e w1 ⟨m1, m2, rfl, hb1, hk⟩
  obtain ⟨o1, o2, rfl, rfl⟩ := hk.shape
  clear hk hE
  have hbw1 := hbW.trans (hb1.mono hbW.size)
  go_wp2
  go_ret
  exact ⟨rfl, hbw1.alloc hbw1.size _⟩

set_option maxHeartbeats 1000000 in
set_option maxRecDepth 100000 in
theorem look_any (v : Value) (s : Idn.Sch) (w : World) (hv : SchV w w.heap.size v s) (hs : SSm s) :
    Calls Tryz.prog 35 #[v] w fun e w' => ∃ m1 m2, e = .returned (.agg #[m1, m2]) ∧ Below w.heap.size w w' ∧ KnV w' w.heap.size m1 m2 (sound s) := by
  have hE := fun W (hW : Below w.heap.size w W) => examine_any v s W w.heap.size hW.size (SchV.keep hv hW) hs
  have hv0 := hv
  obtain ⟨a, b, rfl, hT, hC⟩ := hv
  obtain ⟨A, ca, rfl, hca⟩ := SlV.shape hT
  obtain ⟨A', cb, rfl, hcb⟩ := SlV.shape hC
  clear hT hC hv0
  go_enter Tryz.func35, Tryz.ntmps35
  go_wp2_with fail
  with_reducible refine gen2f (R := fun W => Calls Tryz.prog 69 _ W _) ?_
  intro W hbW hszW _ hc2 hf2
  have r0 := hc2 0 _ rfl
  have r1 := hc2 1 _ rfl
  have hf : W.frozen? ⟨w.heap.size + 1, 0, none⟩ = false ∧ W.frozen? ⟨w.heap.size + 1, 1, none⟩ = false := ⟨hf2 0, hf2 1⟩
  clear hc2 hf2
  refine (hE W hbW).mono ?_
  rintro e w1 ⟨m1, m2, rfl, hb1, hk⟩
  obtain ⟨o1, o2, rfl, rfl⟩ := hk.shape
  have hbw1 := hbW.trans (hb1.mono hbW.size)
  have ba := hb1.alloc hb1.size (.cells #[.map o1, .map o2] 69)
  have R0 := cell_later ba r0
  have R1 := cell_later ba r1
  have G0 := (ba.frozen (p := ⟨w.heap.size + 1, 0, none⟩) (by show w.heap.size + 1 < _; omega)).trans hf.1
  have G1 := (ba.frozen (p := ⟨w.heap.size + 1, 1, none⟩) (by show w.heap.size + 1 < _; omega)).trans hf.2
  have hbwa := hbW.trans (ba.mono hbW.size)
  have hk' := hk.keep ((Below.refl w1.heap.size w1).alloc (Nat.le_refl _) (.cells #[.map o1, .map o2] 69)) (Nat.le_trans hbW.size hb1.size)
  clear ba hf r0 r1 hE
  have hz : w.heap.size + 1 < w.heap.size + 2 := by omega
  go_wp2
  exact bodyPost_ret (v := .agg #[.map o1, .map o2]) (by simp [results, Tryz.results35, go_sem, R0, R1, G0, G1]) rfl ⟨_, _, rfl, (hbwa.setCell (by simp) _).setCell (by simp) _, hk'.set2 R0 _ _ (by omega)⟩
end Go.Proofs.YtnikolglippfmaaGreatDoor
/- schema.Type. -/
namespace Go.Proofs.YtnikolglippfmaaGreatDoor
open Go.RowKit Go.Sort
open Idn (L B Bs drop_L take_L size_L)

def tyLook (s : Idn.Sch) (n : Bs) : Idn.AT × Bool :=
  match Idn.ixT s.types n with
  | none => (⟨[], 0, false⟩, false)
  | some k => match s.types[k]? with
    | none => (⟨[], 0, false⟩, false)
    | some t => (t, true)
theorem tyLook_lk (s : Idn.Sch) (n : Bs) : (lk (tyE s.types) (Idn.lower n)).getD (.agg #[.string ⟨#[]⟩, .int .i64 0, .bool false]) = tyV (tyLook s n).1 ∧ (lk (tyE s.types) (Idn.lower n)).isSome = (tyLook s n).2 := by
  unfold tyLook
  cases h : Idn.ixT s.types n with
  | none => rw [lk_ty_none h]; exact ⟨rfl, rfl⟩
  | some k =>
    obtain ⟨t, ht, h2⟩ := lk_ty_some h
    rw [h2]
    simp only [ht]
    exact ⟨rfl, rfl⟩

theorem field_known (o1 o2 : Option Nat) (w : World) : (Instr.field 69 (.agg #[.map o1, .map o2]) 0).run Tryz.prog w = .ok (.map o1) w := by kernel_rfl

set_option maxHeartbeats 1000000 in
set_option maxRecDepth 100000 in
theorem type_any (v : Value) (s : Idn.Sch) (n : ByteArray) (w : World) (hv : SchV w w.heap.size v s) (hs : SSm s) (hn : n.size ≤ 1000000000) :
    Calls Tryz.prog 33 #[v, .string n] w fun e w' => e = .returned (.tuple #[tyV (tyLook (sound s) (L n)).1, .bool (tyLook (sound s) (L n)).2]) ∧ Below w.heap.size w w' := by
  have hE := fun W (hW : Below w.heap.size w W) => look_any v s W (SchV.mono (SchV.keep hv hW) hW.size) hs
  have hl := fun W => lower_any n W (by omega)
  obtain ⟨hva, hsome⟩ := tyLook_lk (sound s) (L n)
  generalize tyLook (sound s) (L n) = rr at *
  obtain ⟨⟨ta, tb, tc⟩, td⟩ := rr
  unfold tyV at hva ⊢
  simp only [sv] at hva ⊢
  obtain ⟨a, b, rfl, hT, hC⟩ := hv
  obtain ⟨A, ca, rfl, hca⟩ := SlV.shape hT
  obtain ⟨A', cb, rfl, hcb⟩ := SlV.shape hC
  clear hT hC
  go_enter Tryz.func33, Tryz.ntmps33
  go_wp2_with fail
  with_reducible refine gen2f (R := fun W => Calls Tryz.prog 35 _ W _) ?_
  intro W hbW hszW _ hc2 hf2
  have r0 := hc2 0 _ rfl
  have r1 := hc2 1 _ rfl
  have r2 := hc2 2 _ rfl
  have hf : W.frozen? ⟨w.heap.size + 1, 0, none⟩ = false ∧ W.frozen? ⟨w.heap.size + 1, 1, none⟩ = false ∧ W.frozen? ⟨w.heap.size + 1, 2, none⟩ = false := ⟨hf2 0, hf2 1, hf2 2⟩
  clear hc2 hf2
  refine (hE W hbW).mono ?_
  rintro e w1 ⟨m1, m2, rfl, hb1, hk⟩
  obtain ⟨o1, o2, rfl, rfl⟩ := hk.shape
  have hfd := field_known o1 o2 w1
  go_wp2_with fail
  refine (hl w1).mono ?_
  rintro e w2 ⟨rfl, hb2⟩
  have hk2 := hk.1.keep hb2
  have hb12 : Below W.heap.size W w2 := hb1.trans (hb2.mono hb1.size)
  have ba := hb12.alloc hb12.size (.cells #[.string (B ta), .int .i64 tb, .bool tc] 58)
  have R0 := cell_later ba r0
  have R1 := cell_later ba r1
  have R2 := cell_later ba r2
  have G0 := (ba.frozen (p := ⟨w.heap.size + 1, 0, none⟩) (by show w.heap.size + 1 < _; omega)).trans hf.1
  have G1 := (ba.frozen (p := ⟨w.heap.size + 1, 1, none⟩) (by show w.heap.size + 1 < _; omega)).trans hf.2.1
  have G2 := (ba.frozen (p := ⟨w.heap.size + 1, 2, none⟩) (by show w.heap.size + 1 < _; omega)).trans hf.2.2
  have hbwa := hbW.trans (ba.mono hbW.size)
  have hne : w.heap.size + 1 ≠ w2.heap.size := by have := hb12.size; omega
  clear ba hf r0 r1 r2 hE hl
  rw [← Idn.L_B (Idn.lower (L n))] at hva hsome
  go_wp2_with (at_lookup; refine wpList_look w2 rfl _ _ 66 rfl 9 58 Tryz.underlying9 Tryz.underlying66 (zeroAT _) hk2 rfl (B (Idn.lower (L n))) rfl hva hsome ?_)
  exact bodyPost_ret (v := .tuple #[.agg #[.string (B ta), .int .i64 tb, .bool tc], .bool td]) (by simp [results, Tryz.results33, go_sem, R0, R1, R2, G0, G1, G2, hne]) rfl ⟨rfl, ((hbwa.setCell (by simp) _).setCell (by simp) _).setCell (by simp) _⟩
end Go.Proofs.YtnikolglippfmaaGreatDoor
/- lineage: what the maps hand over. -/
namespace Go.Proofs.YtnikolglippfmaaGreatDoor
open Go.RowKit Go.Sort
open Idn (L B Bs drop_L take_L size_L)

def zCl : Value := .agg #[.string ⟨#[]⟩, .string ⟨#[]⟩, .slice none 0 0, .slice none 0 0]
def valAt (es : List (Bs × Value)) (o : Option Nat) : Value := ((o.bind fun k => es[k]?).map (·.2)).getD zCl
theorem lk_val {es : List (Bs × Value)} {l : List Idn.Cl} (h : ClK es l) (n : Bs) : (lk es (Idn.lower n)).getD zCl = valAt es (Idn.ixC l n) := by
  rw [← h.idx, lk, find_ix]; rfl
theorem ClSh.val {es : List (Bs × Value)} (h : ClSh es) (o : Option Nat) : ∃ a b A k c A' k' c', valAt es o = .agg #[.string a, .string b, .slice A k c, .slice A' k' c'] := by
  unfold valAt
  cases o with
  | none => exact ⟨_, _, _, _, _, _, _, _, rfl⟩
  | some k =>
    simp only [Option.bind_some]
    cases hx : es[k]? with
    | none => exact ⟨_, _, _, _, _, _, _, _, rfl⟩
    | some p =>
      obtain ⟨a, b, A, k, c, A', k', c', h'⟩ := h p (List.mem_of_getElem? hx)
      exact ⟨a, b, A, k, c, A', k', c', by simp [h']⟩
/-- the cells of class k -/
def cellsAt (es : List (Bs × Value)) (k : Nat) : List Value := match valAt es (some k) with | .agg cs => cs.toList | _ => []
theorem ClsIs.val {w : World} {hi : Nat} {es : List (Bs × Value)} {l : List Idn.Cl} (h : ClsIs w hi es l) {k : Nat} (hk : k < l.length) :
    ∃ v u, valAt es (some k) = .agg #[.string (B l[k].name), .string (B l[k].super), v, u] ∧ cellsAt es k = [sv l[k].name, sv l[k].super, v, u] ∧ StrsV w hi v l[k].must ∧ StrsV w hi u l[k].may := by
  obtain ⟨v, u, h1, h2, h3⟩ := h.2 k l[k] (List.getElem?_eq_getElem hk)
  have e : valAt es (some k) = .agg #[.string (B l[k].name), .string (B l[k].super), v, u] := by simp [valAt, h1]
  exact ⟨v, u, e, by rw [cellsAt, e]; rfl, h2, h3⟩
theorem MapV.eqn {w : World} {m2 : Value} {es : List (Bs × Value)} {l : List Idn.Cl} (h : MapV w m2 es) (hK : ClK es l) (n : Bs) :
    (Instr.lookup 67 m2 (.string (B (Idn.lower n))) true).run Tryz.prog w = .ok (.tuple #[valAt es (Idn.ixC l n), .bool (Idn.ixC l n).isSome]) w := by
  have := h.run (P := Tryz.prog) Tryz.underlying9 Tryz.underlying67 (zeroCL _) (B (Idn.lower n))
  rw [Idn.L_B] at this
  rw [this]
  have e1 := lk_val hK n
  unfold zCl at e1
  rw [e1, hK.lk n]
/-- the classes of a list of indexes, read out of a row of their cells -/
theorem cells_read {w : World} {hi : Nat} {es : List (Bs × Value)} {l : List Idn.Cl} (h : ClsIs w hi es l) : ∀ (acc : List Nat), (∀ k ∈ acc, k < l.length) →
    (acc.filterMap (l[·]?)).length = acc.length ∧ (acc.flatMap (cellsAt es)).length = acc.length * 4 ∧ ∀ (i : Nat) (x : Idn.Cl), (acc.filterMap (l[·]?))[i]? = some x → ∃ cs : List Value, cs.length = 4 ∧ EC w hi x cs ∧ ∀ (j : Nat) (u : Value), cs[j]? = some u → (acc.flatMap (cellsAt es))[i * 4 + j]? = some u
  | [], _ => ⟨rfl, rfl, fun i x hx => by simp at hx⟩
  | k :: acc, hb => by
    obtain ⟨ih1, ih0, ih⟩ := cells_read h acc (fun j hj => hb j (List.mem_cons_of_mem _ hj))
    have hk := hb k List.mem_cons_self
    obtain ⟨v, u, e1, e2, hv, hu⟩ := h.val hk
    have hf : (k :: acc).filterMap (l[·]?) = l[k] :: acc.filterMap (l[·]?) := by simp [List.filterMap_cons, hk]
    refine ⟨by rw [hf]; simp [ih1], by simp [e2, ih0]; omega, fun i x hx => ?_⟩
    rw [hf] at hx
    cases i with
    | zero =>
      simp at hx
      subst hx
      refine ⟨[sv l[k].name, sv l[k].super, v, u], rfl, ⟨v, u, rfl, hv, hu⟩, fun j u' hj => ?_⟩
      have hj4 : j < 4 := (List.getElem?_eq_some_iff.1 hj).1
      rw [List.flatMap_cons, e2, List.getElem?_append_left (by simp; omega)]
      simpa using hj
    | succ i =>
      simp only [List.getElem?_cons_succ] at hx
      obtain ⟨cs, h1, h2, h3⟩ := ih i x hx
      refine ⟨cs, h1, h2, fun j u' hj => ?_⟩
      rw [List.flatMap_cons, e2, List.getElem?_append_right (by simp; omega)]
      have := h3 j u' hj
      rw [← this]
      congr 1
      simp
      omega
end Go.Proofs.YtnikolglippfmaaGreatDoor
/- Walks of the reference of layer 7: sound. -/
namespace Go.Proofs.YtnikolglippfmaaGreatDoor
open Go.RowKit Go.Sort
open Idn (L B Bs drop_L take_L size_L)

set_option maxHeartbeats 1000000 in
set_option maxRecDepth 100000 in
theorem r_sound_any (v : Value) (s : Idn.Sch) (w : World) (hv : SchV w w.heap.size v s) (hs : SSm s) :
    Calls Tryz.prog 77 #[v] w fun e w' => ∃ v', e = .returned v' ∧ Below w.heap.size w w' ∧ SchV w' w.heap.size v' (sound s) := by
  have hE := fun W (hW : Below w.heap.size w W) => r_check_any v s W (SchV.mono (SchV.keep hv hW) hW.size) hs
  have hv0 := hv
  obtain ⟨a, b, rfl, hT, hC⟩ := hv
  obtain ⟨A, ca, rfl, hca⟩ := SlV.shape hT
  obtain ⟨A', cb, rfl, hcb⟩ := SlV.shape hC
  clear hT hC
  by_cases h : Idn.sCheck s = 0
  · have hss : Hid (sound s = s) := if_pos h
    rw [h] at hE
    clear h
    go_enter Tryz.func77, Tryz.ntmps77
    go_wp2_with fail
    with_reducible refine gen2f (R := fun W => Calls Tryz.prog 61 _ W _) ?_
    intro W hbW hszW hc1 hc2 hf2
    have hf : W.frozen? ⟨w.heap.size + 1, 0, none⟩ = false ∧ W.frozen? ⟨w.heap.size + 1, 1, none⟩ = false := ⟨hf2 0, hf2 1⟩
    refine (hE W hbW).mono ?_
    rintro e w1 ⟨rfl, hb1⟩
    have a0 := cell_later hb1 (hc1 0 _ rfl)
    have a1 := cell_later hb1 (hc1 1 _ rfl)
    have r0 := cell_later hb1 (hc2 0 _ rfl)
    have r1 := cell_later hb1 (hc2 1 _ rfl)
    have g0 := (hb1.frozen (p := ⟨w.heap.size + 1, 0, none⟩) (by show w.heap.size + 1 < _; omega)).trans hf.1
    have g1 := (hb1.frozen (p := ⟨w.heap.size + 1, 1, none⟩) (by show w.heap.size + 1 < _; omega)).trans hf.2
    have hbw1 := hbW.trans (hb1.mono hbW.size)
    clear hc1 hc2 hf2 hf hE
    go_wp2
    exact bodyPost_ret (v := .agg #[.slice A s.types.length ca, .slice A' s.classes.length cb]) (by simp [results, Tryz.results77, go_sem, r0, r1, g0, g1]) rfl ⟨_, rfl, (hbw1.setCell (by simp) _).setCell (by simp) _, by rw [hss.out]; exact hv0.keep ((hbw1.setCell (by simp) _).setCell (by simp) _)⟩
  · have hss : Hid (sound s = ⟨[], []⟩) := if_neg h
    generalize Idn.sCheck s = r at *
    have h1 : (r == 0) = false := by simpa using h
    have h2 : (r != 0) = true := by simpa using h
    go_enter Tryz.func77, Tryz.ntmps77
    go_wp2_with fail
    with_reducible refine gen2f (R := fun W => Calls Tryz.prog 61 _ W _) ?_
    intro W hbW hszW hc1 hc2 hf2
    have hf : W.frozen? ⟨w.heap.size + 1, 0, none⟩ = false ∧ W.frozen? ⟨w.heap.size + 1, 1, none⟩ = false := ⟨hf2 0, hf2 1⟩
    refine (hE W hbW).mono ?_
    rintro e w1 ⟨rfl, hb1⟩
    have r0 := cell_later hb1 (hc2 0 _ rfl)
    have r1 := cell_later hb1 (hc2 1 _ rfl)
    have g0 := (hb1.frozen (p := ⟨w.heap.size + 1, 0, none⟩) (by show w.heap.size + 1 < _; omega)).trans hf.1
    have g1 := (hb1.frozen (p := ⟨w.heap.size + 1, 1, none⟩) (by show w.heap.size + 1 < _; omega)).trans hf.2
    have hbw1 := hbW.trans (hb1.mono hbW.size)
    clear hc1 hc2 hf2 hf hE
    go_wp2
    exact bodyPost_ret (v := .agg #[.slice none 0 0, .slice none 0 0]) (by simp [results, Tryz.results77, go_sem, r0, r1, g0, g1]) rfl ⟨_, rfl, (hbw1.setCell (by simp) _).setCell (by simp) _, by rw [hss.out]; exact ⟨_, _, rfl, SlV.nil _ _ _ _, SlV.nil _ _ _ _⟩⟩
end Go.Proofs.YtnikolglippfmaaGreatDoor
/- Walks of the reference of layer 7: Type. -/
namespace Go.Proofs.YtnikolglippfmaaGreatDoor
open Go.RowKit Go.Sort
open Idn (L B Bs drop_L take_L size_L)

theorem field_sch0 (a b : Option Addr) (n c m d : Nat) (w : World) : (Instr.field 25 (.agg #[.slice a n c, .slice b m d]) 0).run Tryz.prog w = .ok (.slice a n c) w := by kernel_rfl
theorem field_sch1 (a b : Option Addr) (n c m d : Nat) (w : World) : (Instr.field 25 (.agg #[.slice a n c, .slice b m d]) 1).run Tryz.prog w = .ok (.slice b m d) w := by kernel_rfl
theorem ssm_sound' {s : Idn.Sch} (h : SSm s) : SSm (sound s) := by
  unfold sound
  by_cases h' : Idn.sCheck s = 0
  · rw [if_pos h']; exact h
  · rw [if_neg h']; exact ⟨⟨by simp, by simp⟩, ⟨by simp, by simp⟩⟩
set_option maxHeartbeats 1000000 in
set_option maxRecDepth 100000 in
theorem r_type_any (v : Value) (s : Idn.Sch) (n : ByteArray) (w : World) (hv : SchV w w.heap.size v s) (hs : SSm s) (hn : n.size ≤ 1000000000) :
    Calls Tryz.prog 37 #[v, .string n] w fun e w' => e = .returned (.tuple #[tyV (tyLook (sound s) (L n)).1, .bool (tyLook (sound s) (L n)).2]) ∧ Below w.heap.size w w' := by
  have hE := fun W (hW : Below w.heap.size w W) => r_sound_any v s W (SchV.mono (SchV.keep hv hW) hW.size) hs
  have hss := ssm_sound' hs
  obtain ⟨a, b, rfl, hT, hC⟩ := hv
  obtain ⟨A, ca, rfl, hca⟩ := SlV.shape hT
  obtain ⟨A', cb, rfl, hcb⟩ := SlV.shape hC
  clear hT hC
  generalize sound s = t at *
  generalize hrr : tyLook t (L n) = rr at *
  have Hrr := Lib.hid hrr
  clear hrr
  go_enter Tryz.func37, Tryz.ntmps37
  go_wp2_with fail
  with_reducible refine gen2f (R := fun W => Calls Tryz.prog 77 _ W _) ?_
  intro W hbW hszW _ hc2 hf2
  have hf : W.frozen? ⟨w.heap.size + 1, 0, none⟩ = false ∧ W.frozen? ⟨w.heap.size + 1, 1, none⟩ = false ∧ W.frozen? ⟨w.heap.size + 1, 2, none⟩ = false := ⟨hf2 0, hf2 1, hf2 2⟩
  have r0 := hc2 0 _ rfl
  have r1 := hc2 1 _ rfl
  have r2 := hc2 2 _ rfl
  clear hc2 hf2
  refine (hE W hbW).mono ?_
  rintro e w1 ⟨v', rfl, hb1, hv'⟩
  obtain ⟨a', b', rfl, hT', hC'⟩ := hv'
  obtain ⟨D, cd, rfl, hcd⟩ := SlV.shape hT'
  obtain ⟨D', cd', rfl, hcd'⟩ := SlV.shape hC'
  have hfd := field_sch0 D D' t.types.length cd t.classes.length cd' w1
  have hTA := r_typeAt_any _ t.types n w1 (SlV.mono hT' hb1.size) hss.1 hn
  go_wp2_with fail
  refine hTA.mono ?_
  rintro e w2 ⟨rfl, hb2⟩
  have hb12 := hb1.trans (hb2.mono hb1.size)
  replace r0 := cell_later hb12 r0
  replace r1 := cell_later hb12 r1
  replace r2 := cell_later hb12 r2
  have g0 := (hb12.frozen (p := ⟨w.heap.size + 1, 0, none⟩) (by show w.heap.size + 1 < _; omega)).trans hf.1
  have g1 := (hb12.frozen (p := ⟨w.heap.size + 1, 1, none⟩) (by show w.heap.size + 1 < _; omega)).trans hf.2.1
  have g2 := (hb12.frozen (p := ⟨w.heap.size + 1, 2, none⟩) (by show w.heap.size + 1 < _; omega)).trans hf.2.2
  have hbw2 := hbW.trans (hb12.mono hbW.size)
  have hT2 : TypesV w2 W.heap.size _ t.types := SlV.keep hT' (hb2.mono hb1.size)
  have htl := hss.1.1
  clear hTA hfd hE hf hT' hC'
  cases hx : Idn.ixT t.types (L n) with
  | none =>
    have HF : Hid (rr = (⟨[], 0, false⟩, false)) := by show _ = _; rw [← Hrr.out, tyLook, hx]
    have hI : decide ((0 : Int) ≤ Idn.optI none) = false := rfl
    clear hx
    go_wp2
    exact bodyPost_ret (v := .tuple #[.agg #[.string ⟨#[]⟩, .int .i64 0, .bool false], .bool false]) (by simp [results, Tryz.results37, go_sem, r0, r1, r2, g0, g1, g2]) rfl ⟨by rw [HF.out]; rfl, ((hbw2.setCell (by simp) _).setCell (by simp) _).setCell (by simp) _⟩
  | some j =>
    have hjl := Idn.ixT_lt _ _ _ hx
    have HF : Hid (rr = (t.types[j], true)) := by show _ = _; rw [← Hrr.out, tyLook, hx]; simp [hjl]
    obtain ⟨b, off, rfl, hbl, c0, c1, c2⟩ := TypesV.cell hT2 hjl
    have hI : decide ((0 : Int) ≤ Idn.optI (some j)) = true := decide_eq_true (by simp only [Idn.optI]; omega)
    have hj : Idn.optI (some j) = (j : Int) := rfl
    have hjI : (j : Int) < (t.types.length : Int) := by omega
    clear hx
    simp only [hj] at hI ⊢
    go_wp2
    exact bodyPost_ret (v := .tuple #[.agg #[.string (B t.types[j].name), .int .i64 t.types[j].syn, .bool t.types[j].single], .bool true]) (by simp [results, Tryz.results37, go_sem, r0, r1, r2, g0, g1, g2]) rfl ⟨by rw [HF.out]; rfl, ((hbw2.setCell (by simp) _).setCell (by simp) _).setCell (by simp) _⟩
end Go.Proofs.YtnikolglippfmaaGreatDoor
