/- Part 12 of the proof that Valid returns the specified error: the package variables hold what the program lays; nothing else is asked. -/
import Derived.Test.YtnikolglippfmaaGreatDoorVdz01
import Derived.Test.YtnikolglippfmaaGreatDoorVdz10
import Derived.Test.YtnikolglippfmaaGreatDoorVdz11
import Derived.Deep.LoopGhost
/- examine. -/
namespace Go.Proofs.YtnikolglippfmaaGreatDoor
open Go.RowKit Go.Sort
open Idn (L B Bs drop_L take_L size_L)

theorem But.cell {b : Nat} {w w' : World} (h : But b w w') {p i : Nat} {v : Value} (hc : w.cell? ⟨p, i, none⟩ = some v) (hp : p < w.heap.size) (hne : p ≠ b) : w'.cell? ⟨p, i, none⟩ = some v :=
  (World.cell?_of_block (w := w) (a := ⟨p, i, none⟩) (h.block p hp hne)).trans hc
theorem But.frozen {b : Nat} {w w' : World} (h : But b w w') {p i : Nat} {v : Bool} (hc : w.frozen? ⟨p, i, none⟩ = v) (hp : p < w.heap.size) (hne : p ≠ b) : w'.frozen? ⟨p, i, none⟩ = v :=
  (World.frozen?_of_block (w := w) (a := ⟨p, i, none⟩) (h.block p hp hne)).trans hc
theorem gen5 {R : World → Prop} {w : World} {C1 C2 C5 : Array Value} {t1 t2 t5 : TypeId}
    (h : ∀ W, Below w.heap.size w W → W.heap.size = w.heap.size + 5 → (∀ (i : Nat) (v : Value), C1[i]? = some v → W.cell? ⟨w.heap.size, i, none⟩ = some v) → (∀ (i : Nat) (v : Value), C2[i]? = some v → W.cell? ⟨w.heap.size + 1, i, none⟩ = some v) →
      (∀ i, W.frozen? ⟨w.heap.size + 1, i, none⟩ = false) → MapIs W (w.heap.size + 1 + 1) [] → MapIs W (w.heap.size + 1 + 1 + 1) [] → (∀ (i : Nat) (v : Value), C5[i]? = some v → W.cell? ⟨w.heap.size + 1 + 1 + 1 + 1, i, none⟩ = some v) → R W) :
    R (((((w.alloc (.cells C1 t1)).alloc (.cells C2 t2)).alloc (.map #[] 0)).alloc (.map #[] 0)).alloc (.cells C5 t5)) := by
  have z1 : (w.alloc (.cells C1 t1)).heap.size = w.heap.size + 1 := by simp
  have z2 : ((w.alloc (.cells C1 t1)).alloc (.cells C2 t2)).heap.size = w.heap.size + 2 := by simp
  have z3 : (((w.alloc (.cells C1 t1)).alloc (.cells C2 t2)).alloc (.map #[] 0)).heap.size = w.heap.size + 3 := by simp
  have z4 : ((((w.alloc (.cells C1 t1)).alloc (.cells C2 t2)).alloc (.map #[] 0)).alloc (.map #[] 0)).heap.size = w.heap.size + 4 := by simp
  have e1 : (((((w.alloc (.cells C1 t1)).alloc (.cells C2 t2)).alloc (.map #[] 0)).alloc (.map #[] 0)).alloc (.cells C5 t5)).heap[w.heap.size]? = some (.cells C1 t1 (0, 0)) := by
    rw [Below.heap_alloc _ _ _ (by omega), Below.heap_alloc _ _ _ (by omega), Below.heap_alloc _ _ _ (by omega), Below.heap_alloc _ _ _ (by omega)]; exact heap_alloc_new w _
  have e2 : (((((w.alloc (.cells C1 t1)).alloc (.cells C2 t2)).alloc (.map #[] 0)).alloc (.map #[] 0)).alloc (.cells C5 t5)).heap[w.heap.size + 1]? = some (.cells C2 t2 (0, 0)) := by
    rw [Below.heap_alloc _ _ _ (by omega), Below.heap_alloc _ _ _ (by omega), Below.heap_alloc _ _ _ (by omega), ← z1]; exact heap_alloc_new _ _
  have e3 : (((((w.alloc (.cells C1 t1)).alloc (.cells C2 t2)).alloc (.map #[] 0)).alloc (.map #[] 0)).alloc (.cells C5 t5)).heap[w.heap.size + 2]? = some (.map #[] 0) := by
    rw [Below.heap_alloc _ _ _ (by omega), Below.heap_alloc _ _ _ (by omega), ← z2]; exact heap_alloc_new _ _
  have e4 : (((((w.alloc (.cells C1 t1)).alloc (.cells C2 t2)).alloc (.map #[] 0)).alloc (.map #[] 0)).alloc (.cells C5 t5)).heap[w.heap.size + 3]? = some (.map #[] 0) := by
    rw [Below.heap_alloc _ _ _ (by omega), ← z3]; exact heap_alloc_new _ _
  have e5 : (((((w.alloc (.cells C1 t1)).alloc (.cells C2 t2)).alloc (.map #[] 0)).alloc (.map #[] 0)).alloc (.cells C5 t5)).heap[w.heap.size + 4]? = some (.cells C5 t5 (0, 0)) := by
    rw [← z4]; exact heap_alloc_new _ _
  refine h _ (((((Below.refl _ _).alloc (Nat.le_refl _) _).alloc (by omega) _).alloc (by omega) _).alloc (by omega) _ |>.alloc (by omega) _) (by simp) (fun i v hv => ?_) (fun i v hv => ?_) (fun i => Lib.frozen_of_heap e2 i) ⟨#[], 0, e3, rfl⟩ ⟨#[], 0, e4, rfl⟩ (fun i v hv => ?_)
  · rw [cell_of_row _ _ i _ _ (0, 0) e1]; exact hv
  · rw [cell_of_row _ _ i _ _ (0, 0) e2]; exact hv
  · rw [cell_of_row _ _ i _ _ (0, 0) e5]; exact hv

def ClsIs (w : World) (hi : Nat) (es : List (Bs × Value)) (l : List Idn.Cl) : Prop :=
  es.length = l.length ∧ ∀ (i : Nat) (c : Idn.Cl), l[i]? = some c → ∃ v u, es[i]? = some (Idn.lower c.name, .agg #[.string (B c.name), .string (B c.super), v, u]) ∧ StrsV w hi v c.must ∧ StrsV w hi u c.may
theorem ClsIs.K {w : World} {hi : Nat} {es : List (Bs × Value)} {l : List Idn.Cl} (h : ClsIs w hi es l) : ClK es l := by
  unfold ClK
  apply List.ext_getElem (by simp [h.1])
  intro i h1 h2
  simp only [List.length_map] at h1 h2
  obtain ⟨v, u, he, _⟩ := h.2 i l[i] (List.getElem?_eq_getElem h2)
  rw [List.getElem?_eq_getElem h1] at he
  injection he with he
  simp [he]
theorem ClsIs.Sh {w : World} {hi : Nat} {es : List (Bs × Value)} {l : List Idn.Cl} (h : ClsIs w hi es l) : ClSh es := by
  intro p hp
  obtain ⟨i, hi1, rfl⟩ := List.getElem_of_mem hp
  obtain ⟨v, u, he, hv, hu⟩ := h.2 i (l[i]'(by rw [← h.1]; exact hi1)) (List.getElem?_eq_getElem (by rw [← h.1]; exact hi1))
  rw [List.getElem?_eq_getElem hi1] at he
  injection he with he
  obtain ⟨A, c, rfl, _⟩ := SlV.shape hv
  obtain ⟨A', c', rfl, _⟩ := SlV.shape hu
  exact ⟨_, _, _, _, _, _, _, _, by rw [he]⟩
theorem ClsIs.push {w : World} {hi : Nat} {es : List (Bs × Value)} {l : List Idn.Cl} (h : ClsIs w hi es l) (c : Idn.Cl) {v u : Value} (hv : StrsV w hi v c.must) (hu : StrsV w hi u c.may) :
    ClsIs w hi (es ++ [(Idn.lower c.name, .agg #[.string (B c.name), .string (B c.super), v, u])]) (l ++ [c]) := by
  refine ⟨by simp [h.1], fun i c' hc => ?_⟩
  by_cases hi' : i < l.length
  · rw [List.getElem?_append_left hi'] at hc
    obtain ⟨v', u', h1, h2, h3⟩ := h.2 i c' hc
    exact ⟨v', u', by rw [List.getElem?_append_left (by rw [h.1]; exact hi')]; exact h1, h2, h3⟩
  · rw [List.getElem?_append_right (by omega)] at hc
    have hi0 : i - l.length = 0 := by
      have := (List.getElem?_eq_some_iff.1 hc).1
      simp at this
      omega
    rw [hi0] at hc
    simp at hc
    subst hc
    exact ⟨v, u, by rw [List.getElem?_append_right (by rw [h.1]; omega), h.1, hi0]; rfl, hv, hu⟩
theorem ClsIs.keep {w w' : World} {hi : Nat} {es : List (Bs × Value)} {l : List Idn.Cl} (h : ClsIs w hi es l) (hb : Below hi w w') : ClsIs w' hi es l :=
  ⟨h.1, fun i c hc => by
    obtain ⟨v, u, h1, h2, h3⟩ := h.2 i c hc
    exact ⟨v, u, h1, SlV.keep h2 hb, SlV.keep h3 hb⟩⟩
theorem MapIs.ne {w : World} {b : Nat} {l : List (Bs × Value)} (h : MapIs w b l) {p i : Nat} {v : Value} (hc : w.cell? ⟨p, i, none⟩ = some v) : b ≠ p := by
  obtain ⟨es, c, hb, _⟩ := h
  rintro rfl
  simp [World.cell?, hb] at hc
theorem MapIs.set {w : World} {b : Nat} {l : List (Bs × Value)} (h : MapIs w b l) {p i : Nat} (v : Value) (hp : b ≠ p) : MapIs (w.setCell ⟨p, i, none⟩ v) b l :=
  h.block (Below.heap_setCell w ⟨p, i, none⟩ v b hp)
theorem ClsIs.whole {w : World} {hi : Nat} {es : List (Bs × Value)} {l : List Idn.Cl} {k : Nat} (h : ClsIs w hi es (l.take k)) (hk : l.length ≤ k) : ClsIs w hi es l := by rw [List.take_of_length_le hk] at h; exact h
/-- the maps of a schema -/
def KnV (w : World) (hi : Nat) (m1 m2 : Value) (s : Idn.Sch) : Prop := MapV w m1 (tyE s.types) ∧ ∃ es, MapV w m2 es ∧ ClsIs w hi es s.classes
def sound (s : Idn.Sch) : Idn.Sch := if Idn.sCheck s = 0 then s else ⟨[], []⟩
theorem KnV.empty (w : World) (hi : Nat) : KnV w hi (.map none) (.map none) ⟨[], []⟩ := ⟨.inl ⟨rfl, rfl⟩, [], .inl ⟨rfl, rfl⟩, rfl, fun i c h => by simp at h⟩

set_option maxHeartbeats 2000000 in
set_option maxRecDepth 100000 in
theorem examine_any (v : Value) (s : Idn.Sch) (w : World) (hi : Nat) (hhi : hi ≤ w.heap.size) (hv0 : SchV w hi v s) (hs : SSm s) :
    Calls Tryz.prog 69 #[v] w fun e w' => ∃ m1 m2, e = .returned (.tuple #[.agg #[m1, m2], .int .i64 (Idn.sCheck s)]) ∧ Below w.heap.size w w' ∧ KnV w' hi m1 m2 (sound s) := by
  obtain ⟨a, b, rfl, hT0, hC0⟩ := hv0
  obtain ⟨A, ca, rfl, hca⟩ := SlV.shape hT0
  obtain ⟨A', cb, rfl, hcb⟩ := SlV.shape hC0
  have hT : TypesV w w.heap.size (.slice A s.types.length ca) s.types := SlV.mono hT0 hhi
  clear hT0
  have hcl := hs.2.1
  have htl := hs.1.1
  generalize hrr : Idn.sCheck s = r
  have hR0 : Hid _ := hrr
  have hrr0 : Hid _ := hrr
  have hz : r ≠ 0 → sound s = ⟨[], []⟩ := fun h => if_neg (by rw [hrr]; exact h)
  clear hrr
  by_cases h1 : 64 < s.types.length
  · have h1' : (64 : Int) < (s.types.length : Int) := by omega
    have hR : Hid (r = 3) := by show _ = _; rw [← hR0.out]; unfold Idn.sCheck; rw [decide_eq_true h1]; rfl
    have hzz : Hid (sound s = ⟨[], []⟩) := hz (by rw [hR.out]; decide)
    clear hR0 hz
    have hmm := @run_makeMap Tryz.prog
    go_enter Tryz.func69, Tryz.ntmps69
    go_wp2
    exact bodyPost_ret (v := .tuple #[.agg #[.map none, .map none], .int .i64 3]) (by simp [results, Tryz.results69, go_sem]) rfl ⟨_, _, by rw [hR.out], (((((Below.refl _ _).alloc (Nat.le_refl _) _).alloc (by simp) _).alloc (by simp; omega) _).alloc (by simp; omega) _ |>.alloc (by simp; omega) _), by rw [hzz.out]; exact KnV.empty _ _⟩
  by_cases h2 : 32 < s.classes.length
  · have h1' : (s.types.length : Int) ≤ (64 : Int) := by omega
    have h2' : (32 : Int) < (s.classes.length : Int) := by omega
    have hR : Hid (r = 3) := by show _ = _; rw [← hR0.out]; unfold Idn.sCheck; rw [decide_eq_true h2, Bool.or_true]; rfl
    have hzz : Hid (sound s = ⟨[], []⟩) := hz (by rw [hR.out]; decide)
    clear hR0 hz
    have hmm := @run_makeMap Tryz.prog
    go_enter Tryz.func69, Tryz.ntmps69
    go_wp2
    exact bodyPost_ret (v := .tuple #[.agg #[.map none, .map none], .int .i64 3]) (by simp [results, Tryz.results69, go_sem]) rfl ⟨_, _, by rw [hR.out], (((((Below.refl _ _).alloc (Nat.le_refl _) _).alloc (by simp) _).alloc (by simp; omega) _).alloc (by simp; omega) _ |>.alloc (by simp; omega) _), by rw [hzz.out]; exact KnV.empty _ _⟩
  have h1' : (s.types.length : Int) ≤ (64 : Int) := by omega
  have h2' : (s.classes.length : Int) ≤ (32 : Int) := by omega
  have hR : Hid (r = if Idn.tysErr [] s.types != 0 then Idn.tysErr [] s.types else if Idn.clsErr s.types [] s.classes != 0 then Idn.clsErr s.types [] s.classes else Idn.mainErr s.types) := by
    show _ = _; rw [← hR0.out]; unfold Idn.sCheck; rw [decide_eq_false h1, decide_eq_false h2]; rfl
  clear hR0 h1 h2
  have hmm := @run_makeMap Tryz.prog
  go_enter Tryz.func69, Tryz.ntmps69
  go_wp2
  clear hmm
  with_reducible refine gen5 (R := fun W => Code.wp Tryz.prog _ _ _ W) ?_
  intro W hbW hszW hc1 hc2 f2 hm1 hm2 hc5
  have a0 := hc1 0 _ rfl
  have a1 := hc1 1 _ rfl
  have r0 := hc2 0 _ rfl
  have r1 := hc2 1 _ rfl
  have g0 := f2 0
  have g1 := f2 1
  have k0 := hc5 0 _ rfl
  have k1 := hc5 1 _ rfl
  clear hc1 hc2 f2 hc5 h1' h2'
  go_loopw [30] (fun i wr => ∃ k : Nat, k ≤ s.types.length ∧ i = .int .i64 k ∧ But (w.heap.size + 1 + 1) W wr ∧ MapIs wr (w.heap.size + 1 + 1) (tyE (s.types.take k)) ∧ Hid (Idn.tysErr [] s.types = Idn.tysErr (s.types.take k) (s.types.drop k))) (fun i _ => s.types.length - (intOf i).toNat)
  case atStart => exact ⟨0, Nat.zero_le _, rfl, But.refl _ _, by simpa [tyE] using hm1, by show _ = _; simp⟩
  case round =>
    obtain ⟨k, hk, rfl, hbt, hmk, hinv⟩ := hrel
    have hbw : Below w.heap.size w wr := hbW.trans (hbt.below (by omega) (by omega))
    by_cases hlt : k < s.types.length
    · obtain ⟨b, off, rfl, hbl, c0, c1, c2⟩ := TypesV.cell (SlV.keep hT hbw) hlt
      have hmem := hs.1.2 s.types[k] (List.getElem_mem hlt)
      have hltI : (k : Int) < (s.types.length : Int) := by omega
      have hstep := Idn.tys_step s.types k hlt _ hinv.out
      clear hinv
      replace k0 := hbt.cell k0 (by omega) (by omega)
      replace k1 := hbt.cell k1 (by omega) (by omega)
      have ba := (Below.refl wr.heap.size wr).alloc (Nat.le_refl _) (.cells #[.string (B s.types[k].name), .int .i64 s.types[k].syn, .bool s.types[k].single] 58)
      have K0 := cell_later ba k0
      have K1 := cell_later ba k1
      clear ba
      go_wp2_with fail
      with_reducible refine gen1 (R := fun W => Calls Tryz.prog 116 _ W _) ?_
      intro W1 hbW1 hszW1 _ _
      refine (addType_any (w.heap.size + 1 + 1) (w.heap.size + 1 + 1 + 1) _ s.types[k] W1 (hmk.keep hbW1) hmem).mono ?_
      rintro e w6 ⟨rfl, hbt6, hm6⟩
      have hbt' : But (w.heap.size + 1 + 1) W w6 := hbt.trans ((But.of_below hbW1 _).trans hbt6)
      have hbw6 : Below w.heap.size w w6 := hbW.trans (hbt'.below (by omega) (by omega))
      clear c0 c1 c2 hbW1 hszW1 hmk K0 K1
      by_cases he : Idn.tyErr (s.types.take k) s.types[k] = 0
      · have HF : Hid (Idn.tysErr [] s.types = Idn.tysErr (s.types.take (k + 1)) (s.types.drop (k + 1))) := hstep.2 he
        have hm7 := hm6 he
        rw [← List.take_succ_eq_append_getElem hlt] at hm7
        rw [he]
        clear hstep he hm6
        go_wp2
        go_roundw
        case rel => exact ⟨k + 1, by omega, by go_num, hbt', hm7, HF⟩
        case measure => simp [intOf]; omega
      · have h0 := hstep.1 he
        have HF : Hid (r = Idn.tyErr (s.types.take k) s.types[k]) := by show _ = _; rw [hR.out, h0, if_pos (by simpa using he)]
        have hzz : Hid (sound s = ⟨[], []⟩) := hz (by rw [HF.out]; exact he)
        clear hstep h0 hm6 hz
        generalize Idn.tyErr (s.types.take k) s.types[k] = x at *
        have he1 : (x == 0) = false := by simpa using he
        have he2 : (x != 0) = true := by simpa using he
        replace r0 := hbt'.cell r0 (by omega) (by omega)
        replace r1 := hbt'.cell r1 (by omega) (by omega)
        replace g0 := hbt'.frozen g0 (by omega) (by omega)
        replace g1 := hbt'.frozen g1 (by omega) (by omega)
        go_wp2
        exact bodyPost_ret (v := .tuple #[.agg #[.map none, .map none], .int .i64 x]) (by simp [results, Tryz.results69, go_sem, r0, r1, g0, g1]) rfl ⟨_, _, by rw [HF.out], ((hbw6.setCell (by simp) _).setCell (by simp) _), by rw [hzz.out]; exact KnV.empty _ _⟩
    · have hA : Hid (Idn.tysErr [] s.types = 0) := by show _ = _; rw [hinv.out, List.drop_eq_nil_of_le (by omega)]; rfl
      have hmx : ¬ ((k : Int) < (s.types.length : Int)) := by omega
      have hR2 : Hid (r = if Idn.clsErr s.types [] s.classes != 0 then Idn.clsErr s.types [] s.classes else Idn.mainErr s.types) := by
        show _ = _; rw [hR.out, hA.out]; rfl
      have hm1' : MapIs wr (w.heap.size + 1 + 1) (tyE s.types) := by rw [List.take_of_length_le (by omega)] at hmk; exact hmk
      have hm2' : MapIs wr (w.heap.size + 1 + 1 + 1) [] := hm2.but hbt (by omega)
      have hszr : w.heap.size + 5 ≤ wr.heap.size := by have := hbt.size; omega
      replace a0 := hbt.cell a0 (by omega) (by omega)
      replace a1 := hbt.cell a1 (by omega) (by omega)
      replace k0 := hbt.cell k0 (by omega) (by omega)
      replace k1 := hbt.cell k1 (by omega) (by omega)
      replace r0 := hbt.cell r0 (by omega) (by omega)
      replace r1 := hbt.cell r1 (by omega) (by omega)
      replace g0 := hbt.frozen g0 (by omega) (by omega)
      replace g1 := hbt.frozen g1 (by omega) (by omega)
      clear hinv hlt hR hA hmk hm1 hm2 hbt hszW hbW
      obtain ⟨W5, hW5⟩ : ∃ W5, W5 = wr := ⟨_, rfl⟩
      subst hW5
      go_wp2
      clear hmx
      go_loopw [45] (fun i wr => ∃ (k : Nat) (es : List (Bs × Value)), k ≤ s.classes.length ∧ i = .int .i64 k ∧ But (w.heap.size + 1 + 1 + 1) W5 wr ∧ MapIs wr (w.heap.size + 1 + 1 + 1) es ∧ ClsIs w hi es (s.classes.take k) ∧ Hid (Idn.clsErr s.types [] s.classes = Idn.clsErr s.types (s.classes.take k) (s.classes.drop k))) (fun i _ => s.classes.length - (intOf i).toNat)
      case atStart => exact ⟨0, [], Nat.zero_le _, rfl, But.refl _ _, hm2', ⟨rfl, fun i c h => by simp at h⟩, by show _ = _; simp⟩
      case round =>
        obtain ⟨k, es, hk, rfl, hbt, hmk, hcl', hinv⟩ := hrel
        have hbw' : Below w.heap.size w wr := hbw.trans (hbt.below (by omega) (by omega))
        by_cases hlt : k < s.classes.length
        · obtain ⟨b, off, vm, vn, rfl, hbl, c0, c1, c2, c3, hm, hn⟩ := ClassesV.cell hC0 hlt
          obtain ⟨Am, cm, rfl, hcm⟩ := SlV.shape hm
          obtain ⟨An, cn, rfl, hcn⟩ := SlV.shape hn
          obtain ⟨hs1, hs2, hsm, hsn⟩ := hs.2.2 s.classes[k] (List.getElem_mem hlt)
          replace c0 := cell_later hbw' c0
          replace c1 := cell_later hbw' c1
          replace c2 := cell_later hbw' c2
          replace c3 := cell_later hbw' c3
          have hltI : (k : Int) < (s.classes.length : Int) := by omega
          have hstep := Idn.cls_step s.types s.classes k hlt _ hinv.out
          clear hinv
          replace k0 := hbt.cell k0 (by omega) (by omega)
          replace k1 := hbt.cell k1 (by omega) (by omega)
          have ba := (Below.refl wr.heap.size wr).alloc (Nat.le_refl _) (.cells #[.string (B s.classes[k].name), .string (B s.classes[k].super), .slice Am s.classes[k].must.length cm, .slice An s.classes[k].may.length cn] 50)
          have K0 := cell_later ba k0
          have K1 := cell_later ba k1
          clear ba
          go_wp2_with fail
          with_reducible refine gen1 (R := fun W => Calls Tryz.prog 117 _ W _) ?_
          intro W1 hbW1 hszW1 _ _
          have hbw1 := hbw'.trans (hbW1.mono hbw'.size)
          refine (addClass_any (w.heap.size + 1 + 1) (w.heap.size + 1 + 1 + 1) s.types es (s.classes.take k) s.classes[k] Am cm An cn W1 ((hm1'.but hbt (by omega)).keep hbW1) (hmk.keep hbW1) (by omega) hcl'.K hcl'.Sh (SlV.mono (SlV.keep (SlV.mono hm hhi) hbw1) hbw1.size) (SlV.mono (SlV.keep (SlV.mono hn hhi) hbw1) hbw1.size) hs1 hs2 hsm hsn).mono ?_
          rintro e w6 ⟨rfl, hbt6, hm6⟩
          have hbt' : But (w.heap.size + 1 + 1 + 1) W5 w6 := hbt.trans ((But.of_below hbW1 _).trans hbt6)
          have hbw6 : Below w.heap.size w w6 := hbw.trans (hbt'.below (by omega) (by omega))
          clear c0 c1 c2 c3 hbW1 hszW1 hmk K0 K1 hbw1
          by_cases he : Idn.clErr s.types (s.classes.take k) s.classes[k] = 0
          · have HF : Hid (Idn.clsErr s.types [] s.classes = Idn.clsErr s.types (s.classes.take (k + 1)) (s.classes.drop (k + 1))) := hstep.2 he
            have hm7 := hm6 he
            have hc7 := hcl'.push s.classes[k] hm hn
            rw [← List.take_succ_eq_append_getElem hlt] at hc7
            rw [he]
            clear hstep he hm6
            go_wp2
            go_roundw
            case rel => exact ⟨k + 1, _, by omega, by go_num, hbt', hm7, hc7, HF⟩
            case measure => simp [intOf]; omega
          · have h0 := hstep.1 he
            have HF : Hid (r = Idn.clErr s.types (s.classes.take k) s.classes[k]) := by show _ = _; rw [hR2.out, h0, if_pos (by simpa using he)]
            have hzz : Hid (sound s = ⟨[], []⟩) := hz (by rw [HF.out]; exact he)
            clear hstep h0 hm6 hz
            generalize Idn.clErr s.types (s.classes.take k) s.classes[k] = x at *
            have he1 : (x == 0) = false := by simpa using he
            have he2 : (x != 0) = true := by simpa using he
            replace r0 := hbt'.cell r0 (by omega) (by omega)
            replace r1 := hbt'.cell r1 (by omega) (by omega)
            replace g0 := hbt'.frozen g0 (by omega) (by omega)
            replace g1 := hbt'.frozen g1 (by omega) (by omega)
            go_wp2
            exact bodyPost_ret (v := .tuple #[.agg #[.map none, .map none], .int .i64 x]) (by simp [results, Tryz.results69, go_sem, r0, r1, g0, g1]) rfl ⟨_, _, by rw [HF.out], ((hbw6.setCell (by simp) _).setCell (by simp) _), by rw [hzz.out]; exact KnV.empty _ _⟩
        · have hA : Hid (r = Idn.mainErr s.types) := by show _ = _; rw [hR2.out, hinv.out, List.drop_eq_nil_of_le (by omega)]; rfl
          have hmx : ¬ ((k : Int) < (s.classes.length : Int)) := by omega
          have hm1r : MapIs wr (w.heap.size + 1 + 1) (tyE s.types) := hm1'.but hbt (by omega)
          have hcl2 := hcl'.whole (by omega)
          replace k0 := hbt.cell k0 (by omega) (by omega)
          replace k1 := hbt.cell k1 (by omega) (by omega)
          replace r0 := hbt.cell r0 (by omega) (by omega)
          replace r1 := hbt.cell r1 (by omega) (by omega)
          replace g0 := hbt.frozen g0 (by omega) (by omega)
          replace g1 := hbt.frozen g1 (by omega) (by omega)
          have hszr' : w.heap.size + 5 ≤ wr.heap.size := by have := hbt.size; omega
          have ec : L ⟨#[99, 108, 97, 115, 115]⟩ = Idn.lower Idn.mainN := by decide
          clear hinv hlt hcl' hbt hm1' hbw
          cases hx : Idn.ixT s.types Idn.mainN with
          | none =>
            have HF : Hid (r = 6) := by show _ = _; rw [hA.out, Idn.mainErr, hx]
            have hzz : Hid (sound s = ⟨[], []⟩) := hz (by rw [HF.out]; decide)
            have hva : (lk (tyE s.types) (L ⟨#[99, 108, 97, 115, 115]⟩)).getD (.agg #[.string ⟨#[]⟩, .int .i64 0, .bool false]) = .agg #[.string ⟨#[]⟩, .int .i64 0, .bool false] := by rw [ec, lk_ty_none hx]; rfl
            have hsome : (lk (tyE s.types) (L ⟨#[99, 108, 97, 115, 115]⟩)).isSome = false := by rw [ec, lk_ty_none hx]; rfl
            have ba := (Below.refl wr.heap.size wr).alloc (Nat.le_refl _) (.cells #[.string ⟨#[]⟩, .int .i64 0, .bool false] 58)
            have R0 := cell_later ba r0
            have R1 := cell_later ba r1
            have G0 := (ba.frozen (p := ⟨w.heap.size + 1, 0, none⟩) (by show w.heap.size + 1 < _; omega)).trans g0
            have G1 := (ba.frozen (p := ⟨w.heap.size + 1, 1, none⟩) (by show w.heap.size + 1 < _; omega)).trans g1
            have hbwa := hbw'.trans (ba.mono hbw'.size)
            clear ba hx ec hz
            go_wp2_with (at_lookup; refine wpList_look wr rfl _ _ 66 rfl 9 58 Tryz.underlying9 Tryz.underlying66 (zeroAT _) hm1r.v rfl ⟨#[99, 108, 97, 115, 115]⟩ rfl hva hsome ?_)
            exact bodyPost_ret (v := .tuple #[.agg #[.map none, .map none], .int .i64 6]) (by simp [results, Tryz.results69, go_sem, R0, R1, G0, G1]) rfl ⟨_, _, by rw [HF.out], ((hbwa.setCell (by simp) _).setCell (by simp) _), by rw [hzz.out]; exact KnV.empty _ _⟩
          | some j =>
            have hjl := Idn.ixT_lt _ _ _ hx
            obtain ⟨t, ht, hlk⟩ := lk_ty_some hx
            have HF : Hid (r = if t.syn != 1 then 8 else 0) := by show _ = _; rw [hA.out, Idn.mainErr, hx]; simp only [ht]
            have hva : (lk (tyE s.types) (L ⟨#[99, 108, 97, 115, 115]⟩)).getD (.agg #[.string ⟨#[]⟩, .int .i64 0, .bool false]) = .agg #[.string (B t.name), .int .i64 t.syn, .bool t.single] := by rw [ec, hlk]; rfl
            have hsome : (lk (tyE s.types) (L ⟨#[99, 108, 97, 115, 115]⟩)).isSome = true := by rw [ec, hlk]; rfl
            have ba := (Below.refl wr.heap.size wr).alloc (Nat.le_refl _) (.cells #[.string (B t.name), .int .i64 t.syn, .bool t.single] 58)
            have R0 := cell_later ba r0
            have R1 := cell_later ba r1
            have K0 := cell_later ba k0
            have K1 := cell_later ba k1
            have G0 := (ba.frozen (p := ⟨w.heap.size + 1, 0, none⟩) (by show w.heap.size + 1 < _; omega)).trans g0
            have G1 := (ba.frozen (p := ⟨w.heap.size + 1, 1, none⟩) (by show w.heap.size + 1 < _; omega)).trans g1
            have hbwa := hbw'.trans (ba.mono hbw'.size)
            have hM1 := hm1r.keep ba
            have hM2 := hmk.keep ba
            clear ba hx ec
            by_cases he : t.syn = 1
            · have he1 : (t.syn == 1) = true := by simpa using he
              have HG : Hid (r = 0) := by show _ = _; rw [HF.out, he]; rfl
              have hss : Hid (sound s = s) := if_pos (by rw [hrr0.out, HG.out])
              clear HF he hz
              go_wp2_with (at_lookup; refine wpList_look wr rfl _ _ 66 rfl 9 58 Tryz.underlying9 Tryz.underlying66 (zeroAT _) hm1r.v rfl ⟨#[99, 108, 97, 115, 115]⟩ rfl hva hsome ?_)
              exact bodyPost_ret (v := .tuple #[.agg #[.map (some (w.heap.size + 1 + 1)), .map (some (w.heap.size + 1 + 1 + 1))], .int .i64 0]) (by simp [results, Tryz.results69, go_sem, R0, R1, G0, G1]) rfl ⟨_, _, by rw [HG.out], ((hbwa.setCell (by simp) _).setCell (by simp) _), by
                rw [hss.out]
                exact ⟨((hM1.set _ (by omega)).set _ (by omega)).v, es, ((hM2.set _ (by omega)).set _ (by omega)).v, hcl2.keep (((hbwa.setCell (by simp) _).setCell (by simp) _).mono hhi)⟩⟩
            · have he1 : (t.syn == 1) = false := by simpa using he
              have HG : Hid (r = 8) := by show _ = _; rw [HF.out, if_pos (by simpa using he)]
              have hzz : Hid (sound s = ⟨[], []⟩) := hz (by rw [HG.out]; decide)
              clear HF he hz
              go_wp2_with (at_lookup; refine wpList_look wr rfl _ _ 66 rfl 9 58 Tryz.underlying9 Tryz.underlying66 (zeroAT _) hm1r.v rfl ⟨#[99, 108, 97, 115, 115]⟩ rfl hva hsome ?_)
              exact bodyPost_ret (v := .tuple #[.agg #[.map none, .map none], .int .i64 8]) (by simp [results, Tryz.results69, go_sem, R0, R1, G0, G1]) rfl ⟨_, _, by rw [HG.out], ((hbwa.setCell (by simp) _).setCell (by simp) _), by rw [hzz.out]; exact KnV.empty _ _⟩
end Go.Proofs.YtnikolglippfmaaGreatDoor
/- Check, look, Type. -/
namespace Go.Proofs.YtnikolglippfmaaGreatDoor
open Go.RowKit Go.Sort
open Idn (L B Bs drop_L take_L size_L)

theorem gen2f {R : World → Prop} {w : World} {C1 C2 : Array Value} {t1 t2 : TypeId}
    (h : ∀ W, Below w.heap.size w W → W.heap.size = w.heap.size + 2 → (∀ (i : Nat) (v : Value), C1[i]? = some v → W.cell? ⟨w.heap.size, i, none⟩ = some v) → (∀ (i : Nat) (v : Value), C2[i]? = some v → W.cell? ⟨w.heap.size + 1, i, none⟩ = some v) → (∀ i, W.frozen? ⟨w.heap.size + 1, i, none⟩ = false) → R W) : R ((w.alloc (.cells C1 t1)).alloc (.cells C2 t2)) := by
  have e1 : (w.alloc (.cells C1 t1)).heap.size = w.heap.size + 1 := by simp
  have hnew : ((w.alloc (.cells C1 t1)).alloc (.cells C2 t2)).heap[w.heap.size + 1]? = some (.cells C2 t2 (0, 0)) := by
    rw [← e1]; exact heap_alloc_new _ _
  refine gen2 (R := fun W => W = ((w.alloc (.cells C1 t1)).alloc (.cells C2 t2)) → R W) (fun W a b c d e => ?_) rfl
  subst e
  exact h _ a b c d (fun i => Lib.frozen_of_heap hnew i)
theorem MapV.one {w : World} {v : Value} {l : List (Bs × Value)} (h : MapV w v l) : v.oneCell' = true := by
  rcases h with ⟨rfl, _⟩ | ⟨b, rfl, _⟩ <;> rfl
theorem MapV.shape {w : World} {v : Value} {l : List (Bs × Value)} (h : MapV w v l) : ∃ o, v = .map o := by
  rcases h with ⟨rfl, _⟩ | ⟨b, rfl, _⟩ <;> exact ⟨_, rfl⟩
theorem KnV.shape {w : World} {hi : Nat} {m1 m2 : Value} {s : Idn.Sch} (h : KnV w hi m1 m2 s) : ∃ o1 o2, m1 = .map o1 ∧ m2 = .map o2 := by
  obtain ⟨o1, h1⟩ := h.1.shape
  obtain ⟨es, h2, _⟩ := h.2
  obtain ⟨o2, h2⟩ := h2.shape
  exact ⟨o1, o2, h1, h2⟩
theorem MapV.set2 {w : World} {m : Value} {l : List (Bs × Value)} (h : MapV w m l) {p i : Nat} {x : Value} (hc : w.cell? ⟨p, i, none⟩ = some x) (v u : Value) {j k : Nat} : MapV ((w.setCell ⟨p, j, none⟩ v).setCell ⟨p, k, none⟩ u) m l := by
  rcases h with h | ⟨b, h1, h2⟩
  · exact .inl h
  · exact .inr ⟨b, h1, (h2.set v (h2.ne hc)).set u (h2.ne hc)⟩
theorem KnV.set2 {w : World} {hi : Nat} {m1 m2 : Value} {s : Idn.Sch} (h : KnV w hi m1 m2 s) {p i : Nat} {x : Value} (hc : w.cell? ⟨p, i, none⟩ = some x) (v u : Value) {j k : Nat} (hp : hi ≤ p) : KnV ((w.setCell ⟨p, j, none⟩ v).setCell ⟨p, k, none⟩ u) hi m1 m2 s := by
  obtain ⟨h1, es, h2, h3⟩ := h
  exact ⟨h1.set2 hc v u, es, h2.set2 hc v u, h3.keep ⟨rfl, rfl, rfl, by simp, fun q hq => by
    rw [Below.heap_setCell _ _ _ _ (by show q ≠ p; omega), Below.heap_setCell _ _ _ _ (by show q ≠ p; omega)]⟩⟩
theorem KnV.keep {w w' : World} {hi : Nat} {m1 m2 : Value} {s : Idn.Sch} (h : KnV w hi m1 m2 s) (hb : Below w.heap.size w w') (hh : hi ≤ w.heap.size) : KnV w' hi m1 m2 s := by
  obtain ⟨h1, es, h2, h3⟩ := h
  exact ⟨h1.keep hb, es, h2.keep hb, h3.keep (hb.mono hh)⟩

set_option maxHeartbeats 1000000 in
set_option maxRecDepth 100000 in
theorem schCheck_any (v : Value) (s : Idn.Sch) (w : World) (hv : SchV w w.heap.size v s) (hs : SSm s) :
    Calls Tryz.prog 22 #[v] w fun e w' => e = .returned (.int .i64 (Idn.sCheck s)) ∧ Below w.heap.size w w' := by
  have hE := fun W (hW : Below w.heap.size w W) => examine_any v s W w.heap.size hW.size (SchV.keep hv hW) hs
  obtain ⟨a, b, rfl, hT, hC⟩ := hv
  obtain ⟨A, ca, rfl, hca⟩ := SlV.shape hT
  obtain ⟨A', cb, rfl, hcb⟩ := SlV.shape hC
  clear hT hC
  generalize hrr : Idn.sCheck s = r at *
  have hR0 := Lib.hid hrr
  clear hrr
  go_enter Tryz.func22, Tryz.ntmps22
  go_wp2_with fail
  with_reducible refine gen1 (R := fun W => Calls Tryz.prog 69 _ W _) ?_
  intro W hbW _ _ _
  refine (hE W hbW).mono ?_
  rintro e w1 ⟨m1, m2, rfl, hb1, hk⟩
  obtain ⟨o1, o2, rfl, rfl⟩ := hk.shape
  clear hk hE
  have hbw1 := hbW.trans (hb1.mono hbW.size)
  go_wp2
  go_ret
  exact ⟨rfl, hbw1.alloc hbw1.size _⟩

set_option maxHeartbeats 1000000 in
set_option maxRecDepth 100000 in
theorem look_any (v : Value) (s : Idn.Sch) (w : World) (hv : SchV w w.heap.size v s) (hs : SSm s) :
    Calls Tryz.prog 35 #[v] w fun e w' => ∃ m1 m2, e = .returned (.agg #[m1, m2]) ∧ Below w.heap.size w w' ∧ KnV w' w.heap.size m1 m2 (sound s) := by
  have hE := fun W (hW : Below w.heap.size w W) => examine_any v s W w.heap.size hW.size (SchV.keep hv hW) hs
  have hv0 := hv
  obtain ⟨a, b, rfl, hT, hC⟩ := hv
  obtain ⟨A, ca, rfl, hca⟩ := SlV.shape hT
  obtain ⟨A', cb, rfl, hcb⟩ := SlV.shape hC
  clear hT hC hv0
  go_enter Tryz.func35, Tryz.ntmps35
  go_wp2_with fail
  with_reducible refine gen2f (R := fun W => Calls Tryz.prog 69 _ W _) ?_
  intro W hbW hszW _ hc2 hf2
  have r0 := hc2 0 _ rfl
  have r1 := hc2 1 _ rfl
  have hf : W.frozen? ⟨w.heap.size + 1, 0, none⟩ = false ∧ W.frozen? ⟨w.heap.size + 1, 1, none⟩ = false := ⟨hf2 0, hf2 1⟩
  clear hc2 hf2
  refine (hE W hbW).mono ?_
  rintro e w1 ⟨m1, m2, rfl, hb1, hk⟩
  obtain ⟨o1, o2, rfl, rfl⟩ := hk.shape
  have hbw1 := hbW.trans (hb1.mono hbW.size)
  have ba := hb1.alloc hb1.size (.cells #[.map o1, .map o2] 69)
  have R0 := cell_later ba r0
  have R1 := cell_later ba r1
  have G0 := (ba.frozen (p := ⟨w.heap.size + 1, 0, none⟩) (by show w.heap.size + 1 < _; omega)).trans hf.1
  have G1 := (ba.frozen (p := ⟨w.heap.size + 1, 1, none⟩) (by show w.heap.size + 1 < _; omega)).trans hf.2
  have hbwa := hbW.trans (ba.mono hbW.size)
  have hk' := hk.keep ((Below.refl w1.heap.size w1).alloc (Nat.le_refl _) (.cells #[.map o1, .map o2] 69)) (Nat.le_trans hbW.size hb1.size)
  clear ba hf r0 r1 hE
  have hz : w.heap.size + 1 < w.heap.size + 2 := by omega
  go_wp2
  exact bodyPost_ret (v := .agg #[.map o1, .map o2]) (by simp [results, Tryz.results35, go_sem, R0, R1, G0, G1]) rfl ⟨_, _, rfl, (hbwa.setCell (by simp) _).setCell (by simp) _, hk'.set2 R0 _ _ (by omega)⟩
end Go.Proofs.YtnikolglippfmaaGreatDoor
/- schema.Type. -/
namespace Go.Proofs.YtnikolglippfmaaGreatDoor
open Go.RowKit Go.Sort
open Idn (L B Bs drop_L take_L size_L)

def tyLook (s : Idn.Sch) (n : Bs) : Idn.AT × Bool :=
  match Idn.ixT s.types n with
  | none => (⟨[], 0, false⟩, false)
  | some k => match s.types[k]? with
    | none => (⟨[], 0, false⟩, false)
    | some t => (t, true)
theorem tyLook_lk (s : Idn.Sch) (n : Bs) : (lk (tyE s.types) (Idn.lower n)).getD (.agg #[.string ⟨#[]⟩, .int .i64 0, .bool false]) = tyV (tyLook s n).1 ∧ (lk (tyE s.types) (Idn.lower n)).isSome = (tyLook s n).2 := by
  unfold tyLook
  cases h : Idn.ixT s.types n with
  | none => rw [lk_ty_none h]; exact ⟨rfl, rfl⟩
  | some k =>
    obtain ⟨t, ht, h2⟩ := lk_ty_some h
    rw [h2]
    simp only [ht]
    exact ⟨rfl, rfl⟩

theorem field_known (o1 o2 : Option Nat) (w : World) : (Instr.field 69 (.agg #[.map o1, .map o2]) 0).run Tryz.prog w = .ok (.map o1) w := by kernel_rfl

set_option maxHeartbeats 1000000 in
set_option maxRecDepth 100000 in
theorem type_any (v : Value) (s : Idn.Sch) (n : ByteArray) (w : World) (hv : SchV w w.heap.size v s) (hs : SSm s) (hn : n.size ≤ 1000000000) :
    Calls Tryz.prog 33 #[v, .string n] w fun e w' => e = .returned (.tuple #[tyV (tyLook (sound s) (L n)).1, .bool (tyLook (sound s) (L n)).2]) ∧ Below w.heap.size w w' := by
  have hE := fun W (hW : Below w.heap.size w W) => look_any v s W (SchV.mono (SchV.keep hv hW) hW.size) hs
  have hl := fun W => lower_any n W (by omega)
  obtain ⟨hva, hsome⟩ := tyLook_lk (sound s) (L n)
  generalize tyLook (sound s) (L n) = rr at *
  obtain ⟨⟨ta, tb, tc⟩, td⟩ := rr
  unfold tyV at hva ⊢
  simp only [sv] at hva ⊢
  obtain ⟨a, b, rfl, hT, hC⟩ := hv
  obtain ⟨A, ca, rfl, hca⟩ := SlV.shape hT
  obtain ⟨A', cb, rfl, hcb⟩ := SlV.shape hC
  clear hT hC
  go_enter Tryz.func33, Tryz.ntmps33
  go_wp2_with fail
  with_reducible refine gen2f (R := fun W => Calls Tryz.prog 35 _ W _) ?_
  intro W hbW hszW _ hc2 hf2
  have r0 := hc2 0 _ rfl
  have r1 := hc2 1 _ rfl
  have r2 := hc2 2 _ rfl
  have hf : W.frozen? ⟨w.heap.size + 1, 0, none⟩ = false ∧ W.frozen? ⟨w.heap.size + 1, 1, none⟩ = false ∧ W.frozen? ⟨w.heap.size + 1, 2, none⟩ = false := ⟨hf2 0, hf2 1, hf2 2⟩
  clear hc2 hf2
  refine (hE W hbW).mono ?_
  rintro e w1 ⟨m1, m2, rfl, hb1, hk⟩
  obtain ⟨o1, o2, rfl, rfl⟩ := hk.shape
  have hfd := field_known o1 o2 w1
  go_wp2_with fail
  refine (hl w1).mono ?_
  rintro e w2 ⟨rfl, hb2⟩
  have hk2 := hk.1.keep hb2
  have hb12 : Below W.heap.size W w2 := hb1.trans (hb2.mono hb1.size)
  have ba := hb12.alloc hb12.size (.cells #[.string (B ta), .int .i64 tb, .bool tc] 58)
  have R0 := cell_later ba r0
  have R1 := cell_later ba r1
  have R2 := cell_later ba r2
  have G0 := (ba.frozen (p := ⟨w.heap.size + 1, 0, none⟩) (by show w.heap.size + 1 < _; omega)).trans hf.1
  have G1 := (ba.frozen (p := ⟨w.heap.size + 1, 1, none⟩) (by show w.heap.size + 1 < _; omega)).trans hf.2.1
  have G2 := (ba.frozen (p := ⟨w.heap.size + 1, 2, none⟩) (by show w.heap.size + 1 < _; omega)).trans hf.2.2
  have hbwa := hbW.trans (ba.mono hbW.size)
  have hne : w.heap.size + 1 ≠ w2.heap.size := by have := hb12.size; omega
  clear ba hf r0 r1 r2 hE hl
  rw [← Idn.L_B (Idn.lower (L n))] at hva hsome
  go_wp2_with (at_lookup; refine wpList_look w2 rfl _ _ 66 rfl 9 58 Tryz.underlying9 Tryz.underlying66 (zeroAT _) hk2 rfl (B (Idn.lower (L n))) rfl hva hsome ?_)
  exact bodyPost_ret (v := .tuple #[.agg #[.string (B ta), .int .i64 tb, .bool tc], .bool td]) (by simp [results, Tryz.results33, go_sem, R0, R1, R2, G0, G1, G2, hne]) rfl ⟨rfl, ((hbwa.setCell (by simp) _).setCell (by simp) _).setCell (by simp) _⟩
end Go.Proofs.YtnikolglippfmaaGreatDoor
/- lineage: what the maps hand over. -/
namespace Go.Proofs.YtnikolglippfmaaGreatDoor
open Go.RowKit Go.Sort
open Idn (L B Bs drop_L take_L size_L)

def zCl : Value := .agg #[.string ⟨#[]⟩, .string ⟨#[]⟩, .slice none 0 0, .slice none 0 0]
def valAt (es : List (Bs × Value)) (o : Option Nat) : Value := ((o.bind fun k => es[k]?).map (·.2)).getD zCl
theorem lk_val {es : List (Bs × Value)} {l : List Idn.Cl} (h : ClK es l) (n : Bs) : (lk es (Idn.lower n)).getD zCl = valAt es (Idn.ixC l n) := by
  rw [← h.idx, lk, find_ix]; rfl
theorem ClSh.val {es : List (Bs × Value)} (h : ClSh es) (o : Option Nat) : ∃ a b A k c A' k' c', valAt es o = .agg #[.string a, .string b, .slice A k c, .slice A' k' c'] := by
  unfold valAt
  cases o with
  | none => exact ⟨_, _, _, _, _, _, _, _, rfl⟩
  | some k =>
    simp only [Option.bind_some]
    cases hx : es[k]? with
    | none => exact ⟨_, _, _, _, _, _, _, _, rfl⟩
    | some p =>
      obtain ⟨a, b, A, k, c, A', k', c', h'⟩ := h p (List.mem_of_getElem? hx)
      exact ⟨a, b, A, k, c, A', k', c', by simp [h']⟩
/-- the cells of class k -/
def cellsAt (es : List (Bs × Value)) (k : Nat) : List Value := match valAt es (some k) with | .agg cs => cs.toList | _ => []
theorem ClsIs.val {w : World} {hi : Nat} {es : List (Bs × Value)} {l : List Idn.Cl} (h : ClsIs w hi es l) {k : Nat} (hk : k < l.length) :
    ∃ v u, valAt es (some k) = .agg #[.string (B l[k].name), .string (B l[k].super), v, u] ∧ cellsAt es k = [sv l[k].name, sv l[k].super, v, u] ∧ StrsV w hi v l[k].must ∧ StrsV w hi u l[k].may := by
  obtain ⟨v, u, h1, h2, h3⟩ := h.2 k l[k] (List.getElem?_eq_getElem hk)
  have e : valAt es (some k) = .agg #[.string (B l[k].name), .string (B l[k].super), v, u] := by simp [valAt, h1]
  exact ⟨v, u, e, by rw [cellsAt, e]; rfl, h2, h3⟩
theorem MapV.eqn {w : World} {m2 : Value} {es : List (Bs × Value)} {l : List Idn.Cl} (h : MapV w m2 es) (hK : ClK es l) (n : Bs) :
    (Instr.lookup 67 m2 (.string (B (Idn.lower n))) true).run Tryz.prog w = .ok (.tuple #[valAt es (Idn.ixC l n), .bool (Idn.ixC l n).isSome]) w := by
  have := h.run (P := Tryz.prog) Tryz.underlying9 Tryz.underlying67 (zeroCL _) (B (Idn.lower n))
  rw [Idn.L_B] at this
  rw [this]
  have e1 := lk_val hK n
  unfold zCl at e1
  rw [e1, hK.lk n]
/-- the classes of a list of indexes, read out of a row of their cells -/
theorem cells_read {w : World} {hi : Nat} {es : List (Bs × Value)} {l : List Idn.Cl} (h : ClsIs w hi es l) : ∀ (acc : List Nat), (∀ k ∈ acc, k < l.length) →
    (acc.filterMap (l[·]?)).length = acc.length ∧ (acc.flatMap (cellsAt es)).length = acc.length * 4 ∧ ∀ (i : Nat) (x : Idn.Cl), (acc.filterMap (l[·]?))[i]? = some x → ∃ cs : List Value, cs.length = 4 ∧ EC w hi x cs ∧ ∀ (j : Nat) (u : Value), cs[j]? = some u → (acc.flatMap (cellsAt es))[i * 4 + j]? = some u
  | [], _ => ⟨rfl, rfl, fun i x hx => by simp at hx⟩
  | k :: acc, hb => by
    obtain ⟨ih1, ih0, ih⟩ := cells_read h acc (fun j hj => hb j (List.mem_cons_of_mem _ hj))
    have hk := hb k List.mem_cons_self
    obtain ⟨v, u, e1, e2, hv, hu⟩ := h.val hk
    have hf : (k :: acc).filterMap (l[·]?) = l[k] :: acc.filterMap (l[·]?) := by simp [List.filterMap_cons, hk]
    refine ⟨by rw [hf]; simp [ih1], by simp [e2, ih0]; omega, fun i x hx => ?_⟩
    rw [hf] at hx
    cases i with
    | zero =>
      simp at hx
      subst hx
      refine ⟨[sv l[k].name, sv l[k].super, v, u], rfl, ⟨v, u, rfl, hv, hu⟩, fun j u' hj => ?_⟩
      have hj4 : j < 4 := (List.getElem?_eq_some_iff.1 hj).1
      rw [List.flatMap_cons, e2, List.getElem?_append_left (by simp; omega)]
      simpa using hj
    | succ i =>
      simp only [List.getElem?_cons_succ] at hx
      obtain ⟨cs, h1, h2, h3⟩ := ih i x hx
      refine ⟨cs, h1, h2, fun j u' hj => ?_⟩
      rw [List.flatMap_cons, e2, List.getElem?_append_right (by simp; omega)]
      have := h3 j u' hj
      rw [← this]
      congr 1
      simp
      omega
end Go.Proofs.YtnikolglippfmaaGreatDoor
/- Walks of the reference of layer 7: sound. -/
namespace Go.Proofs.YtnikolglippfmaaGreatDoor
open Go.RowKit Go.Sort
open Idn (L B Bs drop_L take_L size_L)

set_option maxHeartbeats 1000000 in
set_option maxRecDepth 100000 in
theorem r_sound_any (v : Value) (s : Idn.Sch) (w : World) (hv : SchV w w.heap.size v s) (hs : SSm s) :
    Calls Tryz.prog 77 #[v] w fun e w' => ∃ v', e = .returned v' ∧ Below w.heap.size w w' ∧ SchV w' w.heap.size v' (sound s) := by
  have hE := fun W (hW : Below w.heap.size w W) => r_check_any v s W (SchV.mono (SchV.keep hv hW) hW.size) hs
  have hv0 := hv
  obtain ⟨a, b, rfl, hT, hC⟩ := hv
  obtain ⟨A, ca, rfl, hca⟩ := SlV.shape hT
  obtain ⟨A', cb, rfl, hcb⟩ := SlV.shape hC
  clear hT hC
  by_cases h : Idn.sCheck s = 0
  · have hss : Hid (sound s = s) := if_pos h
    rw [h] at hE
    clear h
    go_enter Tryz.func77, Tryz.ntmps77
    go_wp2_with fail
    with_reducible refine gen2f (R := fun W => Calls Tryz.prog 61 _ W _) ?_
    intro W hbW hszW hc1 hc2 hf2
    have hf : W.frozen? ⟨w.heap.size + 1, 0, none⟩ = false ∧ W.frozen? ⟨w.heap.size + 1, 1, none⟩ = false := ⟨hf2 0, hf2 1⟩
    refine (hE W hbW).mono ?_
    rintro e w1 ⟨rfl, hb1⟩
    have a0 := cell_later hb1 (hc1 0 _ rfl)
    have a1 := cell_later hb1 (hc1 1 _ rfl)
    have r0 := cell_later hb1 (hc2 0 _ rfl)
    have r1 := cell_later hb1 (hc2 1 _ rfl)
    have g0 := (hb1.frozen (p := ⟨w.heap.size + 1, 0, none⟩) (by show w.heap.size + 1 < _; omega)).trans hf.1
    have g1 := (hb1.frozen (p := ⟨w.heap.size + 1, 1, none⟩) (by show w.heap.size + 1 < _; omega)).trans hf.2
    have hbw1 := hbW.trans (hb1.mono hbW.size)
    clear hc1 hc2 hf2 hf hE
    go_wp2
    exact bodyPost_ret (v := .agg #[.slice A s.types.length ca, .slice A' s.classes.length cb]) (by simp [results, Tryz.results77, go_sem, r0, r1, g0, g1]) rfl ⟨_, rfl, (hbw1.setCell (by simp) _).setCell (by simp) _, by rw [hss.out]; exact hv0.keep ((hbw1.setCell (by simp) _).setCell (by simp) _)⟩
  · have hss : Hid (sound s = ⟨[], []⟩) := if_neg h
    generalize Idn.sCheck s = r at *
    have h1 : (r == 0) = false := by simpa using h
    have h2 : (r != 0) = true := by simpa using h
    go_enter Tryz.func77, Tryz.ntmps77
    go_wp2_with fail
    with_reducible refine gen2f (R := fun W => Calls Tryz.prog 61 _ W _) ?_
    intro W hbW hszW hc1 hc2 hf2
    have hf : W.frozen? ⟨w.heap.size + 1, 0, none⟩ = false ∧ W.frozen? ⟨w.heap.size + 1, 1, none⟩ = false := ⟨hf2 0, hf2 1⟩
    refine (hE W hbW).mono ?_
    rintro e w1 ⟨rfl, hb1⟩
    have r0 := cell_later hb1 (hc2 0 _ rfl)
    have r1 := cell_later hb1 (hc2 1 _ rfl)
    have g0 := (hb1.frozen (p := ⟨w.heap.size + 1, 0, none⟩) (by show w.heap.size + 1 < _; omega)).trans hf.1
    have g1 := (hb1.frozen (p := ⟨w.heap.size + 1, 1, none⟩) (by show w.heap.size + 1 < _; omega)).trans hf.2
    have hbw1 := hbW.trans (hb1.mono hbW.size)
    clear hc1 hc2 hf2 hf hE
    go_wp2
    exact bodyPost_ret (v := .agg #[.slice none 0 0, .slice none 0 0]) (by simp [results, Tryz.results77, go_sem, r0, r1, g0, g1]) rfl ⟨_, rfl, (hbw1.setCell (by simp) _).setCell (by simp) _, by rw [hss.out]; exact ⟨_, _, rfl, SlV.nil _ _ _ _, SlV.nil _ _ _ _⟩⟩
end Go.Proofs.YtnikolglippfmaaGreatDoor
/- Walks of the reference of layer 7: Type. -/
namespace Go.Proofs.YtnikolglippfmaaGreatDoor
open Go.RowKit Go.Sort
open Idn (L B Bs drop_L take_L size_L)

theorem field_sch0 (a b : Option Addr) (n c m d : Nat) (w : World) : (Instr.field 25 (.agg #[.slice a n c, .slice b m d]) 0).run Tryz.prog w = .ok (.slice a n c) w := by kernel_rfl
theorem field_sch1 (a b : Option Addr) (n c m d : Nat) (w : World) : (Instr.field 25 (.agg #[.slice a n c, .slice b m d]) 1).run Tryz.prog w = .ok (.slice b m d) w := by kernel_rfl
theorem ssm_sound' {s : Idn.Sch} (h : SSm s) : SSm (sound s) := by
  unfold sound
  by_cases h' : Idn.sCheck s = 0
  · rw [if_pos h']; exact h
  · rw [if_neg h']; exact ⟨⟨by simp, by simp⟩, ⟨by simp, by simp⟩⟩
set_option maxHeartbeats 1000000 in
set_option maxRecDepth 100000 in
theorem r_type_any (v : Value) (s : Idn.Sch) (n : ByteArray) (w : World) (hv : SchV w w.heap.size v s) (hs : SSm s) (hn : n.size ≤ 1000000000) :
    Calls Tryz.prog 37 #[v, .string n] w fun e w' => e = .returned (.tuple #[tyV (tyLook (sound s) (L n)).1, .bool (tyLook (sound s) (L n)).2]) ∧ Below w.heap.size w w' := by
  have hE := fun W (hW : Below w.heap.size w W) => r_sound_any v s W (SchV.mono (SchV.keep hv hW) hW.size) hs
  have hss := ssm_sound' hs
  obtain ⟨a, b, rfl, hT, hC⟩ := hv
  obtain ⟨A, ca, rfl, hca⟩ := SlV.shape hT
  obtain ⟨A', cb, rfl, hcb⟩ := SlV.shape hC
  clear hT hC
  generalize sound s = t at *
  generalize hrr : tyLook t (L n) = rr at *
  have Hrr := Lib.hid hrr
  clear hrr
  go_enter Tryz.func37, Tryz.ntmps37
  go_wp2_with fail
  with_reducible refine gen2f (R := fun W => Calls Tryz.prog 77 _ W _) ?_
  intro W hbW hszW _ hc2 hf2
  have hf : W.frozen? ⟨w.heap.size + 1, 0, none⟩ = false ∧ W.frozen? ⟨w.heap.size + 1, 1, none⟩ = false ∧ W.frozen? ⟨w.heap.size + 1, 2, none⟩ = false := ⟨hf2 0, hf2 1, hf2 2⟩
  have r0 := hc2 0 _ rfl
  have r1 := hc2 1 _ rfl
  have r2 := hc2 2 _ rfl
  clear hc2 hf2
  refine (hE W hbW).mono ?_
  rintro e w1 ⟨v', rfl, hb1, hv'⟩
  obtain ⟨a', b', rfl, hT', hC'⟩ := hv'
  obtain ⟨D, cd, rfl, hcd⟩ := SlV.shape hT'
  obtain ⟨D', cd', rfl, hcd'⟩ := SlV.shape hC'
  have hfd := field_sch0 D D' t.types.length cd t.classes.length cd' w1
  have hTA := r_typeAt_any _ t.types n w1 (SlV.mono hT' hb1.size) hss.1 hn
  go_wp2_with fail
  refine hTA.mono ?_
  rintro e w2 ⟨rfl, hb2⟩
  have hb12 := hb1.trans (hb2.mono hb1.size)
  replace r0 := cell_later hb12 r0
  replace r1 := cell_later hb12 r1
  replace r2 := cell_later hb12 r2
  have g0 := (hb12.frozen (p := ⟨w.heap.size + 1, 0, none⟩) (by show w.heap.size + 1 < _; omega)).trans hf.1
  have g1 := (hb12.frozen (p := ⟨w.heap.size + 1, 1, none⟩) (by show w.heap.size + 1 < _; omega)).trans hf.2.1
  have g2 := (hb12.frozen (p := ⟨w.heap.size + 1, 2, none⟩) (by show w.heap.size + 1 < _; omega)).trans hf.2.2
  have hbw2 := hbW.trans (hb12.mono hbW.size)
  have hT2 : TypesV w2 W.heap.size _ t.types := SlV.keep hT' (hb2.mono hb1.size)
  have htl := hss.1.1
  clear hTA hfd hE hf hT' hC'
  cases hx : Idn.ixT t.types (L n) with
  | none =>
    have HF : Hid (rr = (⟨[], 0, false⟩, false)) := by show _ = _; rw [← Hrr.out, tyLook, hx]
    have hI : decide ((0 : Int) ≤ Idn.optI none) = false := rfl
    clear hx
    go_wp2
    exact bodyPost_ret (v := .tuple #[.agg #[.string ⟨#[]⟩, .int .i64 0, .bool false], .bool false]) (by simp [results, Tryz.results37, go_sem, r0, r1, r2, g0, g1, g2]) rfl ⟨by rw [HF.out]; rfl, ((hbw2.setCell (by simp) _).setCell (by simp) _).setCell (by simp) _⟩
  | some j =>
    have hjl := Idn.ixT_lt _ _ _ hx
    have HF : Hid (rr = (t.types[j], true)) := by show _ = _; rw [← Hrr.out, tyLook, hx]; simp [hjl]
    obtain ⟨b, off, rfl, hbl, c0, c1, c2⟩ := TypesV.cell hT2 hjl
    have hI : decide ((0 : Int) ≤ Idn.optI (some j)) = true := decide_eq_true (by simp only [Idn.optI]; omega)
    have hj : Idn.optI (some j) = (j : Int) := rfl
    have hjI : (j : Int) < (t.types.length : Int) := by omega
    clear hx
    simp only [hj] at hI ⊢
    go_wp2
    exact bodyPost_ret (v := .tuple #[.agg #[.string (B t.types[j].name), .int .i64 t.types[j].syn, .bool t.types[j].single], .bool true]) (by simp [results, Tryz.results37, go_sem, r0, r1, r2, g0, g1, g2]) rfl ⟨by rw [HF.out]; rfl, ((hbw2.setCell (by simp) _).setCell (by simp) _).setCell (by simp) _⟩
end Go.Proofs.YtnikolglippfmaaGreatDoor
