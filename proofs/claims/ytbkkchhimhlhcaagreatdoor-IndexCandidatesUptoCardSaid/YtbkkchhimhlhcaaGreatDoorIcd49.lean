/- Part 49 of the proof that identitylaw11.IndexCandidates returns true for every data that it may be called with: proof: the package variables hold what the program lays; nothing else is asked. -/
import Derived.Test.YtbkkchhimhlhcaaGreatDoorIcd39
import Derived.Test.YtbkkchhimhlhcaaGreatDoorIcd48
set_option linter.unusedVariables false
set_option linter.unusedSimpArgs false
set_option maxRecDepth 100000
set_option maxHeartbeats 16000000
/- Plain laws of identitylaw11: what was put against what is stored; the index's knowledge along the puts; the filters that Check takes. -/
namespace Go.Proofs.YtbkkchhimhlhcaaGreatDoor
open Go.RowKit Go.Sort
open Idn (L B Bs)
theorem put_len {es : List IxE} (h : OkE es) (n : Bs) (A : List Idn.Att) : (ixPut es n A).2.length ≤ es.length + 1 := by
 unfold ixPut
 by_cases h1 : (n.isEmpty || !validN n) = true
 ·rw [if_pos h1]; exact Nat.le_succ _
 ·rw [if_neg h1]
  have hv : validN n = true := by
   have : (n.isEmpty || !validN n) = false := by simpa using h1
   rw [Bool.or_eq_false_iff] at this
   simpa using this.2
  split
  ·exact Nat.le_succ _
  ·split
   ·exact Nat.le_succ _
   ·show (insE n (Idn.rSorted A) es).length ≤ _
    rw [insE_len hv h]
    split <;> omega
theorem GdI.put {s : Idn.Sch} {ns : List Bs} {es : List IxE} (h : GdI s ns es) {n : Bs} {A : List Idn.Att} (hl : n.length ≤ 1000000) (hlen : es.length < 256) : GdI s ns (ixPut es n A).2 := by
 unfold ixPut
 by_cases h1 : (n.isEmpty || !validN n) = true
 ·rw [if_pos h1]; exact h
 ·rw [if_neg h1]
  have hv : validN n = true := by
   have : (n.isEmpty || !validN n) = false := by simpa using h1
   rw [Bool.or_eq_false_iff] at this
   simpa using this.2
  by_cases h2 : (Idn.aCheck A != 0) = true
  ·rw [if_pos h2]; exact h
  ·rw [if_neg h2]
   split
   ·exact h
   ·exact h.ins hv hl (by simpa using h2) (.inr hlen)
theorem CdE.len {es : List IxE} (h : OkE es) {l : List Bs} (hc : CdE es l) : l.length ≤ es.length := by
 have hnd : l.Nodup := hc.1.imp_of_mem fun {a b} ha _ hlt e => by
  subst e
  obtain ⟨x, hx, hx'⟩ := List.mem_map.1 (hc.2 a ha)
  have := nm_irr (h.val x hx)
  rw [hx'] at this
  omega
 have := nodup_lenS hnd hc.2
 unfold namesE at this
 rwa [List.length_map] at this
theorem nSm_fOk (f : Flt) : nSm f → fG 1048576 f → fOk f := by
 induction f using Flt.ind with
 | h k n v ps ks ih =>
  intro h g
  rw [nSm] at h
  rw [fG] at g
  rw [fOk]
  obtain ⟨h1, h2, h3, h4, h5⟩ := h
  obtain ⟨_, _, g3, _, g5⟩ := g
  exact ⟨⟨by omega, by omega, by omega, fun x hx => by have := g3.2 x hx; omega⟩, fOks_all.2 fun q hq => ih q hq (nSms_all.1 h5 q hq) (fGs_all.1 g5 q hq)⟩
theorem ready_fsm {es : List EntP} {f : Flt} (h : ReadyC es f) (g : fG 1048576 f) : FSm 1000 f := ⟨by have := h.2.2; omega, nSm_fOk f h.2.1 g⟩
theorem fG_len {n : Nat} (hn : n ≤ 9223372036854775807) (f : Flt) : fG n f → fLen f := by
 induction f using Flt.ind with
 | h k a v ps ks ih =>
  intro g
  rw [fG] at g
  rw [fLen]
  obtain ⟨_, _, g3, g4, g5⟩ := g
  exact ⟨Nat.le_trans g3.1 hn, Nat.le_trans g4 hn, fLens_all.2 fun q hq => ih q hq (fGs_all.1 g5 q hq)⟩
theorem light_asm7 {n : ByteArray} {A : List Idn.Att} (h : LightE n A) : Idn.ASm7 A := by
 obtain ⟨_, h2, h3⟩ := h
 refine ⟨by omega, fun a ha => ?_⟩
 obtain ⟨q1, q2, q3⟩ := h3 a ha
 exact ⟨by omega, by omega, fun x hx => by have := q3 x hx; omega⟩
end Go.Proofs.YtbkkchhimhlhcaaGreatDoor
/- law11: rows of entries while an index turns. -/
namespace Go.Proofs.YtbkkchhimhlhcaaGreatDoor
open Go.RowKit Go.Sort
open Idn (L B Bs drop_L take_L size_L)
def Cls (w w' : World) : Prop := (∀ a u, w.cell? a = some u → w'.cell? a = some u) ∧ w.heap.size ≤ w'.heap.size
theorem Cls.refl (w : World) : Cls w w := ⟨fun _ _ h => h, Nat.le_refl _⟩
theorem Cls.trans {w w' w'' : World} (h : Cls w w') (k : Cls w' w'') : Cls w w'' := ⟨fun a u e => k.1 a u (h.1 a u e), Nat.le_trans h.2 k.2⟩
theorem Cls.of_below {w w' : World} (h : Below w.heap.size w w') : Cls w w' := ⟨fun _ _ e => cell_later h e, h.size⟩
theorem Cls.of_mv {S : Nat → Prop} {w w' : World} (h : Mv S w w') (hS : AllMap w S) : Cls w w' := ⟨fun _ _ e => h.cell hS e, h.size⟩
theorem Cls.cell {w w' : World} (h : Cls w w') {a : Addr} {u : Value} (e : w.cell? a = some u) : w'.cell? a = some u := h.1 a u e
theorem EntRef.mv {S : Nat → Prop} {w0 w w' : World} {base : Nat} {v : Value} {qs : List (EntP × Value)} (h : EntRef w0 w base v qs) (hm : Mv S w w') (hS : AllMap w S) : EntRef w0 w' base v qs :=
 ⟨own_mv h.1 hm fun k hk => .inr (hS k hk), h.2⟩
theorem ge_elen {es : List EntP} (h1 : es.length ≤ 1048576) (h2 : ∀ e ∈ es, GE e 1048576) : ELen es :=
 ⟨by omega, fun e he => ⟨by have := (h2 e he).1; omega, by have := (h2 e he).2.1; omega, fun a ha => by have := ((h2 e he).2.2 a ha).2.1; omega⟩⟩
section
variable {w : World} {hs lo px : Nat} {s : Idn.Sch} {ns : List Bs} {es : List IxE} {ta cb : Value} {eb vb : Nat} {g : Bs → Value} {ts : List (Bs × Nat)} {G : Bs → Bs → Option Nat}
theorem put11_any (hI : IxV w hs lo px s ns es ta cb eb vb g ts G) (hG : GdI s ns es) (hlen : es.length < 256) {lo0 : Nat} (hlo : lo0 ≤ hs) (w0 : World) (hb0 : Below lo0 w0 w) (hE : ∀ W, Below lo0 w0 W → Env W ∧ EnvU W) (n : Bs) (hn : n.length ≤ 1000000) (av : Value) (A : List Idn.Att) (hatv : AttsV w w.heap.size av A) (hA7 : Idn.ASm7 A) :
  Calls Tryz.prog 16 #[.pointer (some ⟨px, 0, none⟩), .agg #[.string (B n), av]] w fun e w' => e = .returned (.int .i64 (ixPut es n A).1) ∧ ∃ g' G', IxV w' hs lo px s ns (ixPut es n A).2 ta cb eb vb g' ts G' ∧ GdI s ns (ixPut es n A).2 ∧ Mv (IxS eb ts G) w w' ∧ (∀ k, IxS eb ts G' k → IxS eb ts G k ∨ w.heap.size ≤ k) ∧ Below lo0 w0 w' ∧ Cls w w' := by
 refine (ixPut_any hI hG (fun W hW => hE W (hb0.trans (hW.mono hlo))) n hn av A hatv hA7).mono ?_
 rintro e w' ⟨h1, g', G', h2, h3, h4⟩
 exact ⟨h1, g', G', h2, hG.put hn hlen, h3, h4, hb0.trans ((h3.below hI.lowS hI.hsz).mono hlo), Cls.of_mv h3 hI.allMap⟩
end
theorem RetC.open_ {w w' : World} {r : List Bs × Bool} {e : Ending} (h : RetC w r e w') : ∃ A c, e = .returned (.tuple #[.slice A r.1.length c, .bool r.2]) ∧ StrsV w' w'.heap.size (.slice A r.1.length c) r.1 ∧ Below w.heap.size w w' := by
 obtain ⟨v, h1, h2, h3⟩ := h
 obtain ⟨A, c, rfl⟩ := own_shape h2
 exact ⟨A, c, h1, StrsV.of_own h2, h3⟩
def Dj (eb vb : Nat) (ts : List (Bs × Nat)) (G : Bs → Bs → Option Nat) (eb' vb' : Nat) (ts' : List (Bs × Nat)) (G' : Bs → Bs → Option Nat) : Prop := (∀ k, IxS eb ts G k → k ≠ vb' ∧ ¬ IxS eb' ts' G' k) ∧ ∀ k, IxS eb' ts' G' k → k ≠ vb
section
variable {w w' : World} {hs lo px : Nat} {s : Idn.Sch} {ns : List Bs} {es : List IxE} {ta cb : Value} {eb vb : Nat} {g : Bs → Value} {ts : List (Bs × Nat)} {G : Bs → Bs → Option Nat} {hs' lo' px' : Nat} {s' : Idn.Sch} {ns' : List Bs} {es' : List IxE} {ta' cb' : Value} {eb' vb' : Nat} {g' : Bs → Value} {ts' : List (Bs × Nat)} {G' G2 : Bs → Bs → Option Nat}
theorem IxV.ltS (h : IxV w hs lo px s ns es ta cb eb vb g ts G) {k : Nat} (hk : IxS eb ts G k) : k < w.heap.size := by
 obtain ⟨es, c, e⟩ := h.allMap k hk
 exact (Array.getElem?_eq_some_iff.1 e).1
theorem Dj.symm (h : Dj eb vb ts G eb' vb' ts' G') : Dj eb' vb' ts' G' eb vb ts G := ⟨fun k hk => ⟨h.2 k hk, fun h' => (h.1 k h').2 hk⟩, fun k hk => (h.1 k hk).1⟩
theorem Dj.turn (h : Dj eb vb ts G eb' vb' ts' G') (hy : IxV w hs' lo' px' s' ns' es' ta' cb' eb' vb' g' ts' G') (hn : ∀ k, IxS eb ts G2 k → IxS eb ts G k ∨ w.heap.size ≤ k) : Dj eb vb ts G2 eb' vb' ts' G' :=
 ⟨fun k hk => by
  rcases hn k hk with h1 | h1
  ·exact h.1 k h1
  ·exact ⟨fun e => by have := hy.vl.top.lt; omega, fun h2 => by have := hy.ltS h2; omega⟩, h.2⟩
theorem IxV.other (hy : IxV w hs' lo' px' s' ns' es' ta' cb' eb' vb' g' ts' G') (hd : Dj eb vb ts G eb' vb' ts' G') (hm : Mv (IxS eb ts G) w w') (hall : AllMap w (IxS eb ts G)) : IxV w' hs' lo' px' s' ns' es' ta' cb' eb' vb' g' ts' G' :=
 hy.mv hm fun k hk => ⟨(hd.1 k hk).1, (hd.1 k hk).2, .inl (hall k hk)⟩
theorem Dj.of (hx : IxV w hs lo px s ns es ta cb eb vb g ts G) (hy : IxV w' hs' lo' px' s' ns' es' ta' cb' eb' vb' g' ts' G') (hh : w.heap.size ≤ hs') : Dj eb vb ts G eb' vb' ts' G' :=
 ⟨fun k hk => by
  have h1 := hx.ltS hk
  exact ⟨fun e => by have := hy.hsv; omega, fun h2 => by have := hy.lowS k h2; omega⟩, fun k hk => by
  have h1 := hy.lowS k hk
  have h2 := hx.vl.top.lt
  omega⟩
end
end Go.Proofs.YtbkkchhimhlhcaaGreatDoor
/- identityref11: the index in memory; indexed, Len, Find. -/
namespace Go.Proofs.YtbkkchhimhlhcaaGreatDoor
open Go.RowKit Go.Sort
open Idn (L B Bs drop_L take_L size_L)
structure RefV (w : World) (hs lo rx : Nat) (s : Idn.Sch) (idx : List Bs) (es : List IxE) (ta cb nv lv : Value) (qs : List (EntP × Value)) : Prop where
 c0 : w.cell? ⟨rx, 0, none⟩ = some ta
 c1 : w.cell? ⟨rx, 1, none⟩ = some cb
 c2 : w.cell? ⟨rx, 2, none⟩ = some nv
 c3 : w.cell? ⟨rx, 3, none⟩ = some lv
 c4 : w.cell? ⟨rx, 4, none⟩ = some (.bool true)
 frz : ∀ i, w.frozen? ⟨rx, i, none⟩ = false
 sch : SchV w hs (.agg #[ta, cb]) s
 nam : w.ownsRow lo 9 1 nv idx.length (idx.map sv)
 ent : EntRow w lo lv qs
 map : qs.map (·.1) = es
 hsz : hs ≤ w.heap.size
 hsr : hs ≤ rx
 rlo : rx < lo
 loz : lo ≤ w.heap.size
section
variable {w w' : World} {hs lo rx : Nat} {s : Idn.Sch} {idx : List Bs} {es : List IxE} {ta cb nv lv : Value} {qs : List (EntP × Value)}
theorem RefV.len (h : RefV w hs lo rx s idx es ta cb nv lv qs) : qs.length = es.length := by rw [← h.map, List.length_map]
theorem frozen_mv {S : Nat → Prop} (hm : Mv S w w') {b i : Nat} (hb : b < w.heap.size) (hS : ¬ S b) (h : w.frozen? ⟨b, i, none⟩ = false) : w'.frozen? ⟨b, i, none⟩ = false := by
 have := hm.block b hb hS
 unfold World.frozen? at *
 rw [this]; exact h
theorem AttRow.mv {S : Nat → Prop} {base : Nat} {v : Value} {ps : List (Idn.Att × Value)} (h : AttRow w base v ps) (hm : Mv S w w') (hS : ∀ k, S k → k < base ∨ ∃ es c, w.heap[k]? = some (.map es c)) : AttRow w' base v ps :=
 ⟨own_mv h.1 hm hS, fun p hp => own_mv (h.2 p hp) hm hS⟩
theorem EntRow.mv {S : Nat → Prop} {base : Nat} {v : Value} {qs : List (EntP × Value)} (h : EntRow w base v qs) (hm : Mv S w w') (hS : ∀ k, S k → k < base ∨ ∃ es c, w.heap[k]? = some (.map es c)) : EntRow w' base v qs :=
 ⟨own_mv h.1 hm hS, fun q hq => by obtain ⟨ps, h1, h2⟩ := h.2 q hq; exact ⟨ps, h1.mv hm hS, h2⟩⟩
theorem RefV.mv {S : Nat → Prop} (h : RefV w hs lo rx s idx es ta cb nv lv qs) (hm : Mv S w w') (hS : AllMap w S) : RefV w' hs lo rx s idx es ta cb nv lv qs := by
 have hlt := World.block_lt_of_cell? _ _ h.c0
 have hn : ¬ S rx := fun hk => by
  obtain ⟨es, c, e⟩ := hS _ hk
  have := h.c0
  unfold World.cell? at this
  dsimp only at this
  rw [e] at this
  cases this
 exact { h with
  c0 := hm.cell hS h.c0
  c1 := hm.cell hS h.c1
  c2 := hm.cell hS h.c2
  c3 := hm.cell hS h.c3
  c4 := hm.cell hS h.c4
  frz := fun i => frozen_mv hm hlt hn (h.frz i)
  sch := h.sch.keepC fun _ _ _ _ hc => hm.cell hS hc
  nam := own_mv h.nam hm fun k hk => .inr (hS k hk)
  ent := h.ent.mv hm fun k hk => .inr (hS k hk)
  hsz := Nat.le_trans h.hsz hm.size
  loz := Nat.le_trans h.loz hm.size }
theorem RefV.keep (h : RefV w hs lo rx s idx es ta cb nv lv qs) (hb : Below w.heap.size w w') : RefV w' hs lo rx s idx es ta cb nv lv qs :=
 h.mv (S := fun _ => False) (Mv.of_below hb _) fun _ h => h.elim
theorem RefV.ents (h : RefV w hs lo rx s idx es ta cb nv lv qs) : EntsV w w.heap.size lv es := h.ent.ents h.map
theorem r11_indexed_any (h : RefV w hs lo rx s idx es ta cb nv lv qs) (n : ByteArray) (hn : n.size ≤ 1000000000) (hi : idx.length ≤ 1000000000) :
    Calls Tryz.prog 55 #[.pointer (some ⟨rx, 0, none⟩), .string n] w fun e w' => e = .returned (.bool (idx.contains (Idn.lower (L n)))) ∧ Below w.heap.size w w' := by
 have hL := fun W => r_lower_any n W (by omega)
 have S0 : StrsV w w.heap.size nv idx := StrsV.of_own h.nam
 obtain ⟨A0, cn, rfl, _⟩ := SlV.shape S0
 have p2 := h.c2
 have p4 := h.c4
 obtain ⟨R, hR⟩ : ∃ R, R = idx.contains (Idn.lower (L n)) := ⟨_, rfl⟩
 rw [← hR]
 have HR : Hid (R = (idx.drop 0).contains (Idn.lower (L n))) := hR
 clear hR h
 generalize Idn.lower (L n) = x at *
 go_enter Tryz.func55, Tryz.ntmps55
 go_wp2_with fail
 go_loopw [5] (fun i wr => ∃ k : Nat, k ≤ idx.length ∧ i = .int .i64 k ∧ Below w.heap.size w wr ∧ Hid (R = (idx.drop k).contains x)) (fun i _ => idx.length - (intOf i).toNat)
 case atStart => exact ⟨0, Nat.zero_le _, rfl, Below.refl _ _, HR⟩
 case round =>
  obtain ⟨k, hk, rfl, hb, hinv⟩ := hrel
  clear HR
  replace p2 := cell_later hb p2
  by_cases hlt : k < idx.length
  ·obtain ⟨b, off, hAd, _, d0⟩ := StrsV.cell (SlV.mono (SlV.keep S0 hb) hb.size) hlt
   subst hAd
   have hltI : (k : Int) < (idx.length : Int) := by omega
   have hst : Hid (R = (decide (idx[k] = x) || (idx.drop (k + 1)).contains x)) := by
    show _ = _
    rw [hinv.out, List.drop_eq_getElem_cons hlt]
    refine bool_ext ?_
    rw [Bool.or_eq_true, decide_eq_true_eq, List.contains_iff_mem, List.contains_iff_mem, List.mem_cons]
    exact ⟨fun h => h.imp Eq.symm id, fun h => h.imp Eq.symm id⟩
   have ht : ((B idx[k]).toList == (B x).toList) = decide (idx[k] = x) := by rw [str_beq, Idn.L_B, Idn.L_B]
   have hstd : ∀ q, decide (idx[k] = x) = q → Hid (R = (q || (idx.drop (k + 1)).contains x)) := fun q hq => by show _ = _; rw [hst.out, hq]
   have hst2 := hstd _ rfl
   generalize decide (idx[k] = x) = q at *
   generalize idx[k] = y at *
   have q1 := cq (W := wr) fun V _ => hL V
   have i0 := cell_regrown p2
   have i1 := cell_regrown d0
   clear hst hstd hinv S0
   go_wp2_with fail
   refine wp_region_quiet_below (by kernel_rfl) (by kernel_rfl) ?_
   repeat (first | go_big_quiet_step ((go_at_call 56; exact q1 _ _)) | quiet_step ((go_at_call 56; exact q1 _ _)))
   refine wpQuiet_nil ?_
   intro _ hw'
   obtain ⟨⟨dq, osq⟩, hw''⟩ := hw'
   subst hw''
   have hb4 := below_regrown wr dq osq
   generalize grow (redrawn wr dq) osq = W4 at hb4 ⊢
   clear i0 i1 q1
   cases q with
   | true =>
    have HF : Hid (R = true) := by show _ = _; rw [hst2.out]; rfl
    clear hst2
    go_wp2_with fail
    go_ret
    exact ⟨ret_bool HF.out.symm, Below.on hb hb4⟩
   | false =>
    have HF : Hid (R = (idx.drop (k + 1)).contains x) := by show _ = _; rw [hst2.out]; rfl
    clear hst2
    go_wp2_with fail
    go_roundw
    case rel => exact ⟨k + 1, by omega, by go_num, Below.on hb hb4, HF⟩
    case measure => simp [intOf]; omega
  ·have hltI : ¬ (k : Int) < (idx.length : Int) := by omega
   have HF : Hid (R = false) := by show _ = _; rw [hinv.out, List.drop_eq_nil_of_le (by omega)]; rfl
   clear hinv
   go_wp2_with fail
   go_ret
   exact ⟨ret_bool HF.out.symm, hb⟩
end
end Go.Proofs.YtbkkchhimhlhcaaGreatDoor
/- identityref11: Drop; what a store of entries turns. -/
namespace Go.Proofs.YtbkkchhimhlhcaaGreatDoor
open Go.RowKit Go.Sort
open Idn (L B Bs drop_L take_L size_L)
theorem Mv.set (w : World) (b i : Nat) (u : Value) : Mv (· = b) w (w.setCell ⟨b, i, none⟩ u) :=
 ⟨rfl, rfl, rfl, by simp [World.setCell], fun k _ hk => by
  simp only [World.setCell, Array.getElem?_modify]
  rw [if_neg fun e => hk e.symm]⟩
section
variable {w w' : World} {hs lo rx : Nat} {s : Idn.Sch} {idx : List Bs} {es : List IxE} {ta cb nv lv : Value} {qs : List (EntP × Value)}
theorem RefV.store (h : RefV w hs lo rx s idx es ta cb nv lv qs) {lv' : Value} {qs' : List (EntP × Value)} (hE : EntRow w lo lv' qs') : RefV (w.setCell ⟨rx, 3, none⟩ lv') hs lo rx s idx (qs'.map (·.1)) ta cb nv lv' qs' := by
 have hm := Mv.set w rx 3 lv'
 have hS : ∀ k, k = rx → k < lo ∨ ∃ es c, w.heap[k]? = some (.map es c) := fun k hk => .inl (hk ▸ h.rlo)
 exact {
  c0 := by rw [World.cell?_setCell_other _ _ _ _ (by intro e; injection e with e1 e2; omega)]; exact h.c0
  c1 := by rw [World.cell?_setCell_other _ _ _ _ (by intro e; injection e with e1 e2; omega)]; exact h.c1
  c2 := by rw [World.cell?_setCell_other _ _ _ _ (by intro e; injection e with e1 e2; omega)]; exact h.c2
  c3 := World.cell?_setCell_same _ _ _ h.c3
  c4 := by rw [World.cell?_setCell_other _ _ _ _ (by intro e; injection e with e1 e2; omega)]; exact h.c4
  frz := fun i => by simpa using h.frz i
  sch := h.sch.keepC fun b off u hb hc => by
   have := h.hsr
   rw [World.cell?_setCell_other _ _ _ _ (by intro e; injection e with e1 e2; omega)]; exact hc
  nam := own_mv h.nam hm hS
  ent := hE.mv hm hS
  map := rfl
  hsz := by simpa [World.setCell] using h.hsz
  hsr := h.hsr
  rlo := h.rlo
  loz := by simpa [World.setCell] using h.loz }
end
end Go.Proofs.YtbkkchhimhlhcaaGreatDoor
/- identityref11: Put. -/
namespace Go.Proofs.YtbkkchhimhlhcaaGreatDoor
open Go.RowKit Go.Sort
open Idn (L B Bs drop_L take_L size_L)
abbrev EqV (w : World) (hi : Nat) (v : Value) (qs : List (EntP × Value)) : Prop := SlV (fun (q : EntP × Value) cs => cs = [sv q.1.1, q.2]) w hi 2 v qs
theorem EqV.own {w : World} {base : Nat} {v : Value} {qs : List (EntP × Value)} (h : w.ownsRow base 48 2 v qs.length (rowEn qs)) : EqV w w.heap.size v qs :=
 SlV.own h fun i q hq => by
  obtain ⟨e1, e2⟩ := rowEn_at qs i q hq
  exact ⟨[sv q.1.1, q.2], rfl, rfl, fun j u hj => by
   match j, hj with
   | 0, hj => simp at hj; subst hj; exact e1
   | 1, hj => simp at hj; subst hj; exact e2⟩
theorem run_size_ent (W : World) : (sizeOf (Tryz.prog.elem 27)).run Tryz.prog W = .ok 2 W := by
 obtain ⟨i, hi, _, h1, _⟩ := info_parts info_ent
 have e : Tryz.prog.elem 27 = 48 := by kernel_rfl
 rw [e]
 simp [sizeOf, typeInfo, hi, h1]
theorem takeE_run {w : World} {hi n c : Nat} {l : List (EntP × Value)} {A : Option Addr} (h : EqV w hi (.slice A n c) l) {j : Nat} (hj : j ≤ l.length) :
  ∃ A' c', (∀ W : World, (Instr.slice 27 (.slice A n c) none (some (.int .i64 (j : Int))) none).run Tryz.prog W = .ok (.slice A' j c') W) ∧ EqV w hi (.slice A' j c') (l.take j) := by
 obtain ⟨A0, c0, hv, hc⟩ := SlV.shape h
 injection hv with _ hn hcc
 subst hcc
 refine ⟨A, c, fun W => ?_, SlV.take h j hj⟩
 rw [run_slice_h W 27 A n c (by kernel_rfl) .i64 (j : Int) (by omega) (by omega), run_size_ent]
 simp only [Result.andThen_ok, sliced, Int.toNat_natCast, Nat.sub_zero]
 congr 2
 split
 ·rfl
 ·cases A with
  | none => rfl
  | some a => simp [Addr.add]
theorem dropE_run {w : World} {hi n c : Nat} {l : List (EntP × Value)} {A : Option Addr} (h : EqV w hi (.slice A n c) l) {j : Nat} (hj : j ≤ l.length) :
  ∃ A' c', (∀ W : World, (Instr.slice 27 (.slice A n c) (some (.int .i64 (j : Int))) none none).run Tryz.prog W = .ok (.slice A' (n - j) c') W) ∧ EqV w hi (.slice A' (n - j) c') (l.drop j) := by
 have hn := SlV.len h
 refine ⟨_, _, fun W => ?_, SlV.cutFrom h j hj⟩
 rw [run_slice_l W 27 A n c (by kernel_rfl) .i64 (j : Int) (by omega) (by omega), run_size_ent]
 simp only [Result.andThen_ok, sliced, Int.toNat_natCast]
theorem rowQ_en : ∀ (qs : List ((EntP × Value) × List Value)), (∀ q ∈ qs, q.2 = [sv q.1.1.1, q.1.2]) → rowQ qs = rowEn (qs.map (·.1))
 | [], _ => rfl
 | q :: qs, h => by
  have h1 := h q List.mem_cons_self
  have h2 := rowQ_en qs fun x hx => h x (List.mem_cons_of_mem _ hx)
  unfold rowQ rowEn at *
  rw [List.flatMap_cons, List.map_cons, List.flatMap_cons, h2, h1]
section
variable {w : World} {ops : Array Oper} {rest : List Oper} {o : Oper} {a : Act} {Q : Exit → Act → World → Prop}
theorem wpList_appendE (hgd : o.guard = none) (s x : Operand) (ho : o.op = .call { callee := .builtin .append, args := #[s, x], argTypes := #[27, 27] })
  (base : Nat) (v : Value) (ps : List (EntP × Value)) (hown : w.ownsRow base 48 2 v ps.length (rowEn ps)) (hs : a.eval s = v) (u : Value) (qs : List (EntP × Value)) (hi : Nat) (hu : EqV w hi u qs) (hx : a.eval x = u) (h1 : ∀ q ∈ qs, ∃ A n c, q.2 = .slice A n c)
  (hn : ps.length + qs.length ≤ 1000000) (hbase : base ≤ w.heap.size) (fl : List (EntP × Value)) (hfl : fl = ps ++ qs)
  (hK : ∀ v' w', w'.ownsRow base 48 2 v' fl.length (rowEn fl) → Below base w w' → w.grownBy w' v.ownBlock → wpList Tryz.prog ops Q rest (a.put o.dst v') w') : wpList Tryz.prog ops Q (o :: rest) a w := by
 subst hfl
 obtain ⟨i, hi', hz0, hz1, hz2⟩ := info_parts info_ent
 obtain ⟨A, c, rfl, hc⟩ := SlV.shape hu
 obtain ⟨rs, p1, p2, p3⟩ := SlV.cellsQ hu
 have hrow : rowQ rs = rowEn qs := by rw [rowQ_en rs fun q hq => (p2 q hq).2, p1]
 by_cases hl : qs.length = 0
 ·have hl0 : qs = [] := List.eq_nil_of_length_eq_zero hl
  subst hl0
  refine wpList_plain hgd fun K hK' => ?_
  have hrun := run_append_nilsrc (P := Tryz.prog) (w := w) base 27 o.type 48 i 2 Tryz.underlying27 hi' v ps.length (rowEn ps) hown A c
  unfold Oper.wp execOp
  simp only [List.length_nil] at hx
  simp only [ho, resolve, invoke, builtin, Sem.run_bind, Sem.run_pure, Result.andThen_ok, List.map_toArray, List.map_cons, List.map_nil, hs, hx, hrun]
  exact hK' _ _ (hK v w (by rw [List.append_nil]; exact hown) (Below.refl _ _) ⟨rfl, rfl, rfl, Nat.le_refl _, fun _ _ _ => rfl⟩)
 ·obtain ⟨b, off, hA, _, _⟩ := hu.at_ (k := 0) (by omega)
  subst hA
  refine wpList_append_own_at _ hgd s x 27 ho base 48 i (.agg #[.string ⟨#[]⟩, .slice none 0 0]) 2 40 Tryz.underlying27 hi' hz0 hz1 hz2 rfl (by decide) v ps.length (rowEn ps) hs hown ⟨b, off, none⟩ qs.length c (rowEn qs) hx (rowEn_len qs) ?_ (rowEn_one h1) (by unfold maxLen; omega) (by omega) hbase ?_
  ·intro j q hj
   have hadd : (⟨b, off, none⟩ : Addr).add j = ⟨b, off + j, none⟩ := by unfold Addr.add; split <;> simp_all
   rw [hadd]
   rw [← hrow] at hj
   exact p3 b off rfl j q hj
  ·intro v' w' hown' hg _ hat
   rw [← List.length_append, ← rowEn_app] at hown'
   exact hK v' w' hown' ((Below.refl base w).grown hg hbase (fun k hk => (hown.lt k hk).1)) hg
end
section
variable {w w' : World} {hs lo rx : Nat} {s : Idn.Sch} {idx : List Bs} {es : List IxE} {ta cb nv lv : Value} {qs : List (EntP × Value)}
theorem AttRow.grownE {base base' : Nat} {v v0 : Value} {m : Nat} {xs : List Value} {ps : List (Idn.Att × Value)} (h : AttRow w base v ps) (hown : w.ownsRow base' 48 2 v0 m xs) (hg : w.grownBy w' v0.ownBlock) : AttRow w' base v ps :=
 ⟨own_kept h.1 hg fun g h1 h2 => own_apart2 hown h.1 (by decide) g h2 h1, fun p hp => own_kept (h.2 p hp) hg fun g h1 h2 => own_apart2 hown (h.2 p hp) (by decide) g h2 h1⟩
theorem EntRow.shapes {base : Nat} {v : Value} (h : EntRow w base v qs) : ∀ q ∈ qs, ∃ A n c, q.2 = .slice A n c := fun q hq => by
 obtain ⟨ps, h1, _⟩ := h.2 q hq
 obtain ⟨A, c, e⟩ := own_shape h1.1
 exact ⟨A, _, c, e⟩
theorem r11_Put_any (h : RefV w hs lo rx s idx es ta cb nv lv qs) (hok : OkE es) (hel : es.length ≤ 256) (hnm : ∀ e ∈ es, e.1.length ≤ 1000000) (n : Bs) (hn : n.length ≤ 1000000) (av : Value) (A : List Idn.Att) (hatv : AttsV w w.heap.size av A) (hA7 : Idn.ASm7 A) :
    Calls Tryz.prog 17 #[.pointer (some ⟨rx, 0, none⟩), .agg #[.string (B n), av]] w fun e w' => e = .returned (.int .i64 (ixPut es n A).1) ∧ ∃ lv' qs', RefV w' hs lo rx s idx (ixPut es n A).2 ta cb nv lv' qs' ∧ Mv (· = rx) w w' := by
 have hql := h.len
 have kV := fun W => r5_Valid_any (B n) W (by rw [Idn.size_B]; omega)
 simp only [Idn.L_B] at kV
 have kC := fun W (hW : Below w.heap.size w W) => r6_Check_any av A W (AttsV.mono (AttsV.keep hatv hW) hW.size) (asm7_asm hA7)
 have kS := fun W (hW : Below w.heap.size w W) => r_Sorted_any av A W (AttsV.mono (AttsV.keep hatv hW) hW.size) hA7
 have HR : Hid (ixPut es n A = if n.isEmpty || !validN n then (5, es) else if Idn.aCheck A != 0 then (Idn.aCheck A, es) else if !hasE es n && decide (256 ≤ es.length) then (3, es) else (0, insE n (Idn.rSorted A) es)) := rfl
 have hkeep : ∀ W, Below w.heap.size w W → ∃ lv' qs', RefV W hs lo rx s idx es ta cb nv lv' qs' ∧ Mv (· = rx) w W := fun W hW => ⟨lv, qs, h.keep hW, Mv.of_below hW _⟩
 obtain ⟨Ag, cg, rfl, _⟩ := SlV.shape hatv
 have hte : (B n).toList.isEmpty = n.isEmpty := by rw [toList_L, Idn.L_B]
 generalize ixPut es n A = r at *
 have p4 := h.c4
 go_enter Tryz.func17, Tryz.ntmps17
 go_upto_region 1 with fail
 with_reducible refine gen1 (R := fun W => Code.wp Tryz.prog _ _ _ W) ?_
 intro W hbW _ hc _
 have b0 : W.cell? ⟨w.heap.size, 0, none⟩ = some (.string (B n)) := hc 0 _ rfl
 have b1 : W.cell? ⟨w.heap.size, 1, none⟩ = some (.slice Ag A.length cg) := hc 1 _ rfl
 replace p4 := cell_later hbW p4
 clear hc
 cases hemp : n.isEmpty with
 | true =>
  have HF : Hid (r = (5, es)) := by show _ = _; rw [HR.out, hemp]; rfl
  rw [hemp] at hte
  clear HR kV kC kS
  go_wp2_with fail
  go_ret
  rw [HF.out]
  first | exact ⟨rfl, hkeep _ hbW⟩ | exact ⟨rfl, ⟨_, _, h.keep hbW⟩, Mv.of_below hbW _⟩
 | false =>
 rw [hemp] at hte
 go_wp2_with fail
 refine (kV W).mono ?_
 rintro e w1 ⟨rfl, hb1⟩
 replace b0 := cell_later hb1 b0
 replace b1 := cell_later hb1 b1
 have hbw1 := hbW.trans (hb1.mono hbW.size)
 clear kV hbW hb1 p4
 cases hvn : validN n with
 | false =>
  have HF : Hid (r = (5, es)) := by show _ = _; rw [HR.out, hemp, hvn]; rfl
  clear HR kC kS
  go_wp2_with fail
  go_ret
  rw [HF.out]
  first | exact ⟨rfl, hkeep _ hbw1⟩ | exact ⟨rfl, ⟨_, _, h.keep hbw1⟩, Mv.of_below hbw1 _⟩
 | true =>
 go_wp2_with fail
 refine (kC w1 hbw1).mono ?_
 rintro e w2 ⟨rfl, hb2⟩
 replace b0 := cell_later hb2 b0
 replace b1 := cell_later hb2 b1
 have hbw2 := hbw1.trans (hb2.mono hbw1.size)
 clear kC hbw1 hb2
 by_cases hac : Idn.aCheck A = 0
 case neg =>
  have hI : (Idn.aCheck A != 0) = true := by simpa using hac
  have HF : Hid (r = (Idn.aCheck A, es)) := by show _ = _; rw [HR.out, hemp, hvn, hI]; rfl
  generalize Idn.aCheck A = ac at *
  clear HR kS
  go_wp2_with fail
  go_ret
  rw [HF.out]
  first | exact ⟨rfl, hkeep _ hbw2⟩ | exact ⟨rfl, ⟨_, _, h.keep hbw2⟩, Mv.of_below hbw2 _⟩
 have HR2 : Hid (r = if !hasE es n && decide (256 ≤ es.length) then (3, es) else (0, insE n (Idn.rSorted A) es)) := by show _ = _; rw [HR.out, hemp, hvn, hac]; rfl
 rw [hac]
 clear HR hac hemp
 have hvn' := Lib.hid hvn
 clear hvn
 have h2 := h.keep hbw2
 have S2 := h2.ents
 obtain ⟨Ae, ce, rfl⟩ := own_shape h2.ent.1
 rw [hql] at S2 h2 h
 have q3 := h2.c3
 -- the place
 go_upto_block 0 with fail
 go_cut [6] (fun t wx => ∃ k : Nat, t = .int .i64 k ∧ k ≤ es.length ∧ Below w2.heap.size w2 wx ∧ Hid (∀ (i : Nat) (x : IxE), i < k → es[i]? = some x → cmpNm x.1 n < 0) ∧ Hid (∀ x, es[k]? = some x → ¬ cmpNm x.1 n < 0))
 case first =>
  clear hkeep kS HR2 h h2 hvn'
  go_wp2_with fail
  go_loopw [6] (fun t wx => ∃ k : Nat, k ≤ es.length ∧ t = .int .i64 k ∧ Below w2.heap.size w2 wx ∧ Hid (∀ (i : Nat) (x : IxE), i < k → es[i]? = some x → cmpNm x.1 n < 0)) (fun t _ => es.length - (intOf t).toNat)
  case atStart => exact ⟨0, Nat.zero_le _, rfl, Below.refl _ _, fun i x h => absurd h (by omega)⟩
  case round =>
   rename World => wj
   obtain ⟨k, hk, rfl, hbj, hbef⟩ := hrel
   replace b0 := cell_later hbj b0
   replace q3 := cell_later hbj q3
   by_cases hlt : k < es.length
   ·obtain ⟨b, off, va, hAd, _, d0, d1, _⟩ := EntsV.cell (EntsV.mono (EntsV.keep S2 hbj) hbj.size) hlt
    subst hAd
    have hltI : (k : Int) < (es.length : Int) := by omega
    have hxl := hnm _ (List.getElem_mem hlt)
    have hxe : es[k]? = some (es[k]'hlt) := List.getElem?_eq_getElem hlt
    generalize es[k]'hlt = x at d0 hxl hxe
    have HB1 : cmpNm x.1 n < 0 → Hid (∀ (i : Nat) (x : IxE), i < k + 1 → es[i]? = some x → cmpNm x.1 n < 0) := fun h i y hi hy => by
     by_cases e : i = k
     ·subst e
      rw [hxe] at hy
      injection hy with hy
      rw [← hy]; exact h
     ·exact hbef.out i y (by omega) hy
    have HB2 : ¬ cmpNm x.1 n < 0 → Hid (∀ x, es[k]? = some x → ¬ cmpNm x.1 n < 0) := fun h y hy => by
     rw [hxe] at hy
     injection hy with hy
     rw [← hy]; exact h
    have q1 := cq (W := wj) fun V _ => r5_Compare_any (B x.1) (B n) V (by rw [Idn.size_B]; omega) (by rw [Idn.size_B]; omega)
    rw [Idn.L_B, Idn.L_B] at q1
    clear hxe d1
    generalize cmpNm x.1 n = cm at HB1 HB2 q1
    generalize x.1 = xn at d0 q1 hxl
    have i0 := cell_regrown q3
    have i1 := cell_regrown d0
    have i2 := cell_regrown b0
    clear S2
    go_wp2_with fail
    refine wp_region_quiet_below (by kernel_rfl) (by kernel_rfl) ?_
    repeat (first | go_big_quiet_step ((go_at_call 66; exact q1 _ _)) | quiet_step ((go_at_call 66; exact q1 _ _)))
    refine wpQuiet_nil ?_
    intro _ hw'
    obtain ⟨⟨dq, osq⟩, hw''⟩ := hw'
    subst hw''
    have hb4 := below_regrown wj dq osq
    generalize grow (redrawn wj dq) osq = W4 at hb4 ⊢
    clear i0 i1 i2 q1
    by_cases hc1 : cm < 0
    ·have HB := HB1 hc1
     clear HB1 HB2 hbef
     go_wp2_with fail
     go_roundw
     case rel => exact ⟨k + 1, by omega, by go_num, Below.on hbj hb4, HB⟩
     case measure => simp [intOf]; omega
    ·have HA := HB2 (by omega)
     clear HB1 HB2
     go_wp2_with fail
     go_meet
     exact ⟨k, rfl, hk, Below.on hbj hb4, hbef, HA⟩
   ·have hke : k = es.length := by omega
    subst hke
    have hltI : ¬ (es.length : Int) < (es.length : Int) := by omega
    have HA : Hid (∀ x, es[es.length]? = some x → ¬ cmpNm x.1 n < 0) := by
     intro x hxj
     rw [List.getElem?_eq_none (Nat.le_refl _)] at hxj
     cases hxj
    have i0 := cell_regrown q3
    clear S2
    go_wp2_with fail
    refine wp_region_quiet_below (by kernel_rfl) (by kernel_rfl) ?_
    repeat (first | go_big_quiet_step ((fail)) | quiet_step ((fail)))
    refine wpQuiet_nil ?_
    intro _ hw'
    obtain ⟨⟨dq, osq⟩, hw''⟩ := hw'
    subst hw''
    have hb4 := below_regrown wj dq osq
    generalize grow (redrawn wj dq) osq = W4 at hb4 ⊢
    clear i0
    go_wp2_with fail
    go_meet
    exact ⟨es.length, rfl, hk, Below.on hbj hb4, hbef, HA⟩
 case rest =>
 obtain ⟨k, rfl, hk, hbc, hbef, hat⟩ := hcut
 generalize wc = W3 at *
 have hbw3 := hbw2.trans (hbc.mono hbw2.size)
 have h3 := h2.keep hbc
 have S3 := h3.ents
 replace b0 := cell_later hbc b0
 replace b1 := cell_later hbc b1
 replace q3 := h3.c3
 have hh := has_at hok hvn'.out hbef.out hat.out
 clear h2 S2 hbw2 hbc
 go_upto_region 11 with fail
 go_cut [7] (fun t wx => t = .bool (hasE es n) ∧ Below W3.heap.size W3 wx)
 case first =>
  clear hkeep kS HR2 h h3 hvn' hbef hat b1
  by_cases hlt : k < es.length
  ·obtain ⟨b, off, va, hAd, _, d0, d1, _⟩ := EntsV.cell S3 hlt
   subst hAd
   have hltI : (k : Int) < (es.length : Int) := by omega
   have hst : ((B es[k].1).toList == (B n).toList) = hasE es n := by
    rw [str_beq, Idn.L_B, Idn.L_B]
    refine bool_ext ?_
    rw [decide_eq_true_eq, hh]
    exact ⟨fun e => ⟨es[k], List.getElem?_eq_getElem hlt, e⟩, fun ⟨x, h1, h2⟩ => by
     rw [List.getElem?_eq_getElem hlt] at h1
     injection h1 with h1
     rw [h1]; exact h2⟩
   generalize es[k].1 = x at *
   generalize hasE es n = th at *
   have i0 := cell_regrown q3
   have i1 := cell_regrown d0
   have i2 := cell_regrown b0
   clear S3 d1 hh
   go_wp2_with fail
   refine wp_region_quiet_below (by kernel_rfl) (by kernel_rfl) ?_
   repeat (first | go_big_quiet_step ((fail)) | quiet_step ((fail)))
   refine wpQuiet_nil ?_
   intro _ hw'
   obtain ⟨⟨dq, osq⟩, hw''⟩ := hw'
   subst hw''
   have hb4 := below_regrown W3 dq osq
   generalize grow (redrawn W3 dq) osq = W4 at hb4 ⊢
   go_wp2_with fail
   go_meet
   exact ⟨rfl, hb4⟩
  ·have hke : k = es.length := by omega
   subst hke
   have hth : hasE es n = false := by
    apply Bool.eq_false_iff.2
    intro e
    obtain ⟨x, h1, _⟩ := hh.1 e
    rw [List.getElem?_eq_none (Nat.le_refl _)] at h1
    cases h1
   have hltI : ¬ (es.length : Int) < (es.length : Int) := by omega
   have i0 := cell_regrown q3
   clear S3 hh
   go_wp2_with fail
   refine wp_region_quiet_below (by kernel_rfl) (by kernel_rfl) ?_
   repeat (first | go_big_quiet_step ((fail)) | quiet_step ((fail)))
   refine wpQuiet_nil ?_
   intro _ hw'
   obtain ⟨⟨dq, osq⟩, hw''⟩ := hw'
   subst hw''
   have hb4 := below_regrown W3 dq osq
   generalize grow (redrawn W3 dq) osq = W4 at hb4 ⊢
   go_wp2_with fail
   go_meet
   exact ⟨by rw [hth], hb4⟩
 case rest =>
 obtain ⟨rfl, hbc⟩ := hcut
 generalize wc = W4 at *
 have hbw4 := hbw3.trans (hbc.mono hbw3.size)
 have h4 := h3.keep hbc
 replace b0 := cell_later hbc b0
 replace b1 := cell_later hbc b1
 replace q3 := h4.c3
 clear h3 S3 hbw3 hbc
 cases hth : hasE es n with
 | false =>
  by_cases h256 : 256 ≤ es.length
  ·have hI : (256 : Int) ≤ (es.length : Int) := by omega
   have HF : Hid (r = (3, es)) := by show _ = _; rw [HR2.out, hth, decide_eq_true h256]; rfl
   clear HR2 kS
   go_wp2_with fail
   go_ret
   rw [HF.out]
   first | exact ⟨rfl, hkeep _ hbw4⟩ | exact ⟨rfl, ⟨_, _, h.keep hbw4⟩, Mv.of_below hbw4 _⟩
  have hI : ¬ (256 : Int) ≤ (es.length : Int) := by omega
  have HE : Hid (r = (0, es.take k ++ (n, Idn.rSorted A) :: es.drop k)) := by
   show _ = _
   rw [HR2.out, hth, decide_eq_false h256]
   show (0, insE n (Idn.rSorted A) es) = _
   rw [insE_new hk hbef.out fun x hx => ⟨hat.out x hx, fun e => by rw [hh.2 ⟨x, hx, e⟩] at hth; cases hth⟩]
  have hkq : k ≤ qs.length := by omega
  have hE4 := EqV.own h4.ent.1
  obtain ⟨A5, c5, hrun5, hT5⟩ := takeE_run hE4 hkq
  have hshp := h4.ent.shapes
  obtain ⟨T1, hT1⟩ : ∃ T1, T1 = [] ++ qs.take k := ⟨_, rfl⟩
  have htl : Hid (T1.length = k) := by show _ = _; rw [hT1, List.nil_append, List.length_take]; omega
  have htk : (qs.take k).length ≤ k := by rw [List.length_take]; omega
  replace hT1 := Lib.hid hT1
  clear HR2 hbef hat hh hth hkeep hvn'
  go_wp2_with (at_builtin; refine wpList_appendE rfl _ _ rfl W4.heap.size _ [] (World.ownsRow_nil _ _ _ _) rfl _ (qs.take k) _ hT5 rfl (fun q hq => hshp q (List.mem_of_mem_take hq)) (by simp; omega) (Nat.le_refl _) T1 hT1.out ?_)
  intro v6 w6 hown6 hb6 _
  have htl2 : T1.length ≤ 1000 := by have := htl.out; omega
  obtain ⟨A6, c6, rfl⟩ := own_shape hown6
  have hbw6 := hbw4.trans (hb6.mono hbw4.size)
  have e0 : w6.drew.cell? ⟨w.heap.size, 0, none⟩ = some (.string (B n)) := cell_later hb6.drew b0
  have e1 : w6.drew.cell? ⟨w.heap.size, 1, none⟩ = some (.slice Ag A.length cg) := cell_later hb6.drew b1
  have hown6d := own_below hown6 (Below.refl _ w6).drew
  have hcall := kS w6.drew hbw6.drew
  have l6 : W4.heap.size ≤ w6.drew.heap.size := hb6.drew.size
  have hbw6d := hbw6.drew
  have hshp' := Lib.hid hshp
  clear kS hE4 hT5 hrun5 h4 b0 b1 q3 hown6 hshp hb6 hbw6
  go_upto_region 16 with fail
  go_region_law (first
   | (go_simp
      go_at_call 67
      refine hcall.mono ?_
      rintro e w7 ⟨v7, ps7, rfl, hat7, hps7, hb7⟩
      obtain ⟨A7, c7, hsh⟩ := own_shape hat7.1
      subst hsh
      have e07 := cell_later hb7 e0
      have hown7 := own_below hown6d hb7
      have hs7 : W4.heap.size ≤ w7.heap.size := Nat.le_trans l6 hb7.size
      go_wp2_with fail)
   | (refine step_push rfl _ _ 27 rfl W4.heap.size 48 (.agg #[.string ⟨#[]⟩, .slice none 0 0]) 2 40 Tryz.underlying27 info_ent rfl (by decide) _ _ _ hown7 rfl [.string (B n), .slice A7 ps7.length c7] rfl rfl (by intro u hu; simp at hu; rcases hu with rfl | rfl <;> rfl) (by omega) hs7 ?_ rfl
      intro v8 w8 hown8 hg8 hat8
      obtain ⟨A8, c8, hv8⟩ := own_shape hown8
      subst hv8
      have hb8 : Below W4.heap.size w7 w8 := (Below.refl _ _).grown hg8 hs7 (fun j hj => (hown7.lt j hj).1)))
  all_goals
   obtain ⟨q8, hq8⟩ : ∃ q8 : EntP × Value, q8 = ((n, Idn.rSorted A), .slice A7 ps7.length c7) := ⟨_, rfl⟩
   obtain ⟨T2, hT2⟩ : ∃ T2, T2 = T1 ++ [q8] := ⟨_, rfl⟩
   have hl8 : Hid (T2.length = T1.length + 1) := by show _ = _; rw [hT2, List.length_append]; rfl
   have hown8' : w8.ownsRow W4.heap.size 48 2 (.slice A8 (T1.length + 1) c8) T2.length (rowEn T2) := by
    rw [hl8.out, hT2, rowEn_app, hq8]
    exact hown8
   have hbw7 := hbw6d.trans (hb7.mono hbw6d.size)
   have hbw8 := hbw7.trans (hb8.mono hbw4.size)
   have hs8 : W4.heap.size ≤ w8.heap.size := Nat.le_trans hs7 hb8.size
   have h8 := h.keep hbw8
   have q38 := h8.c3
   have hrow8 : AttRow w8 w6.drew.heap.size q8.2 ps7 := by
    rw [hq8]
    exact hat7.grownE hown7 hg8
   have hE8 := EqV.own h8.ent.1
   obtain ⟨A9, c9, hrun9, hT9⟩ := dropE_run hE8 (j := k) (by omega)
   have hdl : (qs.drop (k)).length ≤ es.length := by rw [List.length_drop]; omega
   obtain ⟨T3, hT3⟩ : ∃ T3, T3 = T2 ++ qs.drop (k) := ⟨_, rfl⟩
   have hT3e : Hid (T3 = qs.take k ++ [q8] ++ qs.drop (k)) := by show _ = _; rw [hT3, hT2, hT1.out, List.nil_append]
   replace hT3 := Lib.hid hT3
   have hq8' := Lib.hid hq8
   have hl88 : T2.length ≤ 1001 := by have := hl8.out; omega
   clear hT2 hq8
   clear hcall hat7 hown6d hown7 hown8 hg8 hat8 hbw6d hb7 hb8 e07 e0 e1 hE8
   go_wp2_with (at_builtin; refine wpList_appendE rfl _ _ rfl W4.heap.size _ T2 hown8' rfl _ (qs.drop (k)) _ hT9 rfl (fun q hq => hshp'.out q (List.mem_of_mem_drop hq)) (by omega) hs8 T3 hT3.out ?_)
   intro v9 w9 hown9 hb9 hg9
   obtain ⟨A10, c10, rfl⟩ := own_shape hown9
   have hbw9 := hbw8.trans (hb9.mono hbw4.size)
   have h9 := h.keep hbw9
   have hrow9 := hrow8.grownE hown8' hg9
   have q39 := h9.c3
   have f39 := h9.frz 3
   have hER : EntRow w9 lo (.slice A10 T3.length c10) T3 := ⟨own_lower hown9 (Nat.le_trans h.loz hbw4.size), fun q hq => by
    rw [hT3e.out] at hq
    rcases List.mem_append.1 hq with hq | hq
    ·rcases List.mem_append.1 hq with hq | hq
     ·exact h9.ent.2 q (List.mem_of_mem_take hq)
     ·rw [List.mem_singleton] at hq
      subst hq
      exact ⟨ps7, hrow9.low (Nat.le_trans h.loz (Nat.le_trans hbw4.size l6)), by rw [hps7, hq8'.out]⟩
    ·exact h9.ent.2 q (List.mem_of_mem_drop hq)⟩
   have hmap : T3.map (·.1) = es.take k ++ (n, Idn.rSorted A) :: es.drop (k) := by
    rw [hT3e.out, ← h.map, hq8'.out]
    simp
   have hfin := h9.store hER
   rw [hmap] at hfin
   have hmv := (Mv.of_below (S := (· = rx)) hbw9).trans (Mv.set w9 rx 3 (.slice A10 T3.length c10)) fun j hj => .inl hj
   replace hfin := Lib.hid hfin
   replace hmv := Lib.hid hmv
   clear hER hmap hown9 hrow9 hrow8 hg9 hT9 hrun9 h9 h8 hown8' hps7
   go_wp2_with fail
   go_ret
   rw [HE.out]
   first | exact ⟨rfl, ⟨_, _, hfin.out⟩, hmv.out⟩ | exact ⟨rfl, _, _, hfin.out, hmv.out⟩
 | true =>
  have hklt : k < es.length := by
   obtain ⟨x, h1, _⟩ := hh.1 hth
   exact (List.getElem?_eq_some_iff.1 h1).1
  have HE : Hid (r = (0, es.take k ++ (n, Idn.rSorted A) :: es.drop (k + 1))) := by
   show _ = _
   rw [HR2.out, hth]
   obtain ⟨x, h1, h2⟩ := hh.1 hth
   show (0, insE n (Idn.rSorted A) es) = _
   rw [insE_there hbef.out h1 (hat.out x h1) h2]
  have hkq : k ≤ qs.length := by omega
  have hE4 := EqV.own h4.ent.1
  obtain ⟨A5, c5, hrun5, hT5⟩ := takeE_run hE4 hkq
  have hshp := h4.ent.shapes
  obtain ⟨T1, hT1⟩ : ∃ T1, T1 = [] ++ qs.take k := ⟨_, rfl⟩
  have htl : Hid (T1.length = k) := by show _ = _; rw [hT1, List.nil_append, List.length_take]; omega
  have htk : (qs.take k).length ≤ k := by rw [List.length_take]; omega
  replace hT1 := Lib.hid hT1
  clear HR2 hbef hat hh hth hkeep hvn'
  go_wp2_with (at_builtin; refine wpList_appendE rfl _ _ rfl W4.heap.size _ [] (World.ownsRow_nil _ _ _ _) rfl _ (qs.take k) _ hT5 rfl (fun q hq => hshp q (List.mem_of_mem_take hq)) (by simp; omega) (Nat.le_refl _) T1 hT1.out ?_)
  intro v6 w6 hown6 hb6 _
  have htl2 : T1.length ≤ 1000 := by have := htl.out; omega
  obtain ⟨A6, c6, rfl⟩ := own_shape hown6
  have hbw6 := hbw4.trans (hb6.mono hbw4.size)
  have e0 : w6.drew.cell? ⟨w.heap.size, 0, none⟩ = some (.string (B n)) := cell_later hb6.drew b0
  have e1 : w6.drew.cell? ⟨w.heap.size, 1, none⟩ = some (.slice Ag A.length cg) := cell_later hb6.drew b1
  have hown6d := own_below hown6 (Below.refl _ w6).drew
  have hcall := kS w6.drew hbw6.drew
  have l6 : W4.heap.size ≤ w6.drew.heap.size := hb6.drew.size
  have hbw6d := hbw6.drew
  have hshp' := Lib.hid hshp
  clear kS hE4 hT5 hrun5 h4 b0 b1 q3 hown6 hshp hb6 hbw6
  go_upto_region 16 with fail
  go_region_law (first
   | (go_simp
      go_at_call 67
      refine hcall.mono ?_
      rintro e w7 ⟨v7, ps7, rfl, hat7, hps7, hb7⟩
      obtain ⟨A7, c7, hsh⟩ := own_shape hat7.1
      subst hsh
      have e07 := cell_later hb7 e0
      have hown7 := own_below hown6d hb7
      have hs7 : W4.heap.size ≤ w7.heap.size := Nat.le_trans l6 hb7.size
      go_wp2_with fail)
   | (refine step_push rfl _ _ 27 rfl W4.heap.size 48 (.agg #[.string ⟨#[]⟩, .slice none 0 0]) 2 40 Tryz.underlying27 info_ent rfl (by decide) _ _ _ hown7 rfl [.string (B n), .slice A7 ps7.length c7] rfl rfl (by intro u hu; simp at hu; rcases hu with rfl | rfl <;> rfl) (by omega) hs7 ?_ rfl
      intro v8 w8 hown8 hg8 hat8
      obtain ⟨A8, c8, hv8⟩ := own_shape hown8
      subst hv8
      have hb8 : Below W4.heap.size w7 w8 := (Below.refl _ _).grown hg8 hs7 (fun j hj => (hown7.lt j hj).1)))
  all_goals
   obtain ⟨q8, hq8⟩ : ∃ q8 : EntP × Value, q8 = ((n, Idn.rSorted A), .slice A7 ps7.length c7) := ⟨_, rfl⟩
   obtain ⟨T2, hT2⟩ : ∃ T2, T2 = T1 ++ [q8] := ⟨_, rfl⟩
   have hl8 : Hid (T2.length = T1.length + 1) := by show _ = _; rw [hT2, List.length_append]; rfl
   have hown8' : w8.ownsRow W4.heap.size 48 2 (.slice A8 (T1.length + 1) c8) T2.length (rowEn T2) := by
    rw [hl8.out, hT2, rowEn_app, hq8]
    exact hown8
   have hbw7 := hbw6d.trans (hb7.mono hbw6d.size)
   have hbw8 := hbw7.trans (hb8.mono hbw4.size)
   have hs8 : W4.heap.size ≤ w8.heap.size := Nat.le_trans hs7 hb8.size
   have h8 := h.keep hbw8
   have q38 := h8.c3
   have hrow8 : AttRow w8 w6.drew.heap.size q8.2 ps7 := by
    rw [hq8]
    exact hat7.grownE hown7 hg8
   have hE8 := EqV.own h8.ent.1
   obtain ⟨A9, c9, hrun9, hT9⟩ := dropE_run hE8 (j := k + 1) (by omega)
   rw [show ((k + 1 : Nat) : Int) = (k : Int) + 1 from rfl] at hrun9
   have hdl : (qs.drop (k + 1)).length ≤ es.length := by rw [List.length_drop]; omega
   obtain ⟨T3, hT3⟩ : ∃ T3, T3 = T2 ++ qs.drop (k + 1) := ⟨_, rfl⟩
   have hT3e : Hid (T3 = qs.take k ++ [q8] ++ qs.drop (k + 1)) := by show _ = _; rw [hT3, hT2, hT1.out, List.nil_append]
   replace hT3 := Lib.hid hT3
   have hq8' := Lib.hid hq8
   have hl88 : T2.length ≤ 1001 := by have := hl8.out; omega
   clear hT2 hq8
   clear hcall hat7 hown6d hown7 hown8 hg8 hat8 hbw6d hb7 hb8 e07 e0 e1 hE8
   go_wp2_with (at_builtin; refine wpList_appendE rfl _ _ rfl W4.heap.size _ T2 hown8' rfl _ (qs.drop (k + 1)) _ hT9 rfl (fun q hq => hshp'.out q (List.mem_of_mem_drop hq)) (by omega) hs8 T3 hT3.out ?_)
   intro v9 w9 hown9 hb9 hg9
   obtain ⟨A10, c10, rfl⟩ := own_shape hown9
   have hbw9 := hbw8.trans (hb9.mono hbw4.size)
   have h9 := h.keep hbw9
   have hrow9 := hrow8.grownE hown8' hg9
   have q39 := h9.c3
   have f39 := h9.frz 3
   have hER : EntRow w9 lo (.slice A10 T3.length c10) T3 := ⟨own_lower hown9 (Nat.le_trans h.loz hbw4.size), fun q hq => by
    rw [hT3e.out] at hq
    rcases List.mem_append.1 hq with hq | hq
    ·rcases List.mem_append.1 hq with hq | hq
     ·exact h9.ent.2 q (List.mem_of_mem_take hq)
     ·rw [List.mem_singleton] at hq
      subst hq
      exact ⟨ps7, hrow9.low (Nat.le_trans h.loz (Nat.le_trans hbw4.size l6)), by rw [hps7, hq8'.out]⟩
    ·exact h9.ent.2 q (List.mem_of_mem_drop hq)⟩
   have hmap : T3.map (·.1) = es.take k ++ (n, Idn.rSorted A) :: es.drop (k + 1) := by
    rw [hT3e.out, ← h.map, hq8'.out]
    simp
   have hfin := h9.store hER
   rw [hmap] at hfin
   have hmv := (Mv.of_below (S := (· = rx)) hbw9).trans (Mv.set w9 rx 3 (.slice A10 T3.length c10)) fun j hj => .inl hj
   replace hfin := Lib.hid hfin
   replace hmv := Lib.hid hmv
   clear hER hmap hown9 hrow9 hrow8 hg9 hT9 hrun9 h9 h8 hown8' hps7
   go_wp2_with fail
   go_ret
   rw [HE.out]
   first | exact ⟨rfl, ⟨_, _, hfin.out⟩, hmv.out⟩ | exact ⟨rfl, _, _, hfin.out, hmv.out⟩
end
end Go.Proofs.YtbkkchhimhlhcaaGreatDoor
