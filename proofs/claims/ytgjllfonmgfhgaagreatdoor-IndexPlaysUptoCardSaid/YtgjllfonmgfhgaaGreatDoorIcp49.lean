/- Part 49 of the proof that laws of identitylaw11 return true at every argument within the bound: the package variables hold what the program lays; nothing else is asked. -/
import Derived.Test.YtgjllfonmgfhgaaGreatDoorIcp39
import Derived.Test.YtgjllfonmgfhgaaGreatDoorIcp48
set_option linter.unusedVariables false
set_option linter.unusedSimpArgs false
set_option maxRecDepth 100000
set_option maxHeartbeats 16000000
/- Plain laws of identitylaw11: what was put against what is stored; the index's knowledge along the puts; the filters that Check takes. -/
namespace Go.Proofs.YtgjllfonmgfhgaaGreatDoor
open Go.RowKit Go.Sort
open Idn (L B Bs)
theorem put_len {es : List IxE} (h : OkE es) (n : Bs) (A : List Idn.Att) : (ixPut es n A).2.length ≤ es.length + 1 := by
 unfold ixPut
 by_cases h1 : (n.isEmpty || !validN n) = true
 ·rw [if_pos h1]; exact Nat.le_succ _
 ·rw [if_neg h1]
  have hv : validN n = true := by
   have : (n.isEmpty || !validN n) = false := by simpa using h1
   rw [Bool.or_eq_false_iff] at this
   simpa using this.2
  split
  ·exact Nat.le_succ _
  ·split
   ·exact Nat.le_succ _
   ·show (insE n (Idn.rSorted A) es).length ≤ _
    rw [insE_len hv h]
    split <;> omega
theorem GdI.put {s : Idn.Sch} {ns : List Bs} {es : List IxE} (h : GdI s ns es) {n : Bs} {A : List Idn.Att} (hl : n.length ≤ 1000000) (hlen : es.length < 256) : GdI s ns (ixPut es n A).2 := by
 unfold ixPut
 by_cases h1 : (n.isEmpty || !validN n) = true
 ·rw [if_pos h1]; exact h
 ·rw [if_neg h1]
  have hv : validN n = true := by
   have : (n.isEmpty || !validN n) = false := by simpa using h1
   rw [Bool.or_eq_false_iff] at this
   simpa using this.2
  by_cases h2 : (Idn.aCheck A != 0) = true
  ·rw [if_pos h2]; exact h
  ·rw [if_neg h2]
   split
   ·exact h
   ·exact h.ins hv hl (by simpa using h2) (.inr hlen)
theorem CdE.len {es : List IxE} (h : OkE es) {l : List Bs} (hc : CdE es l) : l.length ≤ es.length := by
 have hnd : l.Nodup := hc.1.imp_of_mem fun {a b} ha _ hlt e => by
  subst e
  obtain ⟨x, hx, hx'⟩ := List.mem_map.1 (hc.2 a ha)
  have := nm_irr (h.val x hx)
  rw [hx'] at this
  omega
 have := nodup_lenS hnd hc.2
 unfold namesE at this
 rwa [List.length_map] at this
theorem nSm_fOk (f : Flt) : nSm f → fG 1048576 f → fOk f := by
 induction f using Flt.ind with
 | h k n v ps ks ih =>
  intro h g
  rw [nSm] at h
  rw [fG] at g
  rw [fOk]
  obtain ⟨h1, h2, h3, h4, h5⟩ := h
  obtain ⟨_, _, g3, _, g5⟩ := g
  exact ⟨⟨by omega, by omega, by omega, fun x hx => by have := g3.2 x hx; omega⟩, fOks_all.2 fun q hq => ih q hq (nSms_all.1 h5 q hq) (fGs_all.1 g5 q hq)⟩
theorem ready_fsm {es : List EntP} {f : Flt} (h : ReadyC es f) (g : fG 1048576 f) : FSm 1000 f := ⟨by have := h.2.2; omega, nSm_fOk f h.2.1 g⟩
theorem fG_len {n : Nat} (hn : n ≤ 9223372036854775807) (f : Flt) : fG n f → fLen f := by
 induction f using Flt.ind with
 | h k a v ps ks ih =>
  intro g
  rw [fG] at g
  rw [fLen]
  obtain ⟨_, _, g3, g4, g5⟩ := g
  exact ⟨Nat.le_trans g3.1 hn, Nat.le_trans g4 hn, fLens_all.2 fun q hq => ih q hq (fGs_all.1 g5 q hq)⟩
theorem light_asm7 {n : ByteArray} {A : List Idn.Att} (h : LightE n A) : Idn.ASm7 A := by
 obtain ⟨_, h2, h3⟩ := h
 refine ⟨by omega, fun a ha => ?_⟩
 obtain ⟨q1, q2, q3⟩ := h3 a ha
 exact ⟨by omega, by omega, fun x hx => by have := q3 x hx; omega⟩
end Go.Proofs.YtgjllfonmgfhgaaGreatDoor
/- law11: rows of entries while an index turns. -/
namespace Go.Proofs.YtgjllfonmgfhgaaGreatDoor
open Go.RowKit Go.Sort
open Idn (L B Bs drop_L take_L size_L)
def Cls (w w' : World) : Prop := (∀ a u, w.cell? a = some u → w'.cell? a = some u) ∧ w.heap.size ≤ w'.heap.size
theorem Cls.refl (w : World) : Cls w w := ⟨fun _ _ h => h, Nat.le_refl _⟩
theorem Cls.trans {w w' w'' : World} (h : Cls w w') (k : Cls w' w'') : Cls w w'' := ⟨fun a u e => k.1 a u (h.1 a u e), Nat.le_trans h.2 k.2⟩
theorem Cls.of_below {w w' : World} (h : Below w.heap.size w w') : Cls w w' := ⟨fun _ _ e => cell_later h e, h.size⟩
theorem Cls.of_mv {S : Nat → Prop} {w w' : World} (h : Mv S w w') (hS : AllMap w S) : Cls w w' := ⟨fun _ _ e => h.cell hS e, h.size⟩
theorem Cls.cell {w w' : World} (h : Cls w w') {a : Addr} {u : Value} (e : w.cell? a = some u) : w'.cell? a = some u := h.1 a u e
theorem EntRef.mv {S : Nat → Prop} {w0 w w' : World} {base : Nat} {v : Value} {qs : List (EntP × Value)} (h : EntRef w0 w base v qs) (hm : Mv S w w') (hS : AllMap w S) : EntRef w0 w' base v qs :=
 ⟨own_mv h.1 hm fun k hk => .inr (hS k hk), h.2⟩
theorem ge_elen {es : List EntP} (h1 : es.length ≤ 1048576) (h2 : ∀ e ∈ es, GE e 1048576) : ELen es :=
 ⟨by omega, fun e he => ⟨by have := (h2 e he).1; omega, by have := (h2 e he).2.1; omega, fun a ha => by have := ((h2 e he).2.2 a ha).2.1; omega⟩⟩
section
variable {w : World} {hs lo px : Nat} {s : Idn.Sch} {ns : List Bs} {es : List IxE} {ta cb : Value} {eb vb : Nat} {g : Bs → Value} {ts : List (Bs × Nat)} {G : Bs → Bs → Option Nat}
theorem put11_any (hI : IxV w hs lo px s ns es ta cb eb vb g ts G) (hG : GdI s ns es) (hlen : es.length < 256) {lo0 : Nat} (hlo : lo0 ≤ hs) (w0 : World) (hb0 : Below lo0 w0 w) (hE : ∀ W, Below lo0 w0 W → Env W ∧ EnvU W) (n : Bs) (hn : n.length ≤ 1000000) (av : Value) (A : List Idn.Att) (hatv : AttsV w w.heap.size av A) (hA7 : Idn.ASm7 A) :
  Calls Tryz.prog 15 #[.pointer (some ⟨px, 0, none⟩), .agg #[.string (B n), av]] w fun e w' => e = .returned (.int .i64 (ixPut es n A).1) ∧ ∃ g' G', IxV w' hs lo px s ns (ixPut es n A).2 ta cb eb vb g' ts G' ∧ GdI s ns (ixPut es n A).2 ∧ Mv (IxS eb ts G) w w' ∧ (∀ k, IxS eb ts G' k → IxS eb ts G k ∨ w.heap.size ≤ k) ∧ Below lo0 w0 w' ∧ Cls w w' := by
 refine (ixPut_any hI hG (fun W hW => hE W (hb0.trans (hW.mono hlo))) n hn av A hatv hA7).mono ?_
 rintro e w' ⟨h1, g', G', h2, h3, h4⟩
 exact ⟨h1, g', G', h2, hG.put hn hlen, h3, h4, hb0.trans ((h3.below hI.lowS hI.hsz).mono hlo), Cls.of_mv h3 hI.allMap⟩
theorem drop11_any (hI : IxV w hs lo px s ns es ta cb eb vb g ts G) (hG : GdI s ns es) {lo0 : Nat} (hlo : lo0 ≤ hs) (w0 : World) (hb0 : Below lo0 w0 w) (hE : ∀ W, Below lo0 w0 W → Env W ∧ EnvU W) (n : Bs) (hn : n.length ≤ 1000000) :
  Calls Tryz.prog 17 #[.pointer (some ⟨px, 0, none⟩), .string (B n)] w fun e w' => e = .returned (.tuple #[]) ∧ ∃ G', IxV w' hs lo px s ns (ixDrop es n) ta cb eb vb g ts G' ∧ GdI s ns (ixDrop es n) ∧ Mv (IxS eb ts G) w w' ∧ (∀ k, IxS eb ts G' k → IxS eb ts G k ∨ w.heap.size ≤ k) ∧ Below lo0 w0 w' ∧ Cls w w' := by
 refine (ixDrop_any hI hG (fun W hW => hE W (hb0.trans (hW.mono hlo))) n hn).mono ?_
 rintro e w' ⟨h1, G', h2, h3, h4⟩
 exact ⟨h1, G', h2, hG.drop n, h3, h4, hb0.trans ((h3.below hI.lowS hI.hsz).mono hlo), Cls.of_mv h3 hI.allMap⟩
theorem rng11_any (hI : IxV w hs lo px s ns es ta cb eb vb g ts G) (hG : GdI s ns es) {lo0 : Nat} (w0 : World) (hb0 : Below lo0 w0 w) (hlo : lo0 ≤ w.heap.size) (hE : ∀ W, Below lo0 w0 W → Env W ∧ EnvU W) (a low hi : ByteArray) (ha : a.size ≤ 1000000000) (hl : low.size ≤ 100000000) (hh : hi.size ≤ 100000000) :
  Calls Tryz.prog 22 #[.pointer (some ⟨px, 0, none⟩), .string a, .string low, .string hi] w (RetC w (ixRange s (ns.map Idn.lower) es (L a) (L low) (L hi))) :=
 ixRange_any hI hG (fun W hW => hE W (hb0.trans (hW.mono hlo))) a low hi ha hl hh
theorem fnd11_any (hI : IxV w hs lo px s ns es ta cb eb vb g ts G) (hG : GdI s ns es) {lo0 : Nat} (w0 : World) (hb0 : Below lo0 w0 w) (hlo : lo0 ≤ w.heap.size) (hE : ∀ W, Below lo0 w0 W → Env W ∧ EnvU W) (a x : ByteArray) (ha : a.size ≤ 1000000000) (hx : x.size ≤ 100000000) :
  Calls Tryz.prog 19 #[.pointer (some ⟨px, 0, none⟩), .string a, .string x] w (RetC w (ixFind s (ns.map Idn.lower) es (L a) (L x))) :=
 ixFind_any hI hG (fun W hW => hE W (hb0.trans (hW.mono hlo))) a x ha hx
end
theorem RetC.open_ {w w' : World} {r : List Bs × Bool} {e : Ending} (h : RetC w r e w') : ∃ A c, e = .returned (.tuple #[.slice A r.1.length c, .bool r.2]) ∧ StrsV w' w'.heap.size (.slice A r.1.length c) r.1 ∧ Below w.heap.size w w' := by
 obtain ⟨v, h1, h2, h3⟩ := h
 obtain ⟨A, c, rfl⟩ := own_shape h2
 exact ⟨A, c, h1, StrsV.of_own h2, h3⟩
def Dj (eb vb : Nat) (ts : List (Bs × Nat)) (G : Bs → Bs → Option Nat) (eb' vb' : Nat) (ts' : List (Bs × Nat)) (G' : Bs → Bs → Option Nat) : Prop := (∀ k, IxS eb ts G k → k ≠ vb' ∧ ¬ IxS eb' ts' G' k) ∧ ∀ k, IxS eb' ts' G' k → k ≠ vb
section
variable {w w' : World} {hs lo px : Nat} {s : Idn.Sch} {ns : List Bs} {es : List IxE} {ta cb : Value} {eb vb : Nat} {g : Bs → Value} {ts : List (Bs × Nat)} {G : Bs → Bs → Option Nat} {hs' lo' px' : Nat} {s' : Idn.Sch} {ns' : List Bs} {es' : List IxE} {ta' cb' : Value} {eb' vb' : Nat} {g' : Bs → Value} {ts' : List (Bs × Nat)} {G' G2 : Bs → Bs → Option Nat}
theorem IxV.ltS (h : IxV w hs lo px s ns es ta cb eb vb g ts G) {k : Nat} (hk : IxS eb ts G k) : k < w.heap.size := by
 obtain ⟨es, c, e⟩ := h.allMap k hk
 exact (Array.getElem?_eq_some_iff.1 e).1
theorem Dj.symm (h : Dj eb vb ts G eb' vb' ts' G') : Dj eb' vb' ts' G' eb vb ts G := ⟨fun k hk => ⟨h.2 k hk, fun h' => (h.1 k h').2 hk⟩, fun k hk => (h.1 k hk).1⟩
theorem Dj.turn (h : Dj eb vb ts G eb' vb' ts' G') (hy : IxV w hs' lo' px' s' ns' es' ta' cb' eb' vb' g' ts' G') (hn : ∀ k, IxS eb ts G2 k → IxS eb ts G k ∨ w.heap.size ≤ k) : Dj eb vb ts G2 eb' vb' ts' G' :=
 ⟨fun k hk => by
  rcases hn k hk with h1 | h1
  ·exact h.1 k h1
  ·exact ⟨fun e => by have := hy.vl.top.lt; omega, fun h2 => by have := hy.ltS h2; omega⟩, h.2⟩
theorem IxV.other (hy : IxV w hs' lo' px' s' ns' es' ta' cb' eb' vb' g' ts' G') (hd : Dj eb vb ts G eb' vb' ts' G') (hm : Mv (IxS eb ts G) w w') (hall : AllMap w (IxS eb ts G)) : IxV w' hs' lo' px' s' ns' es' ta' cb' eb' vb' g' ts' G' :=
 hy.mv hm fun k hk => ⟨(hd.1 k hk).1, (hd.1 k hk).2, .inl (hall k hk)⟩
theorem Dj.of (hx : IxV w hs lo px s ns es ta cb eb vb g ts G) (hy : IxV w' hs' lo' px' s' ns' es' ta' cb' eb' vb' g' ts' G') (hh : w.heap.size ≤ hs') : Dj eb vb ts G eb' vb' ts' G' :=
 ⟨fun k hk => by
  have h1 := hx.ltS hk
  exact ⟨fun e => by have := hy.hsv; omega, fun h2 => by have := hy.lowS k h2; omega⟩, fun k hk => by
  have h1 := hy.lowS k hk
  have h2 := hx.vl.top.lt
  omega⟩
end
end Go.Proofs.YtgjllfonmgfhgaaGreatDoor
/- identityref11: the index in memory; indexed, Len, Find. -/
namespace Go.Proofs.YtgjllfonmgfhgaaGreatDoor
open Go.RowKit Go.Sort
open Idn (L B Bs drop_L take_L size_L)
structure RefV (w : World) (hs lo rx : Nat) (s : Idn.Sch) (idx : List Bs) (es : List IxE) (ta cb nv lv : Value) (qs : List (EntP × Value)) : Prop where
 c0 : w.cell? ⟨rx, 0, none⟩ = some ta
 c1 : w.cell? ⟨rx, 1, none⟩ = some cb
 c2 : w.cell? ⟨rx, 2, none⟩ = some nv
 c3 : w.cell? ⟨rx, 3, none⟩ = some lv
 c4 : w.cell? ⟨rx, 4, none⟩ = some (.bool true)
 frz : ∀ i, w.frozen? ⟨rx, i, none⟩ = false
 sch : SchV w hs (.agg #[ta, cb]) s
 nam : w.ownsRow lo 9 1 nv idx.length (idx.map sv)
 ent : EntRow w lo lv qs
 map : qs.map (·.1) = es
 hsz : hs ≤ w.heap.size
 hsr : hs ≤ rx
 rlo : rx < lo
 loz : lo ≤ w.heap.size
section
variable {w w' : World} {hs lo rx : Nat} {s : Idn.Sch} {idx : List Bs} {es : List IxE} {ta cb nv lv : Value} {qs : List (EntP × Value)}
theorem RefV.len (h : RefV w hs lo rx s idx es ta cb nv lv qs) : qs.length = es.length := by rw [← h.map, List.length_map]
theorem frozen_mv {S : Nat → Prop} (hm : Mv S w w') {b i : Nat} (hb : b < w.heap.size) (hS : ¬ S b) (h : w.frozen? ⟨b, i, none⟩ = false) : w'.frozen? ⟨b, i, none⟩ = false := by
 have := hm.block b hb hS
 unfold World.frozen? at *
 rw [this]; exact h
theorem AttRow.mv {S : Nat → Prop} {base : Nat} {v : Value} {ps : List (Idn.Att × Value)} (h : AttRow w base v ps) (hm : Mv S w w') (hS : ∀ k, S k → k < base ∨ ∃ es c, w.heap[k]? = some (.map es c)) : AttRow w' base v ps :=
 ⟨own_mv h.1 hm hS, fun p hp => own_mv (h.2 p hp) hm hS⟩
theorem EntRow.mv {S : Nat → Prop} {base : Nat} {v : Value} {qs : List (EntP × Value)} (h : EntRow w base v qs) (hm : Mv S w w') (hS : ∀ k, S k → k < base ∨ ∃ es c, w.heap[k]? = some (.map es c)) : EntRow w' base v qs :=
 ⟨own_mv h.1 hm hS, fun q hq => by obtain ⟨ps, h1, h2⟩ := h.2 q hq; exact ⟨ps, h1.mv hm hS, h2⟩⟩
theorem RefV.mv {S : Nat → Prop} (h : RefV w hs lo rx s idx es ta cb nv lv qs) (hm : Mv S w w') (hS : AllMap w S) : RefV w' hs lo rx s idx es ta cb nv lv qs := by
 have hlt := World.block_lt_of_cell? _ _ h.c0
 have hn : ¬ S rx := fun hk => by
  obtain ⟨es, c, e⟩ := hS _ hk
  have := h.c0
  unfold World.cell? at this
  dsimp only at this
  rw [e] at this
  cases this
 exact { h with
  c0 := hm.cell hS h.c0
  c1 := hm.cell hS h.c1
  c2 := hm.cell hS h.c2
  c3 := hm.cell hS h.c3
  c4 := hm.cell hS h.c4
  frz := fun i => frozen_mv hm hlt hn (h.frz i)
  sch := h.sch.keepC fun _ _ _ _ hc => hm.cell hS hc
  nam := own_mv h.nam hm fun k hk => .inr (hS k hk)
  ent := h.ent.mv hm fun k hk => .inr (hS k hk)
  hsz := Nat.le_trans h.hsz hm.size
  loz := Nat.le_trans h.loz hm.size }
theorem RefV.keep (h : RefV w hs lo rx s idx es ta cb nv lv qs) (hb : Below w.heap.size w w') : RefV w' hs lo rx s idx es ta cb nv lv qs :=
 h.mv (S := fun _ => False) (Mv.of_below hb _) fun _ h => h.elim
theorem RefV.ents (h : RefV w hs lo rx s idx es ta cb nv lv qs) : EntsV w w.heap.size lv es := h.ent.ents h.map
theorem r11_indexed_any (h : RefV w hs lo rx s idx es ta cb nv lv qs) (n : ByteArray) (hn : n.size ≤ 1000000000) (hi : idx.length ≤ 1000000000) :
    Calls Tryz.prog 45 #[.pointer (some ⟨rx, 0, none⟩), .string n] w fun e w' => e = .returned (.bool (idx.contains (Idn.lower (L n)))) ∧ Below w.heap.size w w' := by
 have hL := fun W => r_lower_any n W (by omega)
 have S0 : StrsV w w.heap.size nv idx := StrsV.of_own h.nam
 obtain ⟨A0, cn, rfl, _⟩ := SlV.shape S0
 have p2 := h.c2
 have p4 := h.c4
 obtain ⟨R, hR⟩ : ∃ R, R = idx.contains (Idn.lower (L n)) := ⟨_, rfl⟩
 rw [← hR]
 have HR : Hid (R = (idx.drop 0).contains (Idn.lower (L n))) := hR
 clear hR h
 generalize Idn.lower (L n) = x at *
 go_enter Tryz.func45, Tryz.ntmps45
 go_wp2_with fail
 go_loopw [5] (fun i wr => ∃ k : Nat, k ≤ idx.length ∧ i = .int .i64 k ∧ Below w.heap.size w wr ∧ Hid (R = (idx.drop k).contains x)) (fun i _ => idx.length - (intOf i).toNat)
 case atStart => exact ⟨0, Nat.zero_le _, rfl, Below.refl _ _, HR⟩
 case round =>
  obtain ⟨k, hk, rfl, hb, hinv⟩ := hrel
  clear HR
  replace p2 := cell_later hb p2
  by_cases hlt : k < idx.length
  ·obtain ⟨b, off, hAd, _, d0⟩ := StrsV.cell (SlV.mono (SlV.keep S0 hb) hb.size) hlt
   subst hAd
   have hltI : (k : Int) < (idx.length : Int) := by omega
   have hst : Hid (R = (decide (idx[k] = x) || (idx.drop (k + 1)).contains x)) := by
    show _ = _
    rw [hinv.out, List.drop_eq_getElem_cons hlt]
    refine bool_ext ?_
    rw [Bool.or_eq_true, decide_eq_true_eq, List.contains_iff_mem, List.contains_iff_mem, List.mem_cons]
    exact ⟨fun h => h.imp Eq.symm id, fun h => h.imp Eq.symm id⟩
   have ht : ((B idx[k]).toList == (B x).toList) = decide (idx[k] = x) := by rw [str_beq, Idn.L_B, Idn.L_B]
   have hstd : ∀ q, decide (idx[k] = x) = q → Hid (R = (q || (idx.drop (k + 1)).contains x)) := fun q hq => by show _ = _; rw [hst.out, hq]
   have hst2 := hstd _ rfl
   generalize decide (idx[k] = x) = q at *
   generalize idx[k] = y at *
   have q1 := cq (W := wr) fun V _ => hL V
   have i0 := cell_regrown p2
   have i1 := cell_regrown d0
   clear hst hstd hinv S0
   go_wp2_with fail
   refine wp_region_quiet_below (by kernel_rfl) (by kernel_rfl) ?_
   repeat (first | go_big_quiet_step ((go_at_call 46; exact q1 _ _)) | quiet_step ((go_at_call 46; exact q1 _ _)))
   refine wpQuiet_nil ?_
   intro _ hw'
   obtain ⟨⟨dq, osq⟩, hw''⟩ := hw'
   subst hw''
   have hb4 := below_regrown wr dq osq
   generalize grow (redrawn wr dq) osq = W4 at hb4 ⊢
   clear i0 i1 q1
   cases q with
   | true =>
    have HF : Hid (R = true) := by show _ = _; rw [hst2.out]; rfl
    clear hst2
    go_wp2_with fail
    go_ret
    exact ⟨ret_bool HF.out.symm, Below.on hb hb4⟩
   | false =>
    have HF : Hid (R = (idx.drop (k + 1)).contains x) := by show _ = _; rw [hst2.out]; rfl
    clear hst2
    go_wp2_with fail
    go_roundw
    case rel => exact ⟨k + 1, by omega, by go_num, Below.on hb hb4, HF⟩
    case measure => simp [intOf]; omega
  ·have hltI : ¬ (k : Int) < (idx.length : Int) := by omega
   have HF : Hid (R = false) := by show _ = _; rw [hinv.out, List.drop_eq_nil_of_le (by omega)]; rfl
   clear hinv
   go_wp2_with fail
   go_ret
   exact ⟨ret_bool HF.out.symm, hb⟩
theorem r11_Len_any (h : RefV w hs lo rx s idx es ta cb nv lv qs) : Calls Tryz.prog 25 #[.pointer (some ⟨rx, 0, none⟩)] w fun e w' => e = .returned (.int .i64 es.length) ∧ w = w' := by
 obtain ⟨A0, cn, rfl, _⟩ := SlV.shape h.ents
 have p3 := h.c3
 clear h
 go_enter Tryz.func25, Tryz.ntmps25
 go_wp2_with fail
 go_ret
 exact ⟨rfl, rfl⟩
end
end Go.Proofs.YtgjllfonmgfhgaaGreatDoor
/- identityref11: found, Range, Find, present. -/
namespace Go.Proofs.YtgjllfonmgfhgaaGreatDoor
open Go.RowKit Go.Sort
open Idn (L B Bs drop_L take_L size_L)
section
variable {w w' : World} {hs lo rx : Nat} {s : Idn.Sch} {idx : List Bs} {es : List IxE} {ta cb nv lv : Value} {qs : List (EntP × Value)}
theorem r11_found_any (h : RefV w hs lo rx s idx es ta cb nv lv qs) (hsm : SSm s) (n : ByteArray) (ea : Value) (A : List Idn.Att) (hA : AttsV w w.heap.size ea A) (hAg : AGet A) (a low hi : ByteArray) (ha : a.size ≤ 1000000000) (hlo : low.size ≤ 100000000) (hhi : hi.size ≤ 100000000) :
    Calls Tryz.prog 62 #[.pointer (some ⟨rx, 0, none⟩), .agg #[.string n, ea], .string a, .string low, .string hi] w fun e w' => e = .returned (.bool ((rGet A (L a)).any (refIn s (L a) (L low) (L hi)))) ∧ Below w.heap.size w w' := by
 have hsc := fun W (hW : Below w.heap.size w W) => SchV.mono (SchV.keep (SchV.mono h.sch h.hsz) hW) hW.size
 have kG := fun W (hW : Below w.heap.size w W) => r6_Get_any ea A a W (AttsV.mono (AttsV.keep hA hW) hW.size) hAg.1 ha
 have kN := fun (x : Bs) (hx : x.length ≤ 100000000) W (hW : Below w.heap.size w W) => r_Normal_any _ s a (B x) W (hsc W hW) hsm ha (by rw [Idn.size_B]; omega)
 have kC1 := fun (x : Bs) (hx : x.length ≤ 100000000) W (hW : Below w.heap.size w W) => r_Compare_any _ s a low (B x) W (hsc W hW) hsm ha hlo (by rw [Idn.size_B]; omega)
 have kC2 := fun (x : Bs) (hx : x.length ≤ 100000000) W (hW : Below w.heap.size w W) => r_Compare_any _ s a (B x) hi W (hsc W hW) hsm ha (by rw [Idn.size_B]; omega) hhi
 simp only [Idn.L_B] at kN kC1 kC2
 have hvE : Hid (∀ x ∈ rGet A (L a), x.length ≤ 100000000) := (hAg.2 (L a)).2
 have hvL : Hid ((rGet A (L a)).length ≤ 1000000000) := (hAg.2 (L a)).1
 have hbt : ∀ x, Hid (refIn s (L a) (L low) (L hi) x = (decide ((sNorm s (L a) x).2 = 0) && (decide ((if (L low).isEmpty then 0 else (sComp s (L a) (L low) x).1) ≤ 0) && decide ((if (L hi).isEmpty then 0 else (sComp s (L a) x (L hi)).1) ≤ 0)))) := fun _ => rfl
 have hlt1 : low.toList.isEmpty = (L low).isEmpty := by rw [toList_L]
 have hlt2 : hi.toList.isEmpty = (L hi).isEmpty := by rw [toList_L]
 generalize (L low).isEmpty = le at *
 generalize (L hi).isEmpty = he at *
 obtain ⟨R, hR⟩ : ∃ R, R = (rGet A (L a)).any (refIn s (L a) (L low) (L hi)) := ⟨_, rfl⟩
 rw [← hR]
 have HR : Hid (R = ((rGet A (L a)).drop 0).any (refIn s (L a) (L low) (L hi))) := hR
 clear hR
 generalize refIn s (L a) (L low) (L hi) = bt at *
 have hvl9 := hvL.out
 generalize rGet A (L a) = vs at *
 have p0 := h.c0
 have p1 := h.c1
 obtain ⟨sa, sb, hsq, hT, hC⟩ := h.sch
 injection hsq with hsq
 simp at hsq
 obtain ⟨rfl, rfl⟩ := hsq
 obtain ⟨A1, c1, rfl, _⟩ := SlV.shape hT
 obtain ⟨A2, c2, rfl, _⟩ := SlV.shape hC
 obtain ⟨A4, c4, rfl, _⟩ := SlV.shape hA
 clear hT hC hA hsc h
 go_enter Tryz.func62, Tryz.ntmps62
 go_upto_region 1 with fail
 with_reducible refine gen1 (R := fun W => Code.wp Tryz.prog _ _ _ W) ?_
 intro W hbW _ hc _
 have e1 : W.cell? ⟨w.heap.size, 1, none⟩ = some (.slice A4 A.length c4) := hc 1 _ rfl
 replace p0 := cell_later hbW p0
 replace p1 := cell_later hbW p1
 clear hc
 go_wp2_with fail
 refine (kG W hbW).mono ?_
 rintro e w1 ⟨A9, k9, c9, rfl, S9, hb1⟩
 have hk9 := SlV.len S9
 subst hk9
 replace p0 := cell_later hb1 p0
 replace p1 := cell_later hb1 p1
 have hbw1 := hbW.trans (hb1.mono hbW.size)
 clear kG hb1 hbW e1
 go_wp2_with fail
 go_loopw [12, 13, 14, 15, 16] (fun i _ _ _ _ wr => ∃ k : Nat, k ≤ vs.length ∧ i = .int .i64 k ∧ Below w1.heap.size w1 wr ∧ Hid (R = (vs.drop k).any bt)) (fun i _ _ _ _ _ => vs.length - (intOf i).toNat)
 case atStart => exact ⟨0, Nat.zero_le _, rfl, Below.refl _ _, HR⟩
 case round =>
  obtain ⟨k, hk, rfl, hb2, hinv⟩ := hrel
  have hbw2 := hbw1.trans (hb2.mono hbw1.size)
  clear HR
  by_cases hlt : k < vs.length
  ·have hltI : (k : Int) < (vs.length : Int) := by omega
   replace p0 := cell_later hb2 p0
   replace p1 := cell_later hb2 p1
   obtain ⟨b, off, hAd, _, d0⟩ := StrsV.cell (SlV.mono (SlV.keep S9 hb2) hb2.size) hlt
   subst hAd
   have hxl := hvE.out _ (List.getElem_mem hlt)
   have hN := kN vs[k] hxl
   have hC1 := kC1 vs[k] hxl
   have hC2 := kC2 vs[k] hxl
   have hbx := hbt vs[k]
   have hst : Hid (R = (bt vs[k] || (vs.drop (k + 1)).any bt)) := by
    show _ = _
    rw [hinv.out, List.drop_eq_getElem_cons hlt, List.any_cons]
   generalize vs[k] = x at *
   generalize sNorm s (L a) x = nr at *
   generalize sComp s (L a) (L low) x = cl at *
   generalize sComp s (L a) x (L hi) = ch at *
   generalize bt x = p at *
   obtain ⟨n1, n2⟩ := nr
   obtain ⟨l1, l2⟩ := cl
   obtain ⟨h1, h2⟩ := ch
   dsimp only at hN hC1 hC2 hbx
   have q1 := cq (W := wr) fun V hV => hN V (hbw2.trans (hV.mono hbw2.size))
   have i0 := cell_regrown p0
   have i1 := cell_regrown p1
   have i2 := cell_regrown d0
   clear hN hinv hvE hvL hbt kN kC1 kC2
   go_wp2_with fail
   refine wp_region_quiet_below (by kernel_rfl) (by kernel_rfl) ?_
   repeat (first | go_big_quiet_step ((go_at_call 61; exact q1 _ _)) | quiet_step ((go_at_call 61; exact q1 _ _)))
   refine wpQuiet_nil ?_
   intro _ hw'
   obtain ⟨⟨dq, osq⟩, hw''⟩ := hw'
   subst hw''
   have hb4 := below_regrown wr dq osq
   generalize grow (redrawn wr dq) osq = W4 at hb4 ⊢
   clear q1 i0 i1 i2
   replace p0 := cell_later hb4 p0
   replace p1 := cell_later hb4 p1
   replace d0 := cell_later hb4 d0
   have hb24 := Below.on hb2 hb4
   have hbw4 := hbw2.trans (hb4.mono hbw2.size)
   clear hb4 hb2 hbw2 S9
   by_cases hn2 : n2 = 0
   case neg =>
    have hn2b : (n2 != 0) = true := by simpa using hn2
    have HP : Hid (p = false) := by show _ = _; rw [hbx.out, decide_eq_false hn2]; rfl
    have HF : Hid (R = (vs.drop (k + 1)).any bt) := by show _ = _; rw [hst.out, HP.out]; rfl
    clear hst HP hbx hC1 hC2
    go_wp2_with fail
    go_roundw
    case rel => exact ⟨k + 1, by omega, by go_num, hb24, HF⟩
    case measure => simp [intOf]; omega
   subst hn2
   cases le with
   | true =>
    have hbx1 : Hid (p = decide ((if he then 0 else h1) ≤ 0)) := by show _ = _; rw [hbx.out]; rfl
    clear hbx hC1
    cases he with
    | true =>
     have HF : Hid (R = true) := by show _ = _; rw [hst.out, hbx1.out]; rfl
     clear hst hbx1 hC2
     go_wp2_with fail
     go_ret
     exact ⟨ret_bool HF.out.symm, hbw1.trans (hb24.mono hbw1.size)⟩
    | false =>
     have q3 := cq (W := W4) fun V hV => hC2 V (hbw4.trans (hV.mono hbw4.size))
     have i0 := cell_regrown p0
     have i1 := cell_regrown p1
     have i2 := cell_regrown d0
     clear hC2 p0 p1 d0
     go_wp2_with fail
     refine wp_region_quiet_below (by kernel_rfl) (by kernel_rfl) ?_
     repeat (first | go_big_quiet_step ((go_at_call 109; exact q3 _ _)) | quiet_step ((go_at_call 109; exact q3 _ _)))
     refine wpQuiet_nil ?_
     intro _ hw'
     obtain ⟨⟨dq, osq⟩, hw''⟩ := hw'
     subst hw''
     have hb6 := below_regrown W4 dq osq
     generalize grow (redrawn W4 dq) osq = W6 at hb6 ⊢
     clear q3 i0 i1 i2
     have hbe := Below.on hb24 hb6
     by_cases hh1 : h1 ≤ 0
     ·have HF : Hid (R = true) := by show _ = _; rw [hst.out, hbx1.out]; simp [hh1]
      clear hst hbx1
      go_wp2_with fail
      go_ret
      exact ⟨ret_bool HF.out.symm, hbw1.trans (hbe.mono hbw1.size)⟩
     ·have HF : Hid (R = (vs.drop (k + 1)).any bt) := by show _ = _; rw [hst.out, hbx1.out]; simp [hh1]
      clear hst hbx1
      go_wp2_with fail
      go_roundw
      case rel => exact ⟨k + 1, by omega, by go_num, hbe, HF⟩
      case measure => simp [intOf]; omega
   | false =>
    have q2 := cq (W := W4) fun V hV => hC1 V (hbw4.trans (hV.mono hbw4.size))
    have i0 := cell_regrown p0
    have i1 := cell_regrown p1
    have i2 := cell_regrown d0
    clear hC1
    go_wp2_with fail
    refine wp_region_quiet_below (by kernel_rfl) (by kernel_rfl) ?_
    repeat (first | go_big_quiet_step ((go_at_call 109; exact q2 _ _)) | quiet_step ((go_at_call 109; exact q2 _ _)))
    refine wpQuiet_nil ?_
    intro _ hw'
    obtain ⟨⟨dq, osq⟩, hw''⟩ := hw'
    subst hw''
    have hb5 := below_regrown W4 dq osq
    generalize grow (redrawn W4 dq) osq = W5 at hb5 ⊢
    clear q2 i0 i1 i2
    have hb25 := Below.on hb24 hb5
    have hbw5 := hbw4.trans (hb5.mono hbw4.size)
    replace p0 := cell_later hb5 p0
    replace p1 := cell_later hb5 p1
    replace d0 := cell_later hb5 d0
    have hbx1 : Hid (p = (decide (l1 ≤ 0) && decide ((if he then 0 else h1) ≤ 0))) := by show _ = _; rw [hbx.out]; rfl
    clear hbx hb5 hbw4 hb24
    cases he with
    | true =>
     clear hC2 p0 p1 d0
     by_cases hl1 : l1 ≤ 0
     ·have HF : Hid (R = true) := by show _ = _; rw [hst.out, hbx1.out]; simp [hl1]
      clear hst hbx1
      go_wp2_with fail
      go_ret
      exact ⟨ret_bool HF.out.symm, hbw1.trans (hb25.mono hbw1.size)⟩
     ·have HF : Hid (R = (vs.drop (k + 1)).any bt) := by show _ = _; rw [hst.out, hbx1.out]; simp [hl1]
      clear hst hbx1
      go_wp2_with fail
      go_roundw
      case rel => exact ⟨k + 1, by omega, by go_num, hb25, HF⟩
      case measure => simp [intOf]; omega
    | false =>
     have q3 := cq (W := W5) fun V hV => hC2 V (hbw5.trans (hV.mono hbw5.size))
     have i0 := cell_regrown p0
     have i1 := cell_regrown p1
     have i2 := cell_regrown d0
     clear hC2 p0 p1 d0
     go_wp2_with fail
     refine wp_region_quiet_below (by kernel_rfl) (by kernel_rfl) ?_
     repeat (first | go_big_quiet_step ((go_at_call 109; exact q3 _ _)) | quiet_step ((go_at_call 109; exact q3 _ _)))
     refine wpQuiet_nil ?_
     intro _ hw'
     obtain ⟨⟨dq, osq⟩, hw''⟩ := hw'
     subst hw''
     have hb6 := below_regrown W5 dq osq
     generalize grow (redrawn W5 dq) osq = W6 at hb6 ⊢
     clear q3 i0 i1 i2
     have hbe := Below.on hb25 hb6
     by_cases hl1 : l1 ≤ 0
     ·by_cases hh1 : h1 ≤ 0
      ·have HF : Hid (R = true) := by show _ = _; rw [hst.out, hbx1.out]; simp [hl1, hh1]
       clear hst hbx1
       go_wp2_with fail
       go_ret
       exact ⟨ret_bool HF.out.symm, hbw1.trans (hbe.mono hbw1.size)⟩
      ·have HF : Hid (R = (vs.drop (k + 1)).any bt) := by show _ = _; rw [hst.out, hbx1.out]; simp [hh1]
       clear hst hbx1
       go_wp2_with fail
       go_roundw
       case rel => exact ⟨k + 1, by omega, by go_num, hbe, HF⟩
       case measure => simp [intOf]; omega
     ·have HF : Hid (R = (vs.drop (k + 1)).any bt) := by show _ = _; rw [hst.out, hbx1.out]; simp [hl1]
      clear hst hbx1
      go_wp2_with fail
      go_roundw
      case rel => exact ⟨k + 1, by omega, by go_num, hbe, HF⟩
      case measure => simp [intOf]; omega
  ·have hltI : ¬ (k : Int) < (vs.length : Int) := by omega
   have HF : Hid (R = false) := by show _ = _; rw [hinv.out, List.drop_eq_nil_of_le (by omega)]; rfl
   clear hinv hvE hvL hbt kN kC1 kC2
   go_wp2_with fail
   go_ret
   exact ⟨ret_bool HF.out.symm, hbw2⟩
end
end Go.Proofs.YtgjllfonmgfhgaaGreatDoor
/- identityref11: Range, Find, present. -/
namespace Go.Proofs.YtgjllfonmgfhgaaGreatDoor
open Go.RowKit Go.Sort
open Idn (L B Bs drop_L take_L size_L)
structure BdR (s : Idn.Sch) (idx : List Bs) (es : List IxE) : Prop where
 len : es.length ≤ 256
 nam : ∀ e ∈ es, e.1.length ≤ 1000000
 get : ∀ e ∈ es, AGet e.2
 ixl : idx.length ≤ 1000000000
 sm : SSm s
section
variable {w w' : World} {hs lo rx : Nat} {s : Idn.Sch} {idx : List Bs} {es : List IxE} {ta cb nv lv : Value} {qs : List (EntP × Value)}
theorem r11_Range_any (h : RefV w hs lo rx s idx es ta cb nv lv qs) (hbd0 : BdR s idx es) (a low hi : ByteArray) (ha : a.size ≤ 1000000000) (hlo : low.size ≤ 100000000) (hhi : hi.size ≤ 100000000) :
    Calls Tryz.prog 23 #[.pointer (some ⟨rx, 0, none⟩), .string a, .string low, .string hi] w (RetC w (refRange s idx es (L a) (L low) (L hi))) := by
 have kI := r11_indexed_any h a ha hbd0.ixl
 have hsc := fun W (hW : Below w.heap.size w W) => SchV.mono (SchV.keep (SchV.mono h.sch h.hsz) hW) hW.size
 have kN1 := fun W (hW : Below w.heap.size w W) => r_Normal_any _ s a low W (hsc W hW) hbd0.sm ha hlo
 have kN2 := fun W (hW : Below w.heap.size w W) => r_Normal_any _ s a hi W (hsc W hW) hbd0.sm ha hhi
 have kF := fun W (hW : Below w.heap.size w W) (nm : Bs) (va : Value) (X : List Idn.Att) (hva : AttsV W W.heap.size va X) (hX : AGet X) => r11_found_any (h.keep hW) hbd0.sm (B nm) va X hva hX a low hi ha hlo hhi
 have hents := h.ents
 have hbd := Lib.hid hbd0
 have hbl := hbd0.len
 have hRR : Hid (refRange s idx es (L a) (L low) (L hi) = if !idx.contains (Idn.lower (L a)) then ([], false) else if (!(L low).isEmpty && (sNorm s (L a) (L low)).2 != 0) || (!(L hi).isEmpty && (sNorm s (L a) (L hi)).2 != 0) then ([], true) else ((es.filter fun e => (rGet e.2 (L a)).any (refIn s (L a) (L low) (L hi))).map (·.1), true)) := rfl
 generalize refRange s idx es (L a) (L low) (L hi) = RR at *
 obtain ⟨pr, hpr0⟩ : ∃ pr : IxE → Bool, pr = fun e => (rGet e.2 (L a)).any (refIn s (L a) (L low) (L hi)) := ⟨_, rfl⟩
 have hpd : ∀ e, (rGet e.2 (L a)).any (refIn s (L a) (L low) (L hi)) = pr e := fun e => by rw [hpr0]
 rw [← hpr0] at hRR
 clear hpr0
 have hlt1 : low.toList.isEmpty = (L low).isEmpty := by rw [toList_L]
 have hlt2 : hi.toList.isEmpty = (L hi).isEmpty := by rw [toList_L]
 generalize (L low).isEmpty = le at *
 generalize (L hi).isEmpty = he at *
 generalize refIn s (L a) (L low) (L hi) = rin at *
 have p0 := h.c0
 have p1 := h.c1
 have p3 := h.c3
 obtain ⟨A5, c5, rfl, _⟩ := SlV.shape hents
 obtain ⟨sa, sb, hsq, hT, hC⟩ := h.sch
 injection hsq with hsq
 simp at hsq
 obtain ⟨rfl, rfl⟩ := hsq
 obtain ⟨A1, c1, rfl, _⟩ := SlV.shape hT
 obtain ⟨A2, c2, rfl, _⟩ := SlV.shape hC
 clear hT hC hsc hbd0
 generalize idx.contains (Idn.lower (L a)) = ic at *
 generalize sNorm s (L a) (L low) = nl at *
 generalize sNorm s (L a) (L hi) = nh at *
 obtain ⟨nl1, nl2⟩ := nl
 obtain ⟨nh1, nh2⟩ := nh
 dsimp only at kN1 kN2 hRR
 go_enter Tryz.func23, Tryz.ntmps23
 go_wp2_with fail
 refine kI.mono ?_
 rintro e w1 ⟨rfl, hb1⟩
 replace p0 := cell_later hb1 p0
 replace p1 := cell_later hb1 p1
 clear kI
 cases ic with
 | false =>
  have HF : Hid (RR = ([], false)) := hRR.out
  clear hRR kF kN1 kN2
  go_wp2_with fail
  go_ret2
  rw [HF.out]
  exact RetC.nil hb1
 | true =>
 have hRR2 : Hid (RR = if (!le && nl2 != 0) || (!he && nh2 != 0) then ([], true) else ((es.filter pr).map (·.1), true)) := hRR.out
 clear hRR
 go_wp2_with fail
 refine (kN1 w1 hb1).mono ?_
 rintro e w2 ⟨rfl, hb2⟩
 replace p0 := cell_later hb2 p0
 replace p1 := cell_later hb2 p1
 have hbw2 := hb1.trans (hb2.mono hb1.size)
 clear kN1 hb2 hb1
 go_wp2_with fail
 refine (kN2 w2 hbw2).mono ?_
 rintro e w3 ⟨rfl, hb3⟩
 have hbw3 := hbw2.trans (hb3.mono hbw2.size)
 clear kN2 hb3 hbw2 p0 p1
 obtain ⟨bad, hbad⟩ : ∃ bad, bad = ((!le && nl2 != 0) || (!he && nh2 != 0)) := ⟨_, rfl⟩
 rw [← hbad] at hRR2
 have hend : ∀ e W, Below w.heap.size w W → bad = true → e = .returned (.tuple #[.slice none 0 0, .bool true]) → RetC w RR e W := fun e W hW hb he => by
  subst he
  have : RR = ([], true) := by rw [hRR2.out, hb]; rfl
  rw [this]
  exact RetC.nil hW
 replace hend := Lib.hid hend
 replace hbad := Lib.hid hbad
 go_upto_region 5 with fail
 go_cut [53] (fun t wx => t = .bool bad ∧ wx = w3)
 case first =>
  clear hend hRR2 kF hents hbd
  by_cases h1 : nl2 = 0
  ·subst h1
   cases le with
   | true =>
    cases he with
    | true =>
     have HB : bad = false := by rw [hbad.out]; simp
     go_wp2_with fail
     go_meet
     exact ⟨by rw [HB], rfl⟩
    | false =>
     by_cases h2 : nh2 = 0
     ·subst h2
      have HB : bad = false := by rw [hbad.out]; simp
      go_wp2_with fail
      go_meet
      exact ⟨by rw [HB], rfl⟩
     ·have h2b : (nh2 != 0) = true := by simpa using h2
      have HB : bad = true := by rw [hbad.out]; simp [h2]
      go_wp2_with fail
      go_meet
      exact ⟨by rw [HB], rfl⟩
   | false =>
    cases he with
    | true =>
     have HB : bad = false := by rw [hbad.out]; simp
     go_wp2_with fail
     go_meet
     exact ⟨by rw [HB], rfl⟩
    | false =>
     by_cases h2 : nh2 = 0
     ·subst h2
      have HB : bad = false := by rw [hbad.out]; simp
      go_wp2_with fail
      go_meet
      exact ⟨by rw [HB], rfl⟩
     ·have h2b : (nh2 != 0) = true := by simpa using h2
      have HB : bad = true := by rw [hbad.out]; simp [h2]
      go_wp2_with fail
      go_meet
      exact ⟨by rw [HB], rfl⟩
  ·have h1b : (nl2 != 0) = true := by simpa using h1
   cases le with
   | true =>
    cases he with
    | true =>
     have HB : bad = false := by rw [hbad.out]; simp
     go_wp2_with fail
     go_meet
     exact ⟨by rw [HB], rfl⟩
    | false =>
     by_cases h2 : nh2 = 0
     ·subst h2
      have HB : bad = false := by rw [hbad.out]; simp
      go_wp2_with fail
      go_meet
      exact ⟨by rw [HB], rfl⟩
     ·have h2b : (nh2 != 0) = true := by simpa using h2
      have HB : bad = true := by rw [hbad.out]; simp [h2]
      go_wp2_with fail
      go_meet
      exact ⟨by rw [HB], rfl⟩
   | false =>
    have HB : bad = true := by rw [hbad.out]; simp [h1]
    go_wp2_with fail
    go_meet
    exact ⟨by rw [HB], rfl⟩
 case rest =>
 obtain ⟨rfl, rfl⟩ := hcut
 cases bad with
 | true =>
  clear hbad hRR2 kF
  go_wp2_with fail
  go_ret2
  exact hend.out _ _ hbw3 (by trivial) rfl
 | false =>
  have HB : false = false := rfl
  have hRR3 : RR = ((es.filter pr).map (·.1), true) := by rw [hRR2.out]; rfl
  subst hRR3
  obtain ⟨R, hR⟩ : ∃ R, R = (es.filter pr).map (·.1) := ⟨_, rfl⟩
  have hRe : Hid (R = (es.filter pr).map (·.1)) := hR
  have HR : Hid (R = [] ++ ((es.drop 0).filter pr).map (·.1)) := hR
  clear hR hbad hRR2 hend HB
  go_wp2_with fail
  go_loopw [14, 15] (fun ov i wr => ∃ (k : Nat) (out : List Bs), k ≤ es.length ∧ i = .int .i64 k ∧ wr.ownsRow w.heap.size 9 1 ov out.length (out.map sv) ∧ out.length ≤ k ∧ Below w.heap.size w wr ∧ Hid (R = out ++ ((es.drop k).filter pr).map (·.1))) (fun _ i _ => es.length - (intOf i).toNat)
  case atStart => exact ⟨0, [], Nat.zero_le _, rfl, World.ownsRow_nil _ _ _ _, Nat.le_refl _, hbw3, HR⟩
  case round =>
   obtain ⟨k, out, hk, rfl, hown, hol, hb, hinv⟩ := hrel
   clear HR
   obtain ⟨A5, c5, hsh⟩ := own_shape hown
   subst hsh
   have q3 := cell_later hb p3
   by_cases hlt : k < es.length
   ·have hltI : (k : Int) < (es.length : Int) := by omega
    obtain ⟨b, off, va, hAd, _, d0, d1, hva⟩ := EntsV.cell (EntsV.mono (EntsV.keep hents hb) hb.size) hlt
    subst hAd
    obtain ⟨Av, cv, rfl, _⟩ := SlV.shape hva
    have hnl := hbd.out.nam _ (List.getElem_mem hlt)
    have hag := hbd.out.get _ (List.getElem_mem hlt)
    have hst : Hid (R = out ++ (if pr es[k] then es[k].1 :: ((es.drop (k + 1)).filter pr).map (·.1) else ((es.drop (k + 1)).filter pr).map (·.1))) := by
     show _ = _
     rw [hinv.out, List.drop_eq_getElem_cons hlt, List.filter_cons]
     cases pr es[k] <;> rfl
    have hpr := hpd es[k]
    have hc := kF wr hb es[k].1 _ es[k].2 hva hag
    generalize pr es[k] = p at *
    generalize es[k] = x at *
    obtain ⟨xn, xa⟩ := x
    dsimp only at d0 d1 hva hnl hag hst hpr hc
    clear hinv hva hag
    go_wp2_with fail
    rw [hpr] at hc
    refine hc.mono ?_
    rintro e w4 ⟨rfl, hb4⟩
    replace q3 := cell_later hb4 q3
    replace d0 := cell_later hb4 d0
    have hb1 := hb.trans (hb4.mono hb.size)
    have hown1 := own_below hown hb4
    clear hc hown hb4 hb
    cases p with
    | false =>
     have HF : Hid (R = out ++ ((es.drop (k + 1)).filter pr).map (·.1)) := by show _ = _; rw [hst.out]; rfl
     clear hst
     go_wp2_with fail
     go_roundw
     case rel => exact ⟨k + 1, out, by omega, by go_num, hown1, by omega, hb1, HF⟩
     case measure => simp [intOf]; omega
    | true =>
     have HF : Hid (R = (out ++ [xn]) ++ ((es.drop (k + 1)).filter pr).map (·.1)) := by show _ = _; rw [hst.out, List.append_assoc]; rfl
     clear hst
     go_wp2_with (at_builtin; refine wpList_push w4 rfl _ _ 26 rfl w.heap.size 9 (.string ⟨#[]⟩) 1 16 Tryz.underlying26 info_str rfl (by decide) _ _ _ hown1 rfl [.string (B xn)] rfl rfl (by intro u hu; simp at hu; subst hu; rfl) (by omega) hb1.size ?_ rfl)
     intro v' w5 hown5 hg5 hat5 hb5 _
     go_wp2_with fail
     go_roundw
     case rel => exact ⟨k + 1, out ++ [xn], by omega, by go_num, by rw [List.length_append, List.map_append]; exact hown5, by rw [List.length_append]; simp; omega, hb1.trans hb5, HF⟩
     case measure => simp [intOf]; omega
   ·have hltI : ¬ (k : Int) < (es.length : Int) := by omega
    have HF : Hid (R = out) := by show _ = _; rw [hinv.out, List.drop_eq_nil_of_le (by omega)]; simp
    clear hinv
    go_wp2_with fail
    go_ret2
    rw [show (es.filter pr).map (·.1) = out from hRe.out.symm.trans HF.out]
    exact ⟨_, rfl, hown, hb⟩
theorem r11_Find_any (h : RefV w hs lo rx s idx es ta cb nv lv qs) (hbd0 : BdR s idx es) (a x : ByteArray) (ha : a.size ≤ 1000000000) (hx : x.size ≤ 100000000) :
    Calls Tryz.prog 20 #[.pointer (some ⟨rx, 0, none⟩), .string a, .string x] w (RetC w (refFind s idx es (L a) (L x))) := by
 have kI := r11_indexed_any h a ha hbd0.ixl
 have kR := r11_Range_any h hbd0 a x x ha hx hx
 have hr : refFind s idx es (L a) (L x) = if (L x).isEmpty then ([], idx.contains (Idn.lower (L a))) else refRange s idx es (L a) (L x) (L x) := rfl
 have hlt : x.toList.isEmpty = (L x).isEmpty := by rw [toList_L]
 rw [hr]
 clear h hbd0 hr
 generalize idx.contains (Idn.lower (L a)) = ic at *
 generalize refRange s idx es (L a) (L x) (L x) = RR at *
 generalize (L x).isEmpty = xe at *
 go_enter Tryz.func20, Tryz.ntmps20
 cases xe with
 | true =>
  clear kR
  go_wp2_with fail
  refine kI.mono ?_
  rintro e w1 ⟨rfl, hb1⟩
  go_wp2_with fail
  go_ret2
  exact RetC.nil hb1
 | false =>
  clear kI
  go_wp2_with fail
  refine kR.mono ?_
  rintro e w1 ⟨v, rfl, ho, hb1⟩
  go_wp2_with fail
  go_ret2
  exact ⟨v, rfl, ho, hb1⟩
theorem r11_present_any (h : RefV w hs lo rx s idx es ta cb nv lv qs) (hbd0 : BdR s idx es) (a : ByteArray) (ha : a.size ≤ 1000000000) :
    Calls Tryz.prog 69 #[.pointer (some ⟨rx, 0, none⟩), .string a] w (RetC w (ixPres idx es (L a))) := by
 have kI := r11_indexed_any h a ha hbd0.ixl
 have kF := fun W (hW : Below w.heap.size w W) (va : Value) (X : List Idn.Att) (hva : AttsV W W.heap.size va X) (hX : AGet X) => r6_Get_any va X a W hva hX.1 ha
 have hents := h.ents
 have hbd := Lib.hid hbd0
 have hbl := hbd0.len
 have hRR : Hid (ixPres idx es (L a) = if !idx.contains (Idn.lower (L a)) then ([], false) else ((es.filter fun e => decide (0 < (rGet e.2 (L a)).length)).map (·.1), true)) := rfl
 generalize ixPres idx es (L a) = RR at *
 obtain ⟨pr, hpr0⟩ : ∃ pr : IxE → Bool, pr = fun e => decide (0 < (rGet e.2 (L a)).length) := ⟨_, rfl⟩
 have hpd : ∀ e, decide (0 < (rGet e.2 (L a)).length) = pr e := fun e => by rw [hpr0]
 rw [← hpr0] at hRR
 clear hpr0
 have p3 := h.c3
 obtain ⟨A5, c5, rfl, _⟩ := SlV.shape hents
 clear hbd0 h
 generalize idx.contains (Idn.lower (L a)) = ic at *
 go_enter Tryz.func69, Tryz.ntmps69
 go_wp2_with fail
 refine kI.mono ?_
 rintro e w1 ⟨rfl, hb1⟩
 clear kI
 cases ic with
 | false =>
  have HF : Hid (RR = ([], false)) := hRR.out
  clear hRR kF
  go_wp2_with fail
  go_ret2
  rw [HF.out]
  exact RetC.nil hb1
 | true =>
 have hRR3 : RR = ((es.filter pr).map (·.1), true) := hRR.out
 clear hRR
 subst hRR3
 obtain ⟨R, hR⟩ : ∃ R, R = (es.filter pr).map (·.1) := ⟨_, rfl⟩
 have hRe : Hid (R = (es.filter pr).map (·.1)) := hR
 have HR : Hid (R = [] ++ ((es.drop 0).filter pr).map (·.1)) := hR
 clear hR
 go_wp2_with fail
 go_loopw [6, 7] (fun ov i wr => ∃ (k : Nat) (out : List Bs), k ≤ es.length ∧ i = .int .i64 k ∧ wr.ownsRow w.heap.size 9 1 ov out.length (out.map sv) ∧ out.length ≤ k ∧ Below w.heap.size w wr ∧ Hid (R = out ++ ((es.drop k).filter pr).map (·.1))) (fun _ i _ => es.length - (intOf i).toNat)
 case atStart => exact ⟨0, [], Nat.zero_le _, rfl, World.ownsRow_nil _ _ _ _, Nat.le_refl _, hb1, HR⟩
 case round =>
  obtain ⟨k, out, hk, rfl, hown, hol, hb, hinv⟩ := hrel
  clear HR
  obtain ⟨A5, c5, hsh⟩ := own_shape hown
  subst hsh
  have q3 := cell_later hb p3
  by_cases hlt : k < es.length
  ·have hltI : (k : Int) < (es.length : Int) := by omega
   obtain ⟨b, off, va, hAd, _, d0, d1, hva⟩ := EntsV.cell (EntsV.mono (EntsV.keep hents hb) hb.size) hlt
   subst hAd
   obtain ⟨Av, cv, rfl, _⟩ := SlV.shape hva
   have hnl := hbd.out.nam _ (List.getElem_mem hlt)
   have hag := hbd.out.get _ (List.getElem_mem hlt)
   have hst : Hid (R = out ++ (if pr es[k] then es[k].1 :: ((es.drop (k + 1)).filter pr).map (·.1) else ((es.drop (k + 1)).filter pr).map (·.1))) := by
    show _ = _
    rw [hinv.out, List.drop_eq_getElem_cons hlt, List.filter_cons]
    cases pr es[k] <;> rfl
   have hpr := hpd es[k]
   have hc := kF wr hb _ es[k].2 hva hag
   generalize pr es[k] = p at *
   generalize es[k] = x at *
   obtain ⟨xn, xa⟩ := x
   dsimp only at d0 d1 hva hnl hag hst hpr hc
   have hag2 := hag
   clear hinv hva hag
   go_wp2_with fail
   refine hc.mono ?_
   rintro e w4 ⟨A9, k9, c9, rfl, S9, hb4⟩
   have hk9 := SlV.len S9
   subst hk9
   have hgl := (hag2.2 (L a)).1
   clear S9
   replace q3 := cell_later hb4 q3
   replace d0 := cell_later hb4 d0
   have hb1 := hb.trans (hb4.mono hb.size)
   have hown1 := own_below hown hb4
   clear hc hown hb4 hb
   generalize (rGet xa (L a)).length = gl at *
   cases p with
   | false =>
    have HF : Hid (R = out ++ ((es.drop (k + 1)).filter pr).map (·.1)) := by show _ = _; rw [hst.out]; rfl
    clear hst
    have hgl0 : ¬ (0 : Int) < (gl : Int) := by have := of_decide_eq_false hpr; omega
    go_wp2_with fail
    go_roundw
    case rel => exact ⟨k + 1, out, by omega, by go_num, hown1, by omega, hb1, HF⟩
    case measure => simp [intOf]; omega
   | true =>
    have HF : Hid (R = (out ++ [xn]) ++ ((es.drop (k + 1)).filter pr).map (·.1)) := by show _ = _; rw [hst.out, List.append_assoc]; rfl
    clear hst
    have hgl0 : (0 : Int) < (gl : Int) := by have := of_decide_eq_true hpr; omega
    go_wp2_with (at_builtin; refine wpList_push w4 rfl _ _ 26 rfl w.heap.size 9 (.string ⟨#[]⟩) 1 16 Tryz.underlying26 info_str rfl (by decide) _ _ _ hown1 rfl [.string (B xn)] rfl rfl (by intro u hu; simp at hu; subst hu; rfl) (by omega) hb1.size ?_ rfl)
    intro v' w5 hown5 hg5 hat5 hb5 _
    go_wp2_with fail
    go_roundw
    case rel => exact ⟨k + 1, out ++ [xn], by omega, by go_num, by rw [List.length_append, List.map_append]; exact hown5, by rw [List.length_append]; simp; omega, hb1.trans hb5, HF⟩
    case measure => simp [intOf]; omega
  ·have hltI : ¬ (k : Int) < (es.length : Int) := by omega
   have HF : Hid (R = out) := by show _ = _; rw [hinv.out, List.drop_eq_nil_of_le (by omega)]; simp
   clear hinv
   go_wp2_with fail
   go_ret2
   rw [show (es.filter pr).map (·.1) = out from hRe.out.symm.trans HF.out]
   exact ⟨_, rfl, hown, hb⟩
end
end Go.Proofs.YtgjllfonmgfhgaaGreatDoor
/- identityref11: Drop; what a store of entries turns. -/
namespace Go.Proofs.YtgjllfonmgfhgaaGreatDoor
open Go.RowKit Go.Sort
open Idn (L B Bs drop_L take_L size_L)
theorem Mv.set (w : World) (b i : Nat) (u : Value) : Mv (· = b) w (w.setCell ⟨b, i, none⟩ u) :=
 ⟨rfl, rfl, rfl, by simp [World.setCell], fun k _ hk => by
  simp only [World.setCell, Array.getElem?_modify]
  rw [if_neg fun e => hk e.symm]⟩
section
variable {w w' : World} {hs lo rx : Nat} {s : Idn.Sch} {idx : List Bs} {es : List IxE} {ta cb nv lv : Value} {qs : List (EntP × Value)}
theorem RefV.store (h : RefV w hs lo rx s idx es ta cb nv lv qs) {lv' : Value} {qs' : List (EntP × Value)} (hE : EntRow w lo lv' qs') : RefV (w.setCell ⟨rx, 3, none⟩ lv') hs lo rx s idx (qs'.map (·.1)) ta cb nv lv' qs' := by
 have hm := Mv.set w rx 3 lv'
 have hS : ∀ k, k = rx → k < lo ∨ ∃ es c, w.heap[k]? = some (.map es c) := fun k hk => .inl (hk ▸ h.rlo)
 exact {
  c0 := by rw [World.cell?_setCell_other _ _ _ _ (by intro e; injection e with e1 e2; omega)]; exact h.c0
  c1 := by rw [World.cell?_setCell_other _ _ _ _ (by intro e; injection e with e1 e2; omega)]; exact h.c1
  c2 := by rw [World.cell?_setCell_other _ _ _ _ (by intro e; injection e with e1 e2; omega)]; exact h.c2
  c3 := World.cell?_setCell_same _ _ _ h.c3
  c4 := by rw [World.cell?_setCell_other _ _ _ _ (by intro e; injection e with e1 e2; omega)]; exact h.c4
  frz := fun i => by simpa using h.frz i
  sch := h.sch.keepC fun b off u hb hc => by
   have := h.hsr
   rw [World.cell?_setCell_other _ _ _ _ (by intro e; injection e with e1 e2; omega)]; exact hc
  nam := own_mv h.nam hm hS
  ent := hE.mv hm hS
  map := rfl
  hsz := by simpa [World.setCell] using h.hsz
  hsr := h.hsr
  rlo := h.rlo
  loz := by simpa [World.setCell] using h.loz }
theorem r11_Drop_any (h : RefV w hs lo rx s idx es ta cb nv lv qs) (hel : es.length ≤ 1000) (n : Bs) (hn : n.length ≤ 1000000) :
    Calls Tryz.prog 18 #[.pointer (some ⟨rx, 0, none⟩), .string (B n)] w fun e w' => e = .returned (.tuple #[]) ∧ ∃ lv' qs', RefV w' hs lo rx s idx (ixDrop es n) ta cb nv lv' qs' ∧ Mv (· = rx) w w' := by
 obtain ⟨Ae, ce, rfl⟩ := own_shape h.ent.1
 have hql := h.len
 have hres : Hid (((qs.filter fun q => q.1.1 != n).map (·.1)) = ixDrop es n) := by
  show _ = _
  unfold ixDrop
  rw [← h.map, List.filter_map]
  rfl
 go_enter Tryz.func18, Tryz.ntmps18
 go_wp2_with fail
 go_loopw [4, 5] (fun ov i wr => ∃ (k : Nat) (rs : List (EntP × Value)), k ≤ qs.length ∧ i = .int .i64 k ∧ wr.ownsRow w.heap.size 41 2 ov rs.length (rowEn rs) ∧ rs.length ≤ k ∧ Hid (rs = (qs.take k).filter fun q => q.1.1 != n) ∧ Below w.heap.size w wr) (fun _ i _ => qs.length - (intOf i).toNat)
 case atStart => exact ⟨0, [], Nat.zero_le _, rfl, World.ownsRow_nil _ _ _ _, Nat.le_refl _, rfl, Below.refl _ _⟩
 case round =>
  obtain ⟨k, rs, hk, rfl, hown, hrl, hinv, hb⟩ := hrel
  have hK := h.keep hb
  have p3 := hK.c3
  obtain ⟨Am, cm, hsh⟩ := own_shape hown
  subst hsh
  by_cases hlt : k < qs.length
  ·have hltI : (k : Int) < (qs.length : Int) := by omega
   obtain ⟨g, hA, hcells⟩ := own_open hK.ent.1 (by omega)
   subst hA
   obtain ⟨⟨⟨qn, qa⟩, qv⟩, hq⟩ : ∃ q, qs[k]? = some q := ⟨_, List.getElem?_eq_getElem hlt⟩
   obtain ⟨e1, e2⟩ := rowEn_at qs k _ hq
   have x0 : wr.cell? ⟨g, k * 2, none⟩ = some (.string (B qn)) := hcells _ _ e1
   have x1 : wr.cell? ⟨g, k * 2 + 1, none⟩ = some qv := hcells _ _ e2
   obtain ⟨ps, hps, _⟩ := hK.ent.2 _ (List.mem_of_getElem? hq)
   dsimp only at hps
   obtain ⟨Aq, cq, hsq⟩ := own_shape hps.1
   subst hsq
   have hstep : ∀ dq, decide (qn = n) = dq → Hid ((qs.take (k + 1)).filter (fun q => q.1.1 != n) = rs ++ (if dq then [] else [((qn, qa), .slice Aq ps.length cq)])) := fun dq hdq => by
    show _ = _
    rw [hinv.out, List.take_succ_eq_append_getElem hlt, List.filter_append]
    congr 1
    have : qs[k] = ((qn, qa), .slice Aq ps.length cq) := by
     have := List.getElem?_eq_getElem hlt
     rw [hq] at this
     exact (Option.some.inj this).symm
    rw [this, ← hdq]
    by_cases h : qn = n
    ·simp [h]
    ·simp [h]
   have hst := hstep _ rfl
   have ht : ((B qn).toList == (B n).toList) = decide (qn = n) := by rw [str_beq, Idn.L_B, Idn.L_B]
   have ht2 : ((B qn).toList != (B n).toList) = !decide (qn = n) := by rw [bne, str_beq, Idn.L_B, Idn.L_B]
   generalize decide (qn = n) = dq at *
   clear hcells hinv hstep hps hK
   cases dq with
   | true =>
    have HX : Hid (rs = (qs.take (k + 1)).filter fun q => q.1.1 != n) := by show _ = _; rw [hst.out]; simp
    clear hst
    go_wp2_with fail
    go_roundw
    case rel => exact ⟨k + 1, rs, by omega, by go_num, hown, by omega, HX, hb⟩
    case measure => simp [intOf]; omega
   | false =>
    have HX : Hid (rs ++ [((qn, qa), .slice Aq ps.length cq)] = (qs.take (k + 1)).filter fun q => q.1.1 != n) := by show _ = _; rw [hst.out]; rfl
    clear hst
    go_wp2_with (at_builtin; refine wpList_push wr rfl _ _ 52 rfl w.heap.size 41 (.agg #[.string ⟨#[]⟩, .slice none 0 0]) 2 40 Tryz.underlying52 info_ent rfl (by decide) _ rs.length _ hown rfl [.string (B qn), .slice Aq ps.length cq] rfl rfl (by intro u hu; simp at hu; rcases hu with rfl | rfl <;> rfl) (by omega) hb.size ?_ rfl)
    intro v' w4 hown4 hg4 hat4 hb4 _
    go_wp2_with fail
    go_roundw
    case rel => exact ⟨k + 1, rs ++ [((qn, qa), .slice Aq ps.length cq)], by omega, by go_num, by rw [List.length_append, rowEn_app]; exact hown4, by rw [List.length_append]; simp; omega, HX, hb.trans hb4⟩
    case measure => simp [intOf]; omega
  ·have hltI : ¬ (k : Int) < (qs.length : Int) := by omega
   have hre : rs = qs.filter fun q => q.1.1 != n := by rw [hinv.out, List.take_of_length_le (by omega)]
   have hER : EntRow wr lo (.slice Am rs.length cm) rs := ⟨own_lower hown h.loz, fun q hq => by
    rw [hre] at hq
    exact hK.ent.2 q (List.mem_filter.1 hq).1⟩
   have hfin := hK.store hER
   rw [hre, hres.out, ← hre] at hfin
   have hmv := (Mv.of_below (S := (· = rx)) hb).trans (Mv.set wr rx 3 (.slice Am rs.length cm)) fun j hj => .inl hj
   have f3 := hK.frz 3
   replace hfin := Lib.hid hfin
   replace hmv := Lib.hid hmv
   clear hinv hre hER hown hK hres
   go_wp2_with fail
   refine bodyPost_end (results_none rfl _ _ _) rfl ?_
   exact ⟨rfl, ⟨_, rs, hfin.out⟩, hmv.out⟩
end
end Go.Proofs.YtgjllfonmgfhgaaGreatDoor
/- identityref11: New. -/
namespace Go.Proofs.YtgjllfonmgfhgaaGreatDoor
open Go.RowKit Go.Sort
open Idn (L B Bs drop_L take_L size_L)
section
variable {w w' : World} {hs lo rx : Nat} {s : Idn.Sch} {idx : List Bs} {es : List IxE} {ta cb nv lv : Value} {qs : List (EntP × Value)}
theorem RefV.names (h : RefV w hs lo rx s idx [] ta cb nv (.slice none 0 0) []) (hb : Below lo w w') {nv' : Value} {idx' : List Bs} (hn : w'.ownsRow lo 9 1 nv' idx'.length (idx'.map sv)) : RefV (w'.setCell ⟨rx, 2, none⟩ nv') hs lo rx s idx' [] ta cb nv' (.slice none 0 0) [] := by
 have hm := Mv.set w' rx 2 nv'
 have hc : ∀ i u, w.cell? ⟨rx, i, none⟩ = some u → w'.cell? ⟨rx, i, none⟩ = some u := fun i u e => (hb.cell (p := ⟨rx, i, none⟩) h.rlo).trans e
 exact {
  c0 := by rw [World.cell?_setCell_other _ _ _ _ (by intro e; injection e with e1 e2; omega)]; exact hc _ _ h.c0
  c1 := by rw [World.cell?_setCell_other _ _ _ _ (by intro e; injection e with e1 e2; omega)]; exact hc _ _ h.c1
  c2 := World.cell?_setCell_same _ _ _ (hc _ _ h.c2)
  c3 := by rw [World.cell?_setCell_other _ _ _ _ (by intro e; injection e with e1 e2; omega)]; exact hc _ _ h.c3
  c4 := by rw [World.cell?_setCell_other _ _ _ _ (by intro e; injection e with e1 e2; omega)]; exact hc _ _ h.c4
  frz := fun i => by simpa using (hb.frozen (p := ⟨rx, i, none⟩) h.rlo).trans (h.frz i)
  sch := h.sch.keepC fun b off u hbb hcc => by
   have h1 := h.hsr
   have h2 := h.rlo
   rw [World.cell?_setCell_other _ _ _ _ (by intro e; injection e with e1 e2; omega)]
   exact (hb.cell (p := ⟨b, off, none⟩) (by show b < lo; omega)).trans hcc
  nam := own_mv hn hm fun k hk => .inl (by have : k = rx := hk; rw [this]; exact h.rlo)
  ent := EntRow.nil _ _
  map := rfl
  hsz := by have h1 := hb.size; have h2 := h.hsz; simp [World.setCell]; omega
  hsr := h.hsr
  rlo := h.rlo
  loz := by have h1 := hb.size; have h2 := h.loz; simp [World.setCell]; omega }
def RetRN (w : World) (s : Idn.Sch) (ns : List Bs) (r : Int) (e : Ending) (w' : World) : Prop :=
 Below w.heap.size w w' ∧ ((r = 0 ∧ ∃ (rx lo : Nat) (ta cb nv : Value), e = .returned (.tuple #[.pointer (some ⟨rx, 0, none⟩), .int .i64 0]) ∧ w.heap.size ≤ rx ∧ RefV w' w.heap.size lo rx s (ns.map Idn.lower) [] ta cb nv (.slice none 0 0) []) ∨ (r ≠ 0 ∧ e = .returned (.tuple #[.pointer none, .int .i64 r])))
theorem r11_New_any (v nv : Value) (s : Idn.Sch) (ns : List Bs) (w : World) (hv : SchV w w.heap.size v s) (hsm : SSm s) (hn : StrsV w w.heap.size nv ns) (hnl : ns.length ≤ 1000000) (hnb : ∀ n ∈ ns, n.length ≤ 1000000) :
    Calls Tryz.prog 14 #[v, nv] w (RetRN w s ns (nwE s ns)) := by
 have kCk := fun W (hW : Below w.heap.size w W) => r_check_any v s W (SchV.mono (SchV.keep hv hW) hW.size) hsm
 have kTy := fun (n : Bs) (hn : n.length ≤ 1000000) W (hW : Below w.heap.size w W) => r_type_any v s (B n) W (SchV.mono (SchV.keep hv hW) hW.size) hsm (by rw [Idn.size_B]; omega)
 simp only [Idn.L_B] at kTy
 have hv0 := hv
 obtain ⟨A0, cn, rfl, _⟩ := SlV.shape hn
 obtain ⟨sa, sb, rfl, hT, hC⟩ := hv
 obtain ⟨A1, c1, rfl, _⟩ := SlV.shape hT
 obtain ⟨A2, c2, rfl, _⟩ := SlV.shape hC
 have HR : Hid (nwE s ns = if Idn.sCheck s = 0 then (ixNew s ns []).1 else Idn.sCheck s) := rfl
 generalize nwE s ns = r at *
 go_enter Tryz.func14, Tryz.ntmps14
 go_upto_region 1 with fail
 with_reducible refine gen1 (R := fun W => Code.wp Tryz.prog _ _ _ W) ?_
 intro W hbW hszW hc _
 have b0 : W.cell? ⟨w.heap.size, 0, none⟩ = some (.slice A1 s.types.length c1) := hc 0 _ rfl
 have b1 : W.cell? ⟨w.heap.size, 1, none⟩ = some (.slice A2 s.classes.length c2) := hc 1 _ rfl
 clear hc
 go_wp2_with fail
 refine (kCk W hbW).mono ?_
 rintro e w1 ⟨rfl, hb1⟩
 replace b0 := cell_later hb1 b0
 replace b1 := cell_later hb1 b1
 have hbw1 := hbW.trans (hb1.mono hbW.size)
 have hwx : w.heap.size < w1.heap.size := by have := hb1.size; omega
 clear kCk hb1 hbW hszW
 by_cases hck : Idn.sCheck s = 0
 case neg =>
  have HF : Hid (r = Idn.sCheck s) := by show _ = _; rw [HR.out, if_neg hck]
  generalize Idn.sCheck s = ec at *
  clear kTy HR
  go_wp2_with fail
  go_ret2
  exact ⟨hbw1, .inr ⟨by rw [HF.out]; exact hck, by rw [HF.out]; rfl⟩⟩
 rw [hck]
 have HR2 : Hid (r = (ixNew s ns []).1) := by show _ = _; rw [HR.out, if_pos hck]
 clear HR hck
 go_upto_region 5 with fail
 with_reducible refine gen1 (R := fun W => Code.wp Tryz.prog _ _ _ W) ?_
 intro W2 hb2 hsz2 hc hfz
 have hbw2 := hbw1.trans (hb2.mono hbw1.size)
 have hR0 : RefV W2 w.heap.size (w1.heap.size + 1) w1.heap.size s [] [] (.slice A1 s.types.length c1) (.slice A2 s.classes.length c2) (.slice none 0 0) (.slice none 0 0) [] :=
  { c0 := hc 0 _ rfl
    c1 := hc 1 _ rfl
    c2 := hc 2 _ rfl
    c3 := hc 3 _ rfl
    c4 := hc 4 _ rfl
    frz := fun i => hfz i
    sch := SchV.keep hv0 hbw2
    nam := World.ownsRow_nil _ _ _ _
    ent := EntRow.nil _ _
    map := rfl
    hsz := hbw2.size
    hsr := hbw1.size
    rlo := Nat.lt_succ_self _
    loz := by omega }
 replace b0 := cell_later hb2 b0
 replace b1 := cell_later hb2 b1
 generalize w1.heap.size = rx at *
 clear hc hfz hsz2 hb2 hbw1 hT hC hv0
 go_wp2_with fail
 go_loopw [8, 9, 10] (fun i _ _ wr => ∃ (k : Nat) (nv : Value), k ≤ ns.length ∧ i = .int .i64 k ∧ RefV wr w.heap.size (rx + 1) rx s ((ns.take k).map Idn.lower) [] (.slice A1 s.types.length c1) (.slice A2 s.classes.length c2) nv (.slice none 0 0) [] ∧ Below w.heap.size w wr ∧ Below rx W2 wr ∧ Hid (r = (ixNew s (ns.drop k) ((ns.take k).map Idn.lower)).1)) (fun i _ _ _ => ns.length - (intOf i).toNat)
 case atStart => exact ⟨0, _, Nat.zero_le _, rfl, hR0, hbw2, Below.refl _ _, HR2⟩
 case round =>
  obtain ⟨k, nv, hk, rfl, hRk, hbk, hbx, hinv⟩ := hrel
  clear HR2 hR0
  by_cases hlt : k < ns.length
  ·obtain ⟨b, off, rfl, hbl, d0⟩ := StrsV.cell (SlV.keep hn hbk) hlt
   have hltI : (k : Int) < (ns.length : Int) := by omega
   have p0 : wr.cell? ⟨w.heap.size, 0, none⟩ = some (.slice A1 s.types.length c1) := (hbx.cell (p := ⟨w.heap.size, 0, none⟩) hwx).trans b0
   have p1 : wr.cell? ⟨w.heap.size, 1, none⟩ = some (.slice A2 s.classes.length c2) := (hbx.cell (p := ⟨w.heap.size, 1, none⟩) hwx).trans b1
   have hxl := hnb _ (List.getElem_mem hlt)
   have hT := fun W (hW : Below wr.heap.size wr W) => kTy ns[k] hxl W (hbk.trans (hW.mono hbk.size))
   have hstep : Hid (r = (if !(tyLook (sound s) ns[k]).2 then (6, []) else if ((ns.take k).map Idn.lower).contains (Idn.lower ns[k]) then (7, []) else ixNew s (ns.drop (k + 1)) ((ns.take k).map Idn.lower ++ [Idn.lower ns[k]])).1) := by
    show _ = _
    rw [hinv.out, List.drop_eq_getElem_cons hlt, ixNew]
   have hlw : Hid ((ns.take (k + 1)).map Idn.lower = (ns.take k).map Idn.lower ++ [Idn.lower ns[k]]) := by
    show _ = _
    rw [List.take_succ_eq_append_getElem hlt, List.map_append]; rfl
   have hil : ((ns.take k).map Idn.lower).length ≤ 1000000 := by rw [List.length_map, List.length_take]; omega
   have kI := fun W (hW : Below wr.heap.size wr W) => r11_indexed_any (hRk.keep hW) (B ns[k]) (by rw [Idn.size_B]; omega) (Nat.le_trans hil (by decide))
   simp only [Idn.L_B] at kI
   have hLo := fun W => r_lower_any (B ns[k]) W (by rw [Idn.size_B]; omega)
   simp only [Idn.L_B] at hLo
   generalize tyLook (sound s) ns[k] = tl at *
   obtain ⟨⟨tn, ty, tg⟩, tk⟩ := tl
   unfold tyV at hT
   simp only [sv] at hT
   generalize Idn.lower ns[k] = lx at *
   generalize ns[k] = x at *
   generalize (ns.take k).map Idn.lower = ac at *
   obtain ⟨R9, hR9⟩ : ∃ R9 : Bool, R9 = ac.contains lx := ⟨_, rfl⟩
   rw [← hR9] at kI
   have hR9' := Lib.hid hR9
   clear hinv hR9 kTy
   have hSt : ∀ W', Below wr.heap.size wr W' → W'.cell? ⟨w.heap.size, 0, none⟩ = some (.slice A1 s.types.length c1) ∧ W'.cell? ⟨w.heap.size, 1, none⟩ = some (.slice A2 s.classes.length c2) ∧ W'.cell? ⟨b, off + k, none⟩ = some (.string (B x)) ∧ Below wr.heap.size wr W' := fun W' hW => ⟨cell_later hW p0, cell_later hW p1, cell_later hW d0, hW⟩
   go_upto_region 8 with fail
   go_cut [9, 10] (fun _ ok wx => ok = .bool tk ∧ Below wr.heap.size wr wx)
   case first =>
    clear kI hLo hstep hlw hRk hbk hbx
    go_region_held3 (fun W' => W'.cell? ⟨w.heap.size, 0, none⟩ = some (.slice A1 s.types.length c1) ∧ W'.cell? ⟨w.heap.size, 1, none⟩ = some (.slice A2 s.classes.length c2) ∧ W'.cell? ⟨b, off + k, none⟩ = some (.string (B x)) ∧ Below wr.heap.size wr W')
     (first | (refine hSt _ ?_; repeat (first | with_reducible exact Below.refl _ _ | with_reducible apply Below.drew | with_reducible refine Below.lay ?_ _ | with_reducible refine Below.setCell ?_ (by simp) _ | with_reducible refine Below.on ?_ hb5)))
     (first | (go_at_call 44; refine (hT _ (by repeat (first | with_reducible exact Below.refl _ _ | with_reducible apply Below.drew | with_reducible refine Below.lay ?_ _))).mono ?_; rintro e W5 ⟨rfl, hb5⟩; first | have hn := three_new hb5 | skip))
    all_goals (go_wp2_with fail; go_meet)
    all_goals exact ⟨rfl, And.right (And.right (And.right (by assumption)))⟩
   case rest =>
   obtain ⟨rfl, hbc⟩ := hcut
   generalize wc = W3 at *
   replace d0 := cell_later hbc d0
   have hb3 := hbk.trans (hbc.mono hbk.size)
   have hR3 := hRk.keep hbc
   have hbx3 : Below rx W2 W3 := hbx.trans (hbc.mono (by have := hRk.rlo; have := hRk.loz; omega))
   clear hSt hT hRk p0 p1
   cases tk with
   | false =>
    have HF : Hid (r = 6) := hstep.out
    clear hstep kI hLo
    go_wp2_with fail
    go_ret2
    exact ⟨hb3, .inr ⟨by rw [HF.out]; decide, by rw [HF.out]; rfl⟩⟩
   | true =>
   have hst2 : Hid (r = (if R9 then (7, []) else ixNew s (ns.drop (k + 1)) (ac ++ [lx])).1) := by show _ = _; rw [hstep.out, hR9'.out]; rfl
   clear hstep
   go_wp2_with fail
   refine (kI W3 hbc).mono ?_
   rintro e W4 ⟨rfl, hb4⟩
   replace d0 := cell_later hb4 d0
   have hbw4 := hb3.trans (hb4.mono hb3.size)
   have hR4 := hR3.keep hb4
   have hbx4 : Below rx W2 W4 := hbx3.trans (hb4.mono (by have := hR3.rlo; have := hR3.loz; omega))
   clear kI hR3 hb4 hbc hb3 hbx3 hbk hbx
   cases R9 with
   | true =>
    have HF : Hid (r = 7) := hst2.out
    clear hst2 hLo
    go_wp2_with fail
    go_ret2
    exact ⟨hbw4, .inr ⟨by rw [HF.out]; decide, by rw [HF.out]; rfl⟩⟩
   | false =>
   have HF : Hid (r = (ixNew s (ns.drop (k + 1)) (ac ++ [lx])).1) := hst2.out
   clear hst2 hR9'
   obtain ⟨A6, c6, rfl⟩ := own_shape hR4.nam
   have hRd := hR4.keep (Below.refl _ W4).drew
   have p0d := hRd.c2
   have pfd := hRd.frz 2
   have hownd := hRd.nam
   have dd : W4.drew.cell? ⟨b, off + k, none⟩ = some (.string (B x)) := d0
   have l4 := hRd.loz
   have hcall := hLo W4.drew
   clear hLo d0 hR4
   go_upto_region 13 with fail
   go_region_law (first
    | (go_simp
       go_at_call 46
       refine hcall.mono ?_
       rintro e w6 ⟨rfl, hb6⟩
       have p06 := cell_later hb6 p0d
       have p06a := cell_later ((Below.refl _ _).alloc (Nat.le_refl _) (.cells #[.string (B lx)] 9)) p06
       have pf6 := frozen_later hb6 pfd (World.block_lt_of_cell? _ _ p0d)
       have hown6 := own_below hownd hb6
       have hs6 : rx + 1 ≤ w6.heap.size := Nat.le_trans l4 hb6.size
       go_wp2_with fail)
    | (refine step_push rfl _ _ 26 rfl (rx + 1) 9 (.string ⟨#[]⟩) 1 16 Tryz.underlying26 info_str rfl (by decide) _ _ _ hown6 rfl [.string (B lx)] rfl rfl (by intro u hu; simp at hu; subst hu; rfl) (by omega) hs6 ?_ rfl
       intro v7 w7 hown7 hg7 hat7
       obtain ⟨A9, c9, hv9⟩ := own_shape hown7
       subst hv9
       have hb7 : Below (rx + 1) w6 w7 := (Below.refl _ _).grown hg7 hs6 (fun j hj => (hown6.lt j hj).1)
       have st1 := (hb7.cell (p := ⟨rx, 2, none⟩) (Nat.lt_succ_self rx)).trans p06
       have st2 := (hb7.frozen (p := ⟨rx, 2, none⟩) (Nat.lt_succ_self rx)).trans pf6))
   all_goals
    have hlen : ac.length + 1 = (ac ++ [lx]).length := by rw [List.length_append]; rfl
    have hown8 : w7.ownsRow (rx + 1) 9 1 (.slice A9 (ac ++ [lx]).length c9) (ac ++ [lx]).length ((ac ++ [lx]).map sv) := by rw [← hlen, List.map_append]; exact hown7
    have hR8 := (hRd.keep hb6).names hb7 hown8
    rw [← hlen, ← hlw.out] at hR8
    have hbw8 : Below w.heap.size w (w7.setCell ⟨rx, 2, none⟩ (.slice A9 (ac.length + 1) c9)) := (((hbw4.drew).trans (hb6.mono hbw4.size)).trans (hb7.mono (by omega))).setCell (p := ⟨rx, 2, none⟩) (by show w.heap.size ≤ rx; omega) _
    have hbx8 : Below rx W2 (w7.setCell ⟨rx, 2, none⟩ (.slice A9 (ac.length + 1) c9)) := (((hbx4.drew).trans (hb6.mono (by show rx ≤ W4.heap.size; have : rx + 1 ≤ W4.heap.size := l4; omega))).trans (hb7.mono (by omega))).setCell (p := ⟨rx, 2, none⟩) (Nat.le_refl _) _
    have HF2 : Hid (r = (ixNew s (ns.drop (k + 1)) ((ns.take (k + 1)).map Idn.lower)).1) := by show _ = _; rw [HF.out, hlw.out]
    obtain ⟨X, hX⟩ : ∃ X : World, X = w7.setCell ⟨rx, 2, none⟩ (.slice A9 (ac.length + 1) c9) := ⟨_, rfl⟩
    rw [← hX] at hR8 hbw8 hbx8 ⊢
    clear hX st1 st2 hown8 hown7 hown6 hg7 hat7 p06 p06a pf6 p0d pfd hb6 hb7 hRd hownd dd hcall hlen HF
    go_wp2_with fail
    go_roundw
    case rel => exact ⟨k + 1, _, by omega, by go_num, hR8, hbw8, hbx8, HF2⟩
    case measure => simp [intOf]; omega
  ·have hltI : ¬ (k : Int) < (ns.length : Int) := by omega
   have HF : Hid (r = 0) := by show _ = _; rw [hinv.out, List.drop_eq_nil_of_le (by omega)]; rfl
   rw [List.take_of_length_le (by omega)] at hRk
   clear hinv kTy
   go_wp2_with fail
   go_ret2
   exact ⟨hbk, .inl ⟨HF.out, rx, _, _, _, _, rfl, by omega, hRk⟩⟩
end
end Go.Proofs.YtgjllfonmgfhgaaGreatDoor
/- identityref11: Put. -/
namespace Go.Proofs.YtgjllfonmgfhgaaGreatDoor
open Go.RowKit Go.Sort
open Idn (L B Bs drop_L take_L size_L)
abbrev EqV (w : World) (hi : Nat) (v : Value) (qs : List (EntP × Value)) : Prop := SlV (fun (q : EntP × Value) cs => cs = [sv q.1.1, q.2]) w hi 2 v qs
theorem EqV.own {w : World} {base : Nat} {v : Value} {qs : List (EntP × Value)} (h : w.ownsRow base 41 2 v qs.length (rowEn qs)) : EqV w w.heap.size v qs :=
 SlV.own h fun i q hq => by
  obtain ⟨e1, e2⟩ := rowEn_at qs i q hq
  exact ⟨[sv q.1.1, q.2], rfl, rfl, fun j u hj => by
   match j, hj with
   | 0, hj => simp at hj; subst hj; exact e1
   | 1, hj => simp at hj; subst hj; exact e2⟩
theorem run_size_ent (W : World) : (sizeOf (Tryz.prog.elem 52)).run Tryz.prog W = .ok 2 W := by
 obtain ⟨i, hi, _, h1, _⟩ := info_parts info_ent
 have e : Tryz.prog.elem 52 = 41 := by kernel_rfl
 rw [e]
 simp [sizeOf, typeInfo, hi, h1]
theorem takeE_run {w : World} {hi n c : Nat} {l : List (EntP × Value)} {A : Option Addr} (h : EqV w hi (.slice A n c) l) {j : Nat} (hj : j ≤ l.length) :
  ∃ A' c', (∀ W : World, (Instr.slice 52 (.slice A n c) none (some (.int .i64 (j : Int))) none).run Tryz.prog W = .ok (.slice A' j c') W) ∧ EqV w hi (.slice A' j c') (l.take j) := by
 obtain ⟨A0, c0, hv, hc⟩ := SlV.shape h
 injection hv with _ hn hcc
 subst hcc
 refine ⟨A, c, fun W => ?_, SlV.take h j hj⟩
 rw [run_slice_h W 52 A n c (by kernel_rfl) .i64 (j : Int) (by omega) (by omega), run_size_ent]
 simp only [Result.andThen_ok, sliced, Int.toNat_natCast, Nat.sub_zero]
 congr 2
 split
 ·rfl
 ·cases A with
  | none => rfl
  | some a => simp [Addr.add]
theorem dropE_run {w : World} {hi n c : Nat} {l : List (EntP × Value)} {A : Option Addr} (h : EqV w hi (.slice A n c) l) {j : Nat} (hj : j ≤ l.length) :
  ∃ A' c', (∀ W : World, (Instr.slice 52 (.slice A n c) (some (.int .i64 (j : Int))) none none).run Tryz.prog W = .ok (.slice A' (n - j) c') W) ∧ EqV w hi (.slice A' (n - j) c') (l.drop j) := by
 have hn := SlV.len h
 refine ⟨_, _, fun W => ?_, SlV.cutFrom h j hj⟩
 rw [run_slice_l W 52 A n c (by kernel_rfl) .i64 (j : Int) (by omega) (by omega), run_size_ent]
 simp only [Result.andThen_ok, sliced, Int.toNat_natCast]
theorem rowQ_en : ∀ (qs : List ((EntP × Value) × List Value)), (∀ q ∈ qs, q.2 = [sv q.1.1.1, q.1.2]) → rowQ qs = rowEn (qs.map (·.1))
 | [], _ => rfl
 | q :: qs, h => by
  have h1 := h q List.mem_cons_self
  have h2 := rowQ_en qs fun x hx => h x (List.mem_cons_of_mem _ hx)
  unfold rowQ rowEn at *
  rw [List.flatMap_cons, List.map_cons, List.flatMap_cons, h2, h1]
section
variable {w : World} {ops : Array Oper} {rest : List Oper} {o : Oper} {a : Act} {Q : Exit → Act → World → Prop}
theorem wpList_appendE (hgd : o.guard = none) (s x : Operand) (ho : o.op = .call { callee := .builtin .append, args := #[s, x], argTypes := #[52, 52] })
  (base : Nat) (v : Value) (ps : List (EntP × Value)) (hown : w.ownsRow base 41 2 v ps.length (rowEn ps)) (hs : a.eval s = v) (u : Value) (qs : List (EntP × Value)) (hi : Nat) (hu : EqV w hi u qs) (hx : a.eval x = u) (h1 : ∀ q ∈ qs, ∃ A n c, q.2 = .slice A n c)
  (hn : ps.length + qs.length ≤ 1000000) (hbase : base ≤ w.heap.size) (fl : List (EntP × Value)) (hfl : fl = ps ++ qs)
  (hK : ∀ v' w', w'.ownsRow base 41 2 v' fl.length (rowEn fl) → Below base w w' → w.grownBy w' v.ownBlock → wpList Tryz.prog ops Q rest (a.put o.dst v') w') : wpList Tryz.prog ops Q (o :: rest) a w := by
 subst hfl
 obtain ⟨i, hi', hz0, hz1, hz2⟩ := info_parts info_ent
 obtain ⟨A, c, rfl, hc⟩ := SlV.shape hu
 obtain ⟨rs, p1, p2, p3⟩ := SlV.cellsQ hu
 have hrow : rowQ rs = rowEn qs := by rw [rowQ_en rs fun q hq => (p2 q hq).2, p1]
 by_cases hl : qs.length = 0
 ·have hl0 : qs = [] := List.eq_nil_of_length_eq_zero hl
  subst hl0
  refine wpList_plain hgd fun K hK' => ?_
  have hrun := run_append_nilsrc (P := Tryz.prog) (w := w) base 52 o.type 41 i 2 Tryz.underlying52 hi' v ps.length (rowEn ps) hown A c
  unfold Oper.wp execOp
  simp only [List.length_nil] at hx
  simp only [ho, resolve, invoke, builtin, Sem.run_bind, Sem.run_pure, Result.andThen_ok, List.map_toArray, List.map_cons, List.map_nil, hs, hx, hrun]
  exact hK' _ _ (hK v w (by rw [List.append_nil]; exact hown) (Below.refl _ _) ⟨rfl, rfl, rfl, Nat.le_refl _, fun _ _ _ => rfl⟩)
 ·obtain ⟨b, off, hA, _, _⟩ := hu.at_ (k := 0) (by omega)
  subst hA
  refine wpList_append_own_at _ hgd s x 52 ho base 41 i (.agg #[.string ⟨#[]⟩, .slice none 0 0]) 2 40 Tryz.underlying52 hi' hz0 hz1 hz2 rfl (by decide) v ps.length (rowEn ps) hs hown ⟨b, off, none⟩ qs.length c (rowEn qs) hx (rowEn_len qs) ?_ (rowEn_one h1) (by unfold maxLen; omega) (by omega) hbase ?_
  ·intro j q hj
   have hadd : (⟨b, off, none⟩ : Addr).add j = ⟨b, off + j, none⟩ := by unfold Addr.add; split <;> simp_all
   rw [hadd]
   rw [← hrow] at hj
   exact p3 b off rfl j q hj
  ·intro v' w' hown' hg _ hat
   rw [← List.length_append, ← rowEn_app] at hown'
   exact hK v' w' hown' ((Below.refl base w).grown hg hbase (fun k hk => (hown.lt k hk).1)) hg
end
section
variable {w w' : World} {hs lo rx : Nat} {s : Idn.Sch} {idx : List Bs} {es : List IxE} {ta cb nv lv : Value} {qs : List (EntP × Value)}
theorem AttRow.grownE {base base' : Nat} {v v0 : Value} {m : Nat} {xs : List Value} {ps : List (Idn.Att × Value)} (h : AttRow w base v ps) (hown : w.ownsRow base' 41 2 v0 m xs) (hg : w.grownBy w' v0.ownBlock) : AttRow w' base v ps :=
 ⟨own_kept h.1 hg fun g h1 h2 => own_apart2 hown h.1 (by decide) g h2 h1, fun p hp => own_kept (h.2 p hp) hg fun g h1 h2 => own_apart2 hown (h.2 p hp) (by decide) g h2 h1⟩
theorem EntRow.shapes {base : Nat} {v : Value} (h : EntRow w base v qs) : ∀ q ∈ qs, ∃ A n c, q.2 = .slice A n c := fun q hq => by
 obtain ⟨ps, h1, _⟩ := h.2 q hq
 obtain ⟨A, c, e⟩ := own_shape h1.1
 exact ⟨A, _, c, e⟩
theorem r11_Put_any (h : RefV w hs lo rx s idx es ta cb nv lv qs) (hok : OkE es) (hel : es.length ≤ 256) (hnm : ∀ e ∈ es, e.1.length ≤ 1000000) (n : Bs) (hn : n.length ≤ 1000000) (av : Value) (A : List Idn.Att) (hatv : AttsV w w.heap.size av A) (hA7 : Idn.ASm7 A) :
    Calls Tryz.prog 16 #[.pointer (some ⟨rx, 0, none⟩), .agg #[.string (B n), av]] w fun e w' => e = .returned (.int .i64 (ixPut es n A).1) ∧ ∃ lv' qs', RefV w' hs lo rx s idx (ixPut es n A).2 ta cb nv lv' qs' ∧ Mv (· = rx) w w' := by
 have hql := h.len
 have kV := fun W => r5_Valid_any (B n) W (by rw [Idn.size_B]; omega)
 simp only [Idn.L_B] at kV
 have kC := fun W (hW : Below w.heap.size w W) => r6_Check_any av A W (AttsV.mono (AttsV.keep hatv hW) hW.size) (asm7_asm hA7)
 have kS := fun W (hW : Below w.heap.size w W) => r_Sorted_any av A W (AttsV.mono (AttsV.keep hatv hW) hW.size) hA7
 have HR : Hid (ixPut es n A = if n.isEmpty || !validN n then (5, es) else if Idn.aCheck A != 0 then (Idn.aCheck A, es) else if !hasE es n && decide (256 ≤ es.length) then (3, es) else (0, insE n (Idn.rSorted A) es)) := rfl
 have hkeep : ∀ W, Below w.heap.size w W → ∃ lv' qs', RefV W hs lo rx s idx es ta cb nv lv' qs' ∧ Mv (· = rx) w W := fun W hW => ⟨lv, qs, h.keep hW, Mv.of_below hW _⟩
 obtain ⟨Ag, cg, rfl, _⟩ := SlV.shape hatv
 have hte : (B n).toList.isEmpty = n.isEmpty := by rw [toList_L, Idn.L_B]
 generalize ixPut es n A = r at *
 have p4 := h.c4
 go_enter Tryz.func16, Tryz.ntmps16
 go_upto_region 1 with fail
 with_reducible refine gen1 (R := fun W => Code.wp Tryz.prog _ _ _ W) ?_
 intro W hbW _ hc _
 have b0 : W.cell? ⟨w.heap.size, 0, none⟩ = some (.string (B n)) := hc 0 _ rfl
 have b1 : W.cell? ⟨w.heap.size, 1, none⟩ = some (.slice Ag A.length cg) := hc 1 _ rfl
 replace p4 := cell_later hbW p4
 clear hc
 cases hemp : n.isEmpty with
 | true =>
  have HF : Hid (r = (5, es)) := by show _ = _; rw [HR.out, hemp]; rfl
  rw [hemp] at hte
  clear HR kV kC kS
  go_wp2_with fail
  go_ret
  rw [HF.out]
  first | exact ⟨rfl, hkeep _ hbW⟩ | exact ⟨rfl, ⟨_, _, h.keep hbW⟩, Mv.of_below hbW _⟩
 | false =>
 rw [hemp] at hte
 go_wp2_with fail
 refine (kV W).mono ?_
 rintro e w1 ⟨rfl, hb1⟩
 replace b0 := cell_later hb1 b0
 replace b1 := cell_later hb1 b1
 have hbw1 := hbW.trans (hb1.mono hbW.size)
 clear kV hbW hb1 p4
 cases hvn : validN n with
 | false =>
  have HF : Hid (r = (5, es)) := by show _ = _; rw [HR.out, hemp, hvn]; rfl
  clear HR kC kS
  go_wp2_with fail
  go_ret
  rw [HF.out]
  first | exact ⟨rfl, hkeep _ hbw1⟩ | exact ⟨rfl, ⟨_, _, h.keep hbw1⟩, Mv.of_below hbw1 _⟩
 | true =>
 go_wp2_with fail
 refine (kC w1 hbw1).mono ?_
 rintro e w2 ⟨rfl, hb2⟩
 replace b0 := cell_later hb2 b0
 replace b1 := cell_later hb2 b1
 have hbw2 := hbw1.trans (hb2.mono hbw1.size)
 clear kC hbw1 hb2
 by_cases hac : Idn.aCheck A = 0
 case neg =>
  have hI : (Idn.aCheck A != 0) = true := by simpa using hac
  have HF : Hid (r = (Idn.aCheck A, es)) := by show _ = _; rw [HR.out, hemp, hvn, hI]; rfl
  generalize Idn.aCheck A = ac at *
  clear HR kS
  go_wp2_with fail
  go_ret
  rw [HF.out]
  first | exact ⟨rfl, hkeep _ hbw2⟩ | exact ⟨rfl, ⟨_, _, h.keep hbw2⟩, Mv.of_below hbw2 _⟩
 have HR2 : Hid (r = if !hasE es n && decide (256 ≤ es.length) then (3, es) else (0, insE n (Idn.rSorted A) es)) := by show _ = _; rw [HR.out, hemp, hvn, hac]; rfl
 rw [hac]
 clear HR hac hemp
 have hvn' := Lib.hid hvn
 clear hvn
 have h2 := h.keep hbw2
 have S2 := h2.ents
 obtain ⟨Ae, ce, rfl⟩ := own_shape h2.ent.1
 rw [hql] at S2 h2 h
 have q3 := h2.c3
 -- the place
 go_upto_block 0 with fail
 go_cut [6] (fun t wx => ∃ k : Nat, t = .int .i64 k ∧ k ≤ es.length ∧ Below w2.heap.size w2 wx ∧ Hid (∀ (i : Nat) (x : IxE), i < k → es[i]? = some x → cmpNm x.1 n < 0) ∧ Hid (∀ x, es[k]? = some x → ¬ cmpNm x.1 n < 0))
 case first =>
  clear hkeep kS HR2 h h2 hvn'
  go_wp2_with fail
  go_loopw [6] (fun t wx => ∃ k : Nat, k ≤ es.length ∧ t = .int .i64 k ∧ Below w2.heap.size w2 wx ∧ Hid (∀ (i : Nat) (x : IxE), i < k → es[i]? = some x → cmpNm x.1 n < 0)) (fun t _ => es.length - (intOf t).toNat)
  case atStart => exact ⟨0, Nat.zero_le _, rfl, Below.refl _ _, fun i x h => absurd h (by omega)⟩
  case round =>
   rename World => wj
   obtain ⟨k, hk, rfl, hbj, hbef⟩ := hrel
   replace b0 := cell_later hbj b0
   replace q3 := cell_later hbj q3
   by_cases hlt : k < es.length
   ·obtain ⟨b, off, va, hAd, _, d0, d1, _⟩ := EntsV.cell (EntsV.mono (EntsV.keep S2 hbj) hbj.size) hlt
    subst hAd
    have hltI : (k : Int) < (es.length : Int) := by omega
    have hxl := hnm _ (List.getElem_mem hlt)
    have hxe : es[k]? = some (es[k]'hlt) := List.getElem?_eq_getElem hlt
    generalize es[k]'hlt = x at d0 hxl hxe
    have HB1 : cmpNm x.1 n < 0 → Hid (∀ (i : Nat) (x : IxE), i < k + 1 → es[i]? = some x → cmpNm x.1 n < 0) := fun h i y hi hy => by
     by_cases e : i = k
     ·subst e
      rw [hxe] at hy
      injection hy with hy
      rw [← hy]; exact h
     ·exact hbef.out i y (by omega) hy
    have HB2 : ¬ cmpNm x.1 n < 0 → Hid (∀ x, es[k]? = some x → ¬ cmpNm x.1 n < 0) := fun h y hy => by
     rw [hxe] at hy
     injection hy with hy
     rw [← hy]; exact h
    have q1 := cq (W := wj) fun V _ => r5_Compare_any (B x.1) (B n) V (by rw [Idn.size_B]; omega) (by rw [Idn.size_B]; omega)
    rw [Idn.L_B, Idn.L_B] at q1
    clear hxe d1
    generalize cmpNm x.1 n = cm at HB1 HB2 q1
    generalize x.1 = xn at d0 q1 hxl
    have i0 := cell_regrown q3
    have i1 := cell_regrown d0
    have i2 := cell_regrown b0
    clear S2
    go_wp2_with fail
    refine wp_region_quiet_below (by kernel_rfl) (by kernel_rfl) ?_
    repeat (first | go_big_quiet_step ((go_at_call 32; exact q1 _ _)) | quiet_step ((go_at_call 32; exact q1 _ _)))
    refine wpQuiet_nil ?_
    intro _ hw'
    obtain ⟨⟨dq, osq⟩, hw''⟩ := hw'
    subst hw''
    have hb4 := below_regrown wj dq osq
    generalize grow (redrawn wj dq) osq = W4 at hb4 ⊢
    clear i0 i1 i2 q1
    by_cases hc1 : cm < 0
    ·have HB := HB1 hc1
     clear HB1 HB2 hbef
     go_wp2_with fail
     go_roundw
     case rel => exact ⟨k + 1, by omega, by go_num, Below.on hbj hb4, HB⟩
     case measure => simp [intOf]; omega
    ·have HA := HB2 (by omega)
     clear HB1 HB2
     go_wp2_with fail
     go_meet
     exact ⟨k, rfl, hk, Below.on hbj hb4, hbef, HA⟩
   ·have hke : k = es.length := by omega
    subst hke
    have hltI : ¬ (es.length : Int) < (es.length : Int) := by omega
    have HA : Hid (∀ x, es[es.length]? = some x → ¬ cmpNm x.1 n < 0) := by
     intro x hxj
     rw [List.getElem?_eq_none (Nat.le_refl _)] at hxj
     cases hxj
    have i0 := cell_regrown q3
    clear S2
    go_wp2_with fail
    refine wp_region_quiet_below (by kernel_rfl) (by kernel_rfl) ?_
    repeat (first | go_big_quiet_step ((fail)) | quiet_step ((fail)))
    refine wpQuiet_nil ?_
    intro _ hw'
    obtain ⟨⟨dq, osq⟩, hw''⟩ := hw'
    subst hw''
    have hb4 := below_regrown wj dq osq
    generalize grow (redrawn wj dq) osq = W4 at hb4 ⊢
    clear i0
    go_wp2_with fail
    go_meet
    exact ⟨es.length, rfl, hk, Below.on hbj hb4, hbef, HA⟩
 case rest =>
 obtain ⟨k, rfl, hk, hbc, hbef, hat⟩ := hcut
 generalize wc = W3 at *
 have hbw3 := hbw2.trans (hbc.mono hbw2.size)
 have h3 := h2.keep hbc
 have S3 := h3.ents
 replace b0 := cell_later hbc b0
 replace b1 := cell_later hbc b1
 replace q3 := h3.c3
 have hh := has_at hok hvn'.out hbef.out hat.out
 clear h2 S2 hbw2 hbc
 go_upto_region 11 with fail
 go_cut [7] (fun t wx => t = .bool (hasE es n) ∧ Below W3.heap.size W3 wx)
 case first =>
  clear hkeep kS HR2 h h3 hvn' hbef hat b1
  by_cases hlt : k < es.length
  ·obtain ⟨b, off, va, hAd, _, d0, d1, _⟩ := EntsV.cell S3 hlt
   subst hAd
   have hltI : (k : Int) < (es.length : Int) := by omega
   have hst : ((B es[k].1).toList == (B n).toList) = hasE es n := by
    rw [str_beq, Idn.L_B, Idn.L_B]
    refine bool_ext ?_
    rw [decide_eq_true_eq, hh]
    exact ⟨fun e => ⟨es[k], List.getElem?_eq_getElem hlt, e⟩, fun ⟨x, h1, h2⟩ => by
     rw [List.getElem?_eq_getElem hlt] at h1
     injection h1 with h1
     rw [h1]; exact h2⟩
   generalize es[k].1 = x at *
   generalize hasE es n = th at *
   have i0 := cell_regrown q3
   have i1 := cell_regrown d0
   have i2 := cell_regrown b0
   clear S3 d1 hh
   go_wp2_with fail
   refine wp_region_quiet_below (by kernel_rfl) (by kernel_rfl) ?_
   repeat (first | go_big_quiet_step ((fail)) | quiet_step ((fail)))
   refine wpQuiet_nil ?_
   intro _ hw'
   obtain ⟨⟨dq, osq⟩, hw''⟩ := hw'
   subst hw''
   have hb4 := below_regrown W3 dq osq
   generalize grow (redrawn W3 dq) osq = W4 at hb4 ⊢
   go_wp2_with fail
   go_meet
   exact ⟨rfl, hb4⟩
  ·have hke : k = es.length := by omega
   subst hke
   have hth : hasE es n = false := by
    apply Bool.eq_false_iff.2
    intro e
    obtain ⟨x, h1, _⟩ := hh.1 e
    rw [List.getElem?_eq_none (Nat.le_refl _)] at h1
    cases h1
   have hltI : ¬ (es.length : Int) < (es.length : Int) := by omega
   have i0 := cell_regrown q3
   clear S3 hh
   go_wp2_with fail
   refine wp_region_quiet_below (by kernel_rfl) (by kernel_rfl) ?_
   repeat (first | go_big_quiet_step ((fail)) | quiet_step ((fail)))
   refine wpQuiet_nil ?_
   intro _ hw'
   obtain ⟨⟨dq, osq⟩, hw''⟩ := hw'
   subst hw''
   have hb4 := below_regrown W3 dq osq
   generalize grow (redrawn W3 dq) osq = W4 at hb4 ⊢
   go_wp2_with fail
   go_meet
   exact ⟨by rw [hth], hb4⟩
 case rest =>
 obtain ⟨rfl, hbc⟩ := hcut
 generalize wc = W4 at *
 have hbw4 := hbw3.trans (hbc.mono hbw3.size)
 have h4 := h3.keep hbc
 replace b0 := cell_later hbc b0
 replace b1 := cell_later hbc b1
 replace q3 := h4.c3
 clear h3 S3 hbw3 hbc
 cases hth : hasE es n with
 | false =>
  by_cases h256 : 256 ≤ es.length
  ·have hI : (256 : Int) ≤ (es.length : Int) := by omega
   have HF : Hid (r = (3, es)) := by show _ = _; rw [HR2.out, hth, decide_eq_true h256]; rfl
   clear HR2 kS
   go_wp2_with fail
   go_ret
   rw [HF.out]
   first | exact ⟨rfl, hkeep _ hbw4⟩ | exact ⟨rfl, ⟨_, _, h.keep hbw4⟩, Mv.of_below hbw4 _⟩
  have hI : ¬ (256 : Int) ≤ (es.length : Int) := by omega
  have HE : Hid (r = (0, es.take k ++ (n, Idn.rSorted A) :: es.drop k)) := by
   show _ = _
   rw [HR2.out, hth, decide_eq_false h256]
   show (0, insE n (Idn.rSorted A) es) = _
   rw [insE_new hk hbef.out fun x hx => ⟨hat.out x hx, fun e => by rw [hh.2 ⟨x, hx, e⟩] at hth; cases hth⟩]
  have hkq : k ≤ qs.length := by omega
  have hE4 := EqV.own h4.ent.1
  obtain ⟨A5, c5, hrun5, hT5⟩ := takeE_run hE4 hkq
  have hshp := h4.ent.shapes
  obtain ⟨T1, hT1⟩ : ∃ T1, T1 = [] ++ qs.take k := ⟨_, rfl⟩
  have htl : Hid (T1.length = k) := by show _ = _; rw [hT1, List.nil_append, List.length_take]; omega
  have htk : (qs.take k).length ≤ k := by rw [List.length_take]; omega
  replace hT1 := Lib.hid hT1
  clear HR2 hbef hat hh hth hkeep hvn'
  go_wp2_with (at_builtin; refine wpList_appendE rfl _ _ rfl W4.heap.size _ [] (World.ownsRow_nil _ _ _ _) rfl _ (qs.take k) _ hT5 rfl (fun q hq => hshp q (List.mem_of_mem_take hq)) (by simp; omega) (Nat.le_refl _) T1 hT1.out ?_)
  intro v6 w6 hown6 hb6 _
  have htl2 : T1.length ≤ 1000 := by have := htl.out; omega
  obtain ⟨A6, c6, rfl⟩ := own_shape hown6
  have hbw6 := hbw4.trans (hb6.mono hbw4.size)
  have e0 : w6.drew.cell? ⟨w.heap.size, 0, none⟩ = some (.string (B n)) := cell_later hb6.drew b0
  have e1 : w6.drew.cell? ⟨w.heap.size, 1, none⟩ = some (.slice Ag A.length cg) := cell_later hb6.drew b1
  have hown6d := own_below hown6 (Below.refl _ w6).drew
  have hcall := kS w6.drew hbw6.drew
  have l6 : W4.heap.size ≤ w6.drew.heap.size := hb6.drew.size
  have hbw6d := hbw6.drew
  have hshp' := Lib.hid hshp
  clear kS hE4 hT5 hrun5 h4 b0 b1 q3 hown6 hshp hb6 hbw6
  go_upto_region 16 with fail
  go_region_law (first
   | (go_simp
      go_at_call 55
      refine hcall.mono ?_
      rintro e w7 ⟨v7, ps7, rfl, hat7, hps7, hb7⟩
      obtain ⟨A7, c7, hsh⟩ := own_shape hat7.1
      subst hsh
      have e07 := cell_later hb7 e0
      have hown7 := own_below hown6d hb7
      have hs7 : W4.heap.size ≤ w7.heap.size := Nat.le_trans l6 hb7.size
      go_wp2_with fail)
   | (refine step_push rfl _ _ 52 rfl W4.heap.size 41 (.agg #[.string ⟨#[]⟩, .slice none 0 0]) 2 40 Tryz.underlying52 info_ent rfl (by decide) _ _ _ hown7 rfl [.string (B n), .slice A7 ps7.length c7] rfl rfl (by intro u hu; simp at hu; rcases hu with rfl | rfl <;> rfl) (by omega) hs7 ?_ rfl
      intro v8 w8 hown8 hg8 hat8
      obtain ⟨A8, c8, hv8⟩ := own_shape hown8
      subst hv8
      have hb8 : Below W4.heap.size w7 w8 := (Below.refl _ _).grown hg8 hs7 (fun j hj => (hown7.lt j hj).1)))
  all_goals
   obtain ⟨q8, hq8⟩ : ∃ q8 : EntP × Value, q8 = ((n, Idn.rSorted A), .slice A7 ps7.length c7) := ⟨_, rfl⟩
   obtain ⟨T2, hT2⟩ : ∃ T2, T2 = T1 ++ [q8] := ⟨_, rfl⟩
   have hl8 : Hid (T2.length = T1.length + 1) := by show _ = _; rw [hT2, List.length_append]; rfl
   have hown8' : w8.ownsRow W4.heap.size 41 2 (.slice A8 (T1.length + 1) c8) T2.length (rowEn T2) := by
    rw [hl8.out, hT2, rowEn_app, hq8]
    exact hown8
   have hbw7 := hbw6d.trans (hb7.mono hbw6d.size)
   have hbw8 := hbw7.trans (hb8.mono hbw4.size)
   have hs8 : W4.heap.size ≤ w8.heap.size := Nat.le_trans hs7 hb8.size
   have h8 := h.keep hbw8
   have q38 := h8.c3
   have hrow8 : AttRow w8 w6.drew.heap.size q8.2 ps7 := by
    rw [hq8]
    exact hat7.grownE hown7 hg8
   have hE8 := EqV.own h8.ent.1
   obtain ⟨A9, c9, hrun9, hT9⟩ := dropE_run hE8 (j := k) (by omega)
   have hdl : (qs.drop (k)).length ≤ es.length := by rw [List.length_drop]; omega
   obtain ⟨T3, hT3⟩ : ∃ T3, T3 = T2 ++ qs.drop (k) := ⟨_, rfl⟩
   have hT3e : Hid (T3 = qs.take k ++ [q8] ++ qs.drop (k)) := by show _ = _; rw [hT3, hT2, hT1.out, List.nil_append]
   replace hT3 := Lib.hid hT3
   have hq8' := Lib.hid hq8
   have hl88 : T2.length ≤ 1001 := by have := hl8.out; omega
   clear hT2 hq8
   clear hcall hat7 hown6d hown7 hown8 hg8 hat8 hbw6d hb7 hb8 e07 e0 e1 hE8
   go_wp2_with (at_builtin; refine wpList_appendE rfl _ _ rfl W4.heap.size _ T2 hown8' rfl _ (qs.drop (k)) _ hT9 rfl (fun q hq => hshp'.out q (List.mem_of_mem_drop hq)) (by omega) hs8 T3 hT3.out ?_)
   intro v9 w9 hown9 hb9 hg9
   obtain ⟨A10, c10, rfl⟩ := own_shape hown9
   have hbw9 := hbw8.trans (hb9.mono hbw4.size)
   have h9 := h.keep hbw9
   have hrow9 := hrow8.grownE hown8' hg9
   have q39 := h9.c3
   have f39 := h9.frz 3
   have hER : EntRow w9 lo (.slice A10 T3.length c10) T3 := ⟨own_lower hown9 (Nat.le_trans h.loz hbw4.size), fun q hq => by
    rw [hT3e.out] at hq
    rcases List.mem_append.1 hq with hq | hq
    ·rcases List.mem_append.1 hq with hq | hq
     ·exact h9.ent.2 q (List.mem_of_mem_take hq)
     ·rw [List.mem_singleton] at hq
      subst hq
      exact ⟨ps7, hrow9.low (Nat.le_trans h.loz (Nat.le_trans hbw4.size l6)), by rw [hps7, hq8'.out]⟩
    ·exact h9.ent.2 q (List.mem_of_mem_drop hq)⟩
   have hmap : T3.map (·.1) = es.take k ++ (n, Idn.rSorted A) :: es.drop (k) := by
    rw [hT3e.out, ← h.map, hq8'.out]
    simp
   have hfin := h9.store hER
   rw [hmap] at hfin
   have hmv := (Mv.of_below (S := (· = rx)) hbw9).trans (Mv.set w9 rx 3 (.slice A10 T3.length c10)) fun j hj => .inl hj
   replace hfin := Lib.hid hfin
   replace hmv := Lib.hid hmv
   clear hER hmap hown9 hrow9 hrow8 hg9 hT9 hrun9 h9 h8 hown8' hps7
   go_wp2_with fail
   go_ret
   rw [HE.out]
   first | exact ⟨rfl, ⟨_, _, hfin.out⟩, hmv.out⟩ | exact ⟨rfl, _, _, hfin.out, hmv.out⟩
 | true =>
  have hklt : k < es.length := by
   obtain ⟨x, h1, _⟩ := hh.1 hth
   exact (List.getElem?_eq_some_iff.1 h1).1
  have HE : Hid (r = (0, es.take k ++ (n, Idn.rSorted A) :: es.drop (k + 1))) := by
   show _ = _
   rw [HR2.out, hth]
   obtain ⟨x, h1, h2⟩ := hh.1 hth
   show (0, insE n (Idn.rSorted A) es) = _
   rw [insE_there hbef.out h1 (hat.out x h1) h2]
  have hkq : k ≤ qs.length := by omega
  have hE4 := EqV.own h4.ent.1
  obtain ⟨A5, c5, hrun5, hT5⟩ := takeE_run hE4 hkq
  have hshp := h4.ent.shapes
  obtain ⟨T1, hT1⟩ : ∃ T1, T1 = [] ++ qs.take k := ⟨_, rfl⟩
  have htl : Hid (T1.length = k) := by show _ = _; rw [hT1, List.nil_append, List.length_take]; omega
  have htk : (qs.take k).length ≤ k := by rw [List.length_take]; omega
  replace hT1 := Lib.hid hT1
  clear HR2 hbef hat hh hth hkeep hvn'
  go_wp2_with (at_builtin; refine wpList_appendE rfl _ _ rfl W4.heap.size _ [] (World.ownsRow_nil _ _ _ _) rfl _ (qs.take k) _ hT5 rfl (fun q hq => hshp q (List.mem_of_mem_take hq)) (by simp; omega) (Nat.le_refl _) T1 hT1.out ?_)
  intro v6 w6 hown6 hb6 _
  have htl2 : T1.length ≤ 1000 := by have := htl.out; omega
  obtain ⟨A6, c6, rfl⟩ := own_shape hown6
  have hbw6 := hbw4.trans (hb6.mono hbw4.size)
  have e0 : w6.drew.cell? ⟨w.heap.size, 0, none⟩ = some (.string (B n)) := cell_later hb6.drew b0
  have e1 : w6.drew.cell? ⟨w.heap.size, 1, none⟩ = some (.slice Ag A.length cg) := cell_later hb6.drew b1
  have hown6d := own_below hown6 (Below.refl _ w6).drew
  have hcall := kS w6.drew hbw6.drew
  have l6 : W4.heap.size ≤ w6.drew.heap.size := hb6.drew.size
  have hbw6d := hbw6.drew
  have hshp' := Lib.hid hshp
  clear kS hE4 hT5 hrun5 h4 b0 b1 q3 hown6 hshp hb6 hbw6
  go_upto_region 16 with fail
  go_region_law (first
   | (go_simp
      go_at_call 55
      refine hcall.mono ?_
      rintro e w7 ⟨v7, ps7, rfl, hat7, hps7, hb7⟩
      obtain ⟨A7, c7, hsh⟩ := own_shape hat7.1
      subst hsh
      have e07 := cell_later hb7 e0
      have hown7 := own_below hown6d hb7
      have hs7 : W4.heap.size ≤ w7.heap.size := Nat.le_trans l6 hb7.size
      go_wp2_with fail)
   | (refine step_push rfl _ _ 52 rfl W4.heap.size 41 (.agg #[.string ⟨#[]⟩, .slice none 0 0]) 2 40 Tryz.underlying52 info_ent rfl (by decide) _ _ _ hown7 rfl [.string (B n), .slice A7 ps7.length c7] rfl rfl (by intro u hu; simp at hu; rcases hu with rfl | rfl <;> rfl) (by omega) hs7 ?_ rfl
      intro v8 w8 hown8 hg8 hat8
      obtain ⟨A8, c8, hv8⟩ := own_shape hown8
      subst hv8
      have hb8 : Below W4.heap.size w7 w8 := (Below.refl _ _).grown hg8 hs7 (fun j hj => (hown7.lt j hj).1)))
  all_goals
   obtain ⟨q8, hq8⟩ : ∃ q8 : EntP × Value, q8 = ((n, Idn.rSorted A), .slice A7 ps7.length c7) := ⟨_, rfl⟩
   obtain ⟨T2, hT2⟩ : ∃ T2, T2 = T1 ++ [q8] := ⟨_, rfl⟩
   have hl8 : Hid (T2.length = T1.length + 1) := by show _ = _; rw [hT2, List.length_append]; rfl
   have hown8' : w8.ownsRow W4.heap.size 41 2 (.slice A8 (T1.length + 1) c8) T2.length (rowEn T2) := by
    rw [hl8.out, hT2, rowEn_app, hq8]
    exact hown8
   have hbw7 := hbw6d.trans (hb7.mono hbw6d.size)
   have hbw8 := hbw7.trans (hb8.mono hbw4.size)
   have hs8 : W4.heap.size ≤ w8.heap.size := Nat.le_trans hs7 hb8.size
   have h8 := h.keep hbw8
   have q38 := h8.c3
   have hrow8 : AttRow w8 w6.drew.heap.size q8.2 ps7 := by
    rw [hq8]
    exact hat7.grownE hown7 hg8
   have hE8 := EqV.own h8.ent.1
   obtain ⟨A9, c9, hrun9, hT9⟩ := dropE_run hE8 (j := k + 1) (by omega)
   rw [show ((k + 1 : Nat) : Int) = (k : Int) + 1 from rfl] at hrun9
   have hdl : (qs.drop (k + 1)).length ≤ es.length := by rw [List.length_drop]; omega
   obtain ⟨T3, hT3⟩ : ∃ T3, T3 = T2 ++ qs.drop (k + 1) := ⟨_, rfl⟩
   have hT3e : Hid (T3 = qs.take k ++ [q8] ++ qs.drop (k + 1)) := by show _ = _; rw [hT3, hT2, hT1.out, List.nil_append]
   replace hT3 := Lib.hid hT3
   have hq8' := Lib.hid hq8
   have hl88 : T2.length ≤ 1001 := by have := hl8.out; omega
   clear hT2 hq8
   clear hcall hat7 hown6d hown7 hown8 hg8 hat8 hbw6d hb7 hb8 e07 e0 e1 hE8
   go_wp2_with (at_builtin; refine wpList_appendE rfl _ _ rfl W4.heap.size _ T2 hown8' rfl _ (qs.drop (k + 1)) _ hT9 rfl (fun q hq => hshp'.out q (List.mem_of_mem_drop hq)) (by omega) hs8 T3 hT3.out ?_)
   intro v9 w9 hown9 hb9 hg9
   obtain ⟨A10, c10, rfl⟩ := own_shape hown9
   have hbw9 := hbw8.trans (hb9.mono hbw4.size)
   have h9 := h.keep hbw9
   have hrow9 := hrow8.grownE hown8' hg9
   have q39 := h9.c3
   have f39 := h9.frz 3
   have hER : EntRow w9 lo (.slice A10 T3.length c10) T3 := ⟨own_lower hown9 (Nat.le_trans h.loz hbw4.size), fun q hq => by
    rw [hT3e.out] at hq
    rcases List.mem_append.1 hq with hq | hq
    ·rcases List.mem_append.1 hq with hq | hq
     ·exact h9.ent.2 q (List.mem_of_mem_take hq)
     ·rw [List.mem_singleton] at hq
      subst hq
      exact ⟨ps7, hrow9.low (Nat.le_trans h.loz (Nat.le_trans hbw4.size l6)), by rw [hps7, hq8'.out]⟩
    ·exact h9.ent.2 q (List.mem_of_mem_drop hq)⟩
   have hmap : T3.map (·.1) = es.take k ++ (n, Idn.rSorted A) :: es.drop (k + 1) := by
    rw [hT3e.out, ← h.map, hq8'.out]
    simp
   have hfin := h9.store hER
   rw [hmap] at hfin
   have hmv := (Mv.of_below (S := (· = rx)) hbw9).trans (Mv.set w9 rx 3 (.slice A10 T3.length c10)) fun j hj => .inl hj
   replace hfin := Lib.hid hfin
   replace hmv := Lib.hid hmv
   clear hER hmap hown9 hrow9 hrow8 hg9 hT9 hrun9 h9 h8 hown8' hps7
   go_wp2_with fail
   go_ret
   rw [HE.out]
   first | exact ⟨rfl, ⟨_, _, hfin.out⟩, hmv.out⟩ | exact ⟨rfl, _, _, hfin.out, hmv.out⟩
end
end Go.Proofs.YtgjllfonmgfhgaaGreatDoor
/- law11: what both indexes keep while the other turns. -/
namespace Go.Proofs.YtgjllfonmgfhgaaGreatDoor
open Go.RowKit Go.Sort
open Idn (L B Bs drop_L take_L size_L)
theorem GdI.bdr {s : Idn.Sch} {ns : List Bs} {es : List IxE} (h : GdI s ns es) (hn : ns.length ≤ 1000000000) : BdR s (ns.map Idn.lower) es :=
 ⟨h.len, h.nam, fun e he => (fun q => ⟨chk_sm (h.chk e he), fun n => ⟨Nat.le_trans (q n).1 (by decide), fun x hx => Nat.le_trans ((q n).2 x hx) (by decide)⟩⟩) (rGet_small (h.chk e he) (h.srt e he)), by rw [List.length_map]; exact hn, h.sm⟩
theorem IxV.raise {w : World} {hs lo lo' px : Nat} {s : Idn.Sch} {ns : List Bs} {ta cb : Value} {eb vb : Nat} {g : Bs → Value} {ts : List (Bs × Nat)} {G : Bs → Bs → Option Nat} (h : IxV w hs lo px s ns [] ta cb eb vb g ts G) (hl : lo' ≤ w.heap.size) : IxV w hs lo' px s ns [] ta cb eb vb g ts G := { h with att := by simp, loz := hl }
section
variable {w w' : World} {hs lo px : Nat} {s : Idn.Sch} {ns : List Bs} {es : List IxE} {ta cb : Value} {eb vb : Nat} {g : Bs → Value} {ts : List (Bs × Nat)} {G : Bs → Bs → Option Nat} {hs' lo' rx : Nat} {s' : Idn.Sch} {idx : List Bs} {es' : List IxE} {ta' cb' nv lv : Value} {qs : List (EntP × Value)}
theorem IxV.ref (h : IxV w hs lo px s ns es ta cb eb vb g ts G) (hr : RefV w hs' lo' rx s' idx es' ta' cb' nv lv qs) (hm : Mv (· = rx) w w') (h1 : rx ≠ px) (h2 : hs ≤ rx) (h3 : rx < lo) : IxV w' hs lo px s ns es ta cb eb vb g ts G :=
 h.mv hm fun k hk => by
  have e : k = rx := hk
  subst e
  have hmap : ∀ es c, w.heap[k]? ≠ some (.map es c) := fun es c e => by
   have := hr.c0
   unfold World.cell? at this
   dsimp only at this
   rw [e] at this
   cases this
  refine ⟨fun e => ?_, fun hS => ?_, .inr ⟨h1, h2, h3⟩⟩
  ·subst e
   obtain ⟨es, c, e⟩ := h.vl.top.isMap
   exact hmap es c e
  ·obtain ⟨es, c, e⟩ := h.allMap k hS
   exact hmap es c e
theorem cell_off {S : Nat → Prop} (hm : Mv S w w') {b i : Nat} {u : Value} (hb : ¬ S b) (h : w.cell? ⟨b, i, none⟩ = some u) : w'.cell? ⟨b, i, none⟩ = some u := by
 rw [World.cell?_of_block (hm.block _ (World.block_lt_of_cell? _ _ h) hb)]
 exact h
theorem EntsV.keepP {hi : Nat} {v : Value} {l : List EntP} (h : EntsV w hi v l) (hc : ∀ b off u, b < hi → w.cell? ⟨b, off, none⟩ = some u → w'.cell? ⟨b, off, none⟩ = some u) : EntsV w' hi v l :=
 SlV.imp (SlV.keepC h hc) fun _ _ ⟨v, e, p⟩ => ⟨v, e, AttsV.keepC p hc⟩
theorem below_ref {lo0 : Nat} {w0 : World} (hb0 : Below lo0 w0 w) (h : Mv (· = rx) w w') (hlo : lo0 ≤ rx) (hz : lo0 ≤ w.heap.size) : Below lo0 w0 w' := hb0.trans (h.below (fun j hj => by have e : j = rx := hj; omega) hz)
end
end Go.Proofs.YtgjllfonmgfhgaaGreatDoor
