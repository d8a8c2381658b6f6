/- Part 48 of the proof that laws of identitylaw11 return true at every argument within the bound: the package variables hold what the program lays; nothing else is asked. -/
import Derived.Test.YtgjllfonmgfhgaaGreatDoorIra35
import Derived.Test.YtgjllfonmgfhgaaGreatDoorIra36
import Derived.Test.YtgjllfonmgfhgaaGreatDoorIra37
import Derived.Test.YtgjllfonmgfhgaaGreatDoorIra39
import Derived.Test.YtgjllfonmgfhgaaGreatDoorIra43
import Derived.Test.YtgjllfonmgfhgaaGreatDoorIra45
import Derived.Test.YtgjllfonmgfhgaaGreatDoorIra47
set_option linter.unusedVariables false
set_option linter.unusedSimpArgs false
/- Plain laws of identitylaw11: what was put against what is stored; the index's knowledge along the puts; the filters that Check takes. -/
namespace Go.Proofs.YtgjllfonmgfhgaaGreatDoor
open Go.RowKit Go.Sort
open Idn (L B Bs)
theorem storedF_eq : ∀ (l out : List EntP), storedF l out = stoE l out
  | [], _ => rfl
  | x :: l, out => by
    rw [storedF, stoE, storedF_eq l, show okP x = !(x.1.isEmpty || (!validN x.1 || Idn.aCheck x.2 != 0)) by unfold okP; rw [Bool.or_assoc]]
    cases (x.1.isEmpty || (!validN x.1 || Idn.aCheck x.2 != 0)) <;> rfl
theorem put_len {es : List IxE} (h : OkE es) (n : Bs) (A : List Idn.Att) : (ixPut es n A).2.length ≤ es.length + 1 := by
  unfold ixPut
  by_cases h1 : (n.isEmpty || !validN n) = true
  · rw [if_pos h1]; exact Nat.le_succ _
  · rw [if_neg h1]
    have hv : validN n = true := by
      have : (n.isEmpty || !validN n) = false := by simpa using h1
      rw [Bool.or_eq_false_iff] at this
      simpa using this.2
    split
    · exact Nat.le_succ _
    · split
      · exact Nat.le_succ _
      · show (insE n (Idn.rSorted A) es).length ≤ _
        rw [insE_len hv h]
        split <;> omega
theorem GdI.put {s : Idn.Sch} {ns : List Bs} {es : List IxE} (h : GdI s ns es) {n : Bs} {A : List Idn.Att} (hl : n.length ≤ 1000000) (hlen : es.length < 256) : GdI s ns (ixPut es n A).2 := by
  unfold ixPut
  by_cases h1 : (n.isEmpty || !validN n) = true
  · rw [if_pos h1]; exact h
  · rw [if_neg h1]
    have hv : validN n = true := by
      have : (n.isEmpty || !validN n) = false := by simpa using h1
      rw [Bool.or_eq_false_iff] at this
      simpa using this.2
    by_cases h2 : (Idn.aCheck A != 0) = true
    · rw [if_pos h2]; exact h
    · rw [if_neg h2]
      split
      · exact h
      · exact h.ins hv hl (by simpa using h2) (.inr hlen)
theorem CdE.len {es : List IxE} (h : OkE es) {l : List Bs} (hc : CdE es l) : l.length ≤ es.length := by
  have hnd : l.Nodup := hc.1.imp_of_mem fun {a b} ha _ hlt e => by
    subst e
    obtain ⟨x, hx, hx'⟩ := List.mem_map.1 (hc.2 a ha)
    have := nm_irr (h.val x hx)
    rw [hx'] at this
    omega
  have := nodup_lenS hnd hc.2
  unfold namesE at this
  rwa [List.length_map] at this
theorem stored_sub : ∀ (l out : List EntP), ∀ e ∈ storedF l out, e ∈ l ∨ e ∈ out
  | [], _, e, h => .inr h
  | x :: l, out, e, h => by
    rw [storedF] at h
    rcases stored_sub l _ e h with h | h
    · exact .inl (List.mem_cons_of_mem _ h)
    · split at h
      · rcases List.mem_append.1 h with h | h
        · exact .inr (List.mem_filter.1 h).1
        · rw [List.mem_singleton] at h
          exact .inl (h ▸ List.mem_cons_self)
      · exact .inr h
theorem stored_len : ∀ (l out : List EntP), (storedF l out).length ≤ out.length + l.length
  | [], out => by rw [storedF]; simp
  | x :: l, out => by
    rw [storedF]
    refine Nat.le_trans (stored_len l _) ?_
    have := List.length_filter_le (fun o : EntP => o.1 != x.1) out
    split <;> simp <;> omega
theorem light_asm7 {n : ByteArray} {A : List Idn.Att} (h : LightE n A) : Idn.ASm7 A := by
  obtain ⟨_, h2, h3⟩ := h
  refine ⟨by omega, fun a ha => ?_⟩
  obtain ⟨q1, q2, q3⟩ := h3 a ha
  exact ⟨by omega, by omega, fun x hx => by have := q3 x hx; omega⟩
end Go.Proofs.YtgjllfonmgfhgaaGreatDoor
/- law11: rows of entries while an index turns. -/
namespace Go.Proofs.YtgjllfonmgfhgaaGreatDoor
open Go.RowKit Go.Sort
open Idn (L B Bs drop_L take_L size_L)
/-- the cells stay -/
def Cls (w w' : World) : Prop := (∀ a u, w.cell? a = some u → w'.cell? a = some u) ∧ w.heap.size ≤ w'.heap.size
theorem Cls.refl (w : World) : Cls w w := ⟨fun _ _ h => h, Nat.le_refl _⟩
theorem Cls.trans {w w' w'' : World} (h : Cls w w') (k : Cls w' w'') : Cls w w'' := ⟨fun a u e => k.1 a u (h.1 a u e), Nat.le_trans h.2 k.2⟩
theorem Cls.of_below {w w' : World} (h : Below w.heap.size w w') : Cls w w' := ⟨fun _ _ e => cell_later h e, h.size⟩
theorem Cls.of_mv {S : Nat → Prop} {w w' : World} (h : Mv S w w') (hS : AllMap w S) : Cls w w' := ⟨fun _ _ e => h.cell hS e, h.size⟩
theorem Cls.cell {w w' : World} (h : Cls w w') {a : Addr} {u : Value} (e : w.cell? a = some u) : w'.cell? a = some u := h.1 a u e
theorem AttsV.keepK {w w' : World} {hi : Nat} {v : Value} {l : List Idn.Att} (h : AttsV w hi v l) (hc : Cls w w') : AttsV w' hi v l :=
  SlV.imp (SlV.keepC h fun _ _ _ _ e => hc.cell e) fun _ _ ⟨v, e, p⟩ => ⟨v, e, SlV.keepC p fun _ _ _ _ e => hc.cell e⟩
theorem EntsV.keepK {w w' : World} {hi : Nat} {v : Value} {l : List EntP} (h : EntsV w hi v l) (hc : Cls w w') : EntsV w' hi v l :=
  SlV.imp (SlV.keepC h fun _ _ _ _ e => hc.cell e) fun _ _ ⟨v, e, p⟩ => ⟨v, e, AttsV.keepK p hc⟩
theorem StrsV.keepK {w w' : World} {hi : Nat} {v : Value} {l : List Bs} (h : StrsV w hi v l) (hc : Cls w w') : StrsV w' hi v l := SlV.keepC h fun _ _ _ _ e => hc.cell e
theorem EntRef.mv {S : Nat → Prop} {w0 w w' : World} {base : Nat} {v : Value} {qs : List (EntP × Value)} (h : EntRef w0 w base v qs) (hm : Mv S w w') (hS : AllMap w S) : EntRef w0 w' base v qs :=
  ⟨own_mv h.1 hm fun k hk => .inr (hS k hk), h.2⟩
theorem EntRef.entsC {w0 w : World} {base : Nat} {v : Value} {qs : List (EntP × Value)} {l : List EntP} (h : EntRef w0 w base v qs) (hl : qs.map (·.1) = l) (hc : Cls w0 w) : EntsV w w.heap.size v l := by
  subst hl
  have h0 := h.1
  rw [show qs.length = (qs.map (·.1)).length by simp] at h0
  refine SlV.own h0 fun i x hx => ?_
  rw [List.getElem?_map] at hx
  obtain ⟨q, hq, rfl⟩ := Option.map_eq_some_iff.1 hx
  obtain ⟨e1, e2⟩ := rowEn_at qs i q hq
  refine ⟨[sv q.1.1, q.2], rfl, ⟨q.2, rfl, AttsV.mono (AttsV.keepK (h.2 q (List.mem_of_getElem? hq)) hc) hc.2⟩, fun j u hj => ?_⟩
  match j, hj with
  | 0, hj => simp at hj; subst hj; exact e1
  | 1, hj => simp at hj; subst hj; exact e2
/-- the second form's bound gives what the small looks ask -/
theorem ge_elen {es : List EntP} (h1 : es.length ≤ 1048576) (h2 : ∀ e ∈ es, GE e 1048576) : ELen es :=
  ⟨by omega, fun e he => ⟨by have := (h2 e he).1; omega, by have := (h2 e he).2.1; omega, fun a ha => by have := ((h2 e he).2.2 a ha).2.1; omega⟩⟩
section
variable {w : World} {hs lo px : Nat} {s : Idn.Sch} {ns : List Bs} {es : List IxE} {ta cb : Value} {eb vb : Nat} {g : Bs → Value} {ts : List (Bs × Nat)} {G : Bs → Bs → Option Nat}
/-- Put, as the laws call it: what turned, what stays -/
theorem put11_any (hI : IxV w hs lo px s ns es ta cb eb vb g ts G) (hG : GdI s ns es) (hlen : es.length < 256) {lo0 : Nat} (hlo : lo0 ≤ hs) (w0 : World) (hb0 : Below lo0 w0 w) (hE : ∀ W, Below lo0 w0 W → Env W ∧ EnvU W) (n : Bs) (hn : n.length ≤ 1000000) (av : Value) (A : List Idn.Att) (hatv : AttsV w w.heap.size av A) (hA7 : Idn.ASm7 A) :
    Calls Tryz.prog 15 #[.pointer (some ⟨px, 0, none⟩), .agg #[.string (B n), av]] w fun e w' => e = .returned (.int .i64 (ixPut es n A).1) ∧ ∃ g' G', IxV w' hs lo px s ns (ixPut es n A).2 ta cb eb vb g' ts G' ∧ GdI s ns (ixPut es n A).2 ∧ Mv (IxS eb ts G) w w' ∧ (∀ k, IxS eb ts G' k → IxS eb ts G k ∨ w.heap.size ≤ k) ∧ Below lo0 w0 w' ∧ Cls w w' := by
  refine (ixPut_any hI hG (fun W hW => hE W (hb0.trans (hW.mono hlo))) n hn av A hatv hA7).mono ?_
  rintro e w' ⟨h1, g', G', h2, h3, h4⟩
  exact ⟨h1, g', G', h2, hG.put hn hlen, h3, h4, hb0.trans ((h3.below hI.lowS hI.hsz).mono hlo), Cls.of_mv h3 hI.allMap⟩
theorem drop11_any (hI : IxV w hs lo px s ns es ta cb eb vb g ts G) (hG : GdI s ns es) {lo0 : Nat} (hlo : lo0 ≤ hs) (w0 : World) (hb0 : Below lo0 w0 w) (hE : ∀ W, Below lo0 w0 W → Env W ∧ EnvU W) (n : Bs) (hn : n.length ≤ 1000000) :
    Calls Tryz.prog 17 #[.pointer (some ⟨px, 0, none⟩), .string (B n)] w fun e w' => e = .returned (.tuple #[]) ∧ ∃ G', IxV w' hs lo px s ns (ixDrop es n) ta cb eb vb g ts G' ∧ GdI s ns (ixDrop es n) ∧ Mv (IxS eb ts G) w w' ∧ (∀ k, IxS eb ts G' k → IxS eb ts G k ∨ w.heap.size ≤ k) ∧ Below lo0 w0 w' ∧ Cls w w' := by
  refine (ixDrop_any hI hG (fun W hW => hE W (hb0.trans (hW.mono hlo))) n hn).mono ?_
  rintro e w' ⟨h1, G', h2, h3, h4⟩
  exact ⟨h1, G', h2, hG.drop n, h3, h4, hb0.trans ((h3.below hI.lowS hI.hsz).mono hlo), Cls.of_mv h3 hI.allMap⟩
/-- Range and Find, as the laws call them -/
theorem rng11_any (hI : IxV w hs lo px s ns es ta cb eb vb g ts G) (hG : GdI s ns es) {lo0 : Nat} (w0 : World) (hb0 : Below lo0 w0 w) (hlo : lo0 ≤ w.heap.size) (hE : ∀ W, Below lo0 w0 W → Env W ∧ EnvU W) (a low hi : ByteArray) (ha : a.size ≤ 1000000000) (hl : low.size ≤ 100000000) (hh : hi.size ≤ 100000000) :
    Calls Tryz.prog 22 #[.pointer (some ⟨px, 0, none⟩), .string a, .string low, .string hi] w (RetC w (ixRange s (ns.map Idn.lower) es (L a) (L low) (L hi))) :=
  ixRange_any hI hG (fun W hW => hE W (hb0.trans (hW.mono hlo))) a low hi ha hl hh
theorem fnd11_any (hI : IxV w hs lo px s ns es ta cb eb vb g ts G) (hG : GdI s ns es) {lo0 : Nat} (w0 : World) (hb0 : Below lo0 w0 w) (hlo : lo0 ≤ w.heap.size) (hE : ∀ W, Below lo0 w0 W → Env W ∧ EnvU W) (a x : ByteArray) (ha : a.size ≤ 1000000000) (hx : x.size ≤ 100000000) :
    Calls Tryz.prog 19 #[.pointer (some ⟨px, 0, none⟩), .string a, .string x] w (RetC w (ixFind s (ns.map Idn.lower) es (L a) (L x))) :=
  ixFind_any hI hG (fun W hW => hE W (hb0.trans (hW.mono hlo))) a x ha hx
end
/-- what a walk returns as a list and a truth: the list's cells -/
theorem RetC.open_ {w w' : World} {r : List Bs × Bool} {e : Ending} (h : RetC w r e w') : ∃ A c, e = .returned (.tuple #[.slice A r.1.length c, .bool r.2]) ∧ StrsV w' w'.heap.size (.slice A r.1.length c) r.1 ∧ Below w.heap.size w w' := by
  obtain ⟨v, h1, h2, h3⟩ := h
  obtain ⟨A, c, rfl⟩ := own_shape h2
  exact ⟨A, c, h1, StrsV.of_own h2, h3⟩
def clsN : Bs := [99, 108, 97, 115, 115]
theorem cls_low : ([clsN].map Idn.lower).contains (Idn.lower clsN) = true := by decide
theorem noF_v (w : World) (hi : Nat) : FltV w hi 1 (.agg #[.int .i64 0, .string ⟨#[]⟩, .string ⟨#[]⟩, .slice none 0 0, .slice none 0 0]) (.mk 0 [] [] [] []) := ⟨_, _, rfl, SlV.nil _ _ _ _, SlV.nil _ _ _ _⟩
theorem noF_len : fLen (.mk 0 [] [] [] []) := by simp [fLen, fLens]
/-- ready at a case without a filter -/
theorem ready11_no (ev : Value) (es : List EntP) (w : World) (he : EntsV w w.heap.size ev es) (hel : ELen es) :
    Calls Tryz.prog 26 #[.agg #[ev, .int .i64 0, .string ⟨#[]⟩, .string ⟨#[]⟩, .slice none 0 0, .slice none 0 0]] w (RetY w (es.length ≤ 10 ∧ ∀ e ∈ es, LightE (B e.1) e.2)) :=
  (ready11_any ev _ _ es 1 (.mk 0 [] [] [] []) w he hel (noF_v w _) noF_len).mono fun e w' ⟨r, h1, h2, h3⟩ => ⟨r, h1, fun h => (h2 h).1, h3⟩
/-- two indexes that share no block that turns -/
def Dj (eb vb : Nat) (ts : List (Bs × Nat)) (G : Bs → Bs → Option Nat) (eb' vb' : Nat) (ts' : List (Bs × Nat)) (G' : Bs → Bs → Option Nat) : Prop := (∀ k, IxS eb ts G k → k ≠ vb' ∧ ¬ IxS eb' ts' G' k) ∧ ∀ k, IxS eb' ts' G' k → k ≠ vb
section
variable {w w' : World} {hs lo px : Nat} {s : Idn.Sch} {ns : List Bs} {es : List IxE} {ta cb : Value} {eb vb : Nat} {g : Bs → Value} {ts : List (Bs × Nat)} {G : Bs → Bs → Option Nat} {hs' lo' px' : Nat} {s' : Idn.Sch} {ns' : List Bs} {es' : List IxE} {ta' cb' : Value} {eb' vb' : Nat} {g' : Bs → Value} {ts' : List (Bs × Nat)} {G' G2 : Bs → Bs → Option Nat}
theorem IxV.ltS (h : IxV w hs lo px s ns es ta cb eb vb g ts G) {k : Nat} (hk : IxS eb ts G k) : k < w.heap.size := by
  obtain ⟨es, c, e⟩ := h.allMap k hk
  exact (Array.getElem?_eq_some_iff.1 e).1
theorem Dj.symm (h : Dj eb vb ts G eb' vb' ts' G') : Dj eb' vb' ts' G' eb vb ts G := ⟨fun k hk => ⟨h.2 k hk, fun h' => (h.1 k h').2 hk⟩, fun k hk => (h.1 k hk).1⟩
theorem Dj.turn (h : Dj eb vb ts G eb' vb' ts' G') (hy : IxV w hs' lo' px' s' ns' es' ta' cb' eb' vb' g' ts' G') (hn : ∀ k, IxS eb ts G2 k → IxS eb ts G k ∨ w.heap.size ≤ k) : Dj eb vb ts G2 eb' vb' ts' G' :=
  ⟨fun k hk => by
    rcases hn k hk with h1 | h1
    · exact h.1 k h1
    · exact ⟨fun e => by have := hy.vl.top.lt; omega, fun h2 => by have := hy.ltS h2; omega⟩, h.2⟩
theorem IxV.other (hy : IxV w hs' lo' px' s' ns' es' ta' cb' eb' vb' g' ts' G') (hd : Dj eb vb ts G eb' vb' ts' G') (hm : Mv (IxS eb ts G) w w') (hall : AllMap w (IxS eb ts G)) : IxV w' hs' lo' px' s' ns' es' ta' cb' eb' vb' g' ts' G' :=
  hy.mv hm fun k hk => ⟨(hd.1 k hk).1, (hd.1 k hk).2, .inl (hall k hk)⟩
theorem Dj.of (hx : IxV w hs lo px s ns es ta cb eb vb g ts G) (hy : IxV w' hs' lo' px' s' ns' es' ta' cb' eb' vb' g' ts' G') (hh : w.heap.size ≤ hs') : Dj eb vb ts G eb' vb' ts' G' :=
  ⟨fun k hk => by
    have h1 := hx.ltS hk
    exact ⟨fun e => by have := hy.hsv; omega, fun h2 => by have := hy.lowS k h2; omega⟩, fun k hk => by
    have h1 := hy.lowS k hk
    have h2 := hx.vl.top.lt
    omega⟩
end
end Go.Proofs.YtgjllfonmgfhgaaGreatDoor
