/- Part 50 of the proof that identitylaw11.IndexComplete returns true at every schema, list of names and case within the bound: the package variables hold what the program lays; nothing else is asked. -/
import Derived.Test.YtgjllfonmgfhgaaGreatDoorIct34
import Derived.Test.YtgjllfonmgfhgaaGreatDoorIct35
import Derived.Test.YtgjllfonmgfhgaaGreatDoorIct41
import Derived.Test.YtgjllfonmgfhgaaGreatDoorIct43
import Derived.Test.YtgjllfonmgfhgaaGreatDoorIct46
import Derived.Test.YtgjllfonmgfhgaaGreatDoorIct48
import Derived.Test.YtgjllfonmgfhgaaGreatDoorIct49
import Derived.ChangeMaps5
set_option linter.unusedVariables false
set_option linter.unusedSimpArgs false
/- Plain laws of identitylaw11: what was put against what is stored; the index's knowledge along the puts; the filters that Check takes. -/
namespace Go.Proofs.YtgjllfonmgfhgaaGreatDoor
open Go.RowKit Go.Sort
open Idn (L B Bs)
theorem all_ext {α : Type} {p q : α → Bool} : ∀ {l : List α}, (∀ x ∈ l, p x = q x) → l.all p = l.all q
  | [], _ => rfl
  | x :: l, h => by rw [List.all_cons, List.all_cons, h x List.mem_cons_self, all_ext fun y hy => h y (List.mem_cons_of_mem _ hy)]
theorem storedF_eq : ∀ (l out : List EntP), storedF l out = stoE l out
  | [], _ => rfl
  | x :: l, out => by
    rw [storedF, stoE, storedF_eq l, show okP x = !(x.1.isEmpty || (!validN x.1 || Idn.aCheck x.2 != 0)) by unfold okP; rw [Bool.or_assoc]]
    cases (x.1.isEmpty || (!validN x.1 || Idn.aCheck x.2 != 0)) <;> rfl
theorem put_len {es : List IxE} (h : OkE es) (n : Bs) (A : List Idn.Att) : (ixPut es n A).2.length ≤ es.length + 1 := by
  unfold ixPut
  by_cases h1 : (n.isEmpty || !validN n) = true
  · rw [if_pos h1]; exact Nat.le_succ _
  · rw [if_neg h1]
    have hv : validN n = true := by
      have : (n.isEmpty || !validN n) = false := by simpa using h1
      rw [Bool.or_eq_false_iff] at this
      simpa using this.2
    split
    · exact Nat.le_succ _
    · split
      · exact Nat.le_succ _
      · show (insE n (Idn.rSorted A) es).length ≤ _
        rw [insE_len hv h]
        split <;> omega
theorem GdI.put {s : Idn.Sch} {ns : List Bs} {es : List IxE} (h : GdI s ns es) {n : Bs} {A : List Idn.Att} (hl : n.length ≤ 1000000) (hlen : es.length < 256) : GdI s ns (ixPut es n A).2 := by
  unfold ixPut
  by_cases h1 : (n.isEmpty || !validN n) = true
  · rw [if_pos h1]; exact h
  · rw [if_neg h1]
    have hv : validN n = true := by
      have : (n.isEmpty || !validN n) = false := by simpa using h1
      rw [Bool.or_eq_false_iff] at this
      simpa using this.2
    by_cases h2 : (Idn.aCheck A != 0) = true
    · rw [if_pos h2]; exact h
    · rw [if_neg h2]
      split
      · exact h
      · exact h.ins hv hl (by simpa using h2) (.inr hlen)
theorem fMat_cong {s : Idn.Sch} {A A' : List Idn.Att} (h : ∀ n, rGet A n = rGet A' n) (f : Flt) : fMat s A f = fMat s A' f := by
  induction f using Flt.ind with
  | h k n v ps ks ih =>
    have hall : fAll s A ks = fAll s A' ks := by
      rw [fAll_eq, fAll_eq]
      exact all_ext fun g hg => ih g hg
    have hany : fAny s A ks = fAny s A' ks := by
      rw [fAny_eq, fAny_eq]
      exact any_ext fun g hg => ih g hg
    rw [fMat, fMat, hall, hany]
    unfold cmpF
    rw [h]
theorem best_none : ∀ (l : List (List Bs × Bool)) (b : List Bs × Bool), (b.2 = false → b.1 = []) → (∀ c ∈ l, c.2 = false → c.1 = []) → (bestC l b).2 = false → (bestC l b).1 = []
  | [], b, hb, _, h => hb h
  | c :: l, b, hb, hl, h => by
    rw [bestC] at h ⊢
    refine best_none l _ ?_ (fun d hd => hl d (List.mem_cons_of_mem _ hd)) h
    split
    · exact fun h => by cases h
    · exact hb
theorem cand_none {s : Idn.Sch} {idx : List Bs} {es : List IxE} (f : Flt) : (ixCand s idx es f).2 = false → (ixCand s idx es f).1 = [] := by
  induction f using Flt.ind with
  | h k n v ps ks ih =>
    intro h
    rw [ixCand] at h ⊢
    by_cases h4 : k = 4
    · rw [if_pos h4] at h ⊢
      unfold ixFind at h ⊢
      split
      · rfl
      · rename_i hi
        rw [if_neg hi] at h
        split at h <;> cases h
    · rw [if_neg h4] at h ⊢
      by_cases h5 : k = 5 ∨ k = 6
      · rw [if_pos h5] at h ⊢
        unfold ixBound at h ⊢
        split
        · rfl
        · rename_i hi
          rw [if_neg hi] at h
          split at h
          · cases h
          · unfold ixRange at h
            rw [if_neg hi, if_neg hi] at h
            split at h <;> cases h
      · rw [if_neg h5] at h ⊢
        by_cases h7 : k = 7
        · rw [if_pos h7] at h ⊢
          unfold ixPres at h ⊢
          split
          · rfl
          · rename_i hi
            rw [if_neg hi] at h; cases h
        · rw [if_neg h7] at h ⊢
          by_cases h1 : k = 1
          · rw [if_pos h1] at h ⊢
            refine best_none _ _ (fun _ => rfl) (fun c hc => ?_) h
            obtain ⟨g, hg, rfl⟩ := cands_mem hc
            exact ih g hg
          · rw [if_neg h1] at h ⊢
            by_cases h2 : k = 2
            · rw [if_pos h2] at h ⊢
              unfold someC at h ⊢
              split
              · rename_i ha
                rw [if_pos ha] at h; cases h
              · rfl
            · rw [if_neg h2]
theorem CdE.len {es : List IxE} (h : OkE es) {l : List Bs} (hc : CdE es l) : l.length ≤ es.length := by
  have hnd : l.Nodup := hc.1.imp_of_mem fun {a b} ha _ hlt e => by
    subst e
    obtain ⟨x, hx, hx'⟩ := List.mem_map.1 (hc.2 a ha)
    have := nm_irr (h.val x hx)
    rw [hx'] at this
    omega
  have := nodup_lenS hnd hc.2
  unfold namesE at this
  rwa [List.length_map] at this
/-- all that IndexComplete asks -/
theorem complete_all {s : Idn.Sch} {idx : List Bs} {l : List EntP} (hl : l.length ≤ 255) (f : Flt) {out es : List IxE} (ho : out = storedF l []) (he : es = putsE l []) :
    es.length = out.length ∧ (ixCand s idx es f).1.length ≤ out.length ∧ ((ixCand s idx es f).2 = false → (ixCand s idx es f).1.length = 0) ∧ ((ixCand s idx es f).2 = true → ∀ e ∈ out, fMatch s e.2 f = true → (ixCand s idx es f).1.contains e.1 = true) := by
  have hS : SamE out es := by
    rw [ho, he, storedF_eq]
    exact puts_law l [] [] SamE.nil (by simpa using hl)
  refine ⟨hS.len, ?_, fun h => by rw [cand_none f h]; rfl, fun ht e hx hm => ?_⟩
  · rw [← hS.len]
    exact (cand_ok hS.ok f).len hS.ok
  · obtain ⟨n, A⟩ := e
    have hin : (n, Idn.rSorted A) ∈ es := (hS.mem n _).2 ⟨A, hx, rfl⟩
    unfold fMatch at hm
    rw [Bool.and_eq_true] at hm
    rw [List.contains_iff_mem]
    refine complete_law hin f ?_ ht
    rw [fMat_cong (A' := A) fun m => get_sorted A m]
    exact hm.2
theorem stored_sub : ∀ (l out : List EntP), ∀ e ∈ storedF l out, e ∈ l ∨ e ∈ out
  | [], _, e, h => .inr h
  | x :: l, out, e, h => by
    rw [storedF] at h
    rcases stored_sub l _ e h with h | h
    · exact .inl (List.mem_cons_of_mem _ h)
    · split at h
      · rcases List.mem_append.1 h with h | h
        · exact .inr (List.mem_filter.1 h).1
        · rw [List.mem_singleton] at h
          exact .inl (h ▸ List.mem_cons_self)
      · exact .inr h
theorem stored_len : ∀ (l out : List EntP), (storedF l out).length ≤ out.length + l.length
  | [], out => by rw [storedF]; simp
  | x :: l, out => by
    rw [storedF]
    refine Nat.le_trans (stored_len l _) ?_
    have := List.length_filter_le (fun o : EntP => o.1 != x.1) out
    split <;> simp <;> omega
/-- a small filter is one that the program's walks take -/
theorem nSm_fOk (f : Flt) : nSm f → fG 1048576 f → fOk f := by
  induction f using Flt.ind with
  | h k n v ps ks ih =>
    intro h g
    rw [nSm] at h
    rw [fG] at g
    rw [fOk]
    obtain ⟨h1, h2, h3, h4, h5⟩ := h
    obtain ⟨_, _, g3, _, g5⟩ := g
    exact ⟨⟨by omega, by omega, by omega, fun x hx => by have := g3.2 x hx; omega⟩, fOks_all.2 fun q hq => ih q hq (nSms_all.1 h5 q hq) (fGs_all.1 g5 q hq)⟩
theorem ready_fsm {es : List EntP} {f : Flt} (h : ReadyC es f) (g : fG 1048576 f) : FSm 1000 f := ⟨by have := h.2.2; omega, nSm_fOk f h.2.1 g⟩
theorem fG_len {n : Nat} (hn : n ≤ 9223372036854775807) (f : Flt) : fG n f → fLen f := by
  induction f using Flt.ind with
  | h k a v ps ks ih =>
    intro g
    rw [fG] at g
    rw [fLen]
    obtain ⟨_, _, g3, g4, g5⟩ := g
    exact ⟨Nat.le_trans g3.1 hn, Nat.le_trans g4 hn, fLens_all.2 fun q hq => ih q hq (fGs_all.1 g5 q hq)⟩
theorem light_asm7 {n : ByteArray} {A : List Idn.Att} (h : LightE n A) : Idn.ASm7 A := by
  obtain ⟨_, h2, h3⟩ := h
  refine ⟨by omega, fun a ha => ?_⟩
  obtain ⟨q1, q2, q3⟩ := h3 a ha
  exact ⟨by omega, by omega, fun x hx => by have := q3 x hx; omega⟩
theorem light_aget {n : ByteArray} {A : List Idn.Att} (h : LightE n A) : AGet A :=
  ⟨light_asm7 h, fun m => ⟨rGet_len (light_asm7 h) m, rGet_all (p := fun x => x.length ≤ 100000000) (fun a ha x hx => by have := (h.2.2 a ha).2.2 x hx; omega) m⟩⟩
end Go.Proofs.YtgjllfonmgfhgaaGreatDoor
/- law11: rows of entries while an index turns. -/
namespace Go.Proofs.YtgjllfonmgfhgaaGreatDoor
open Go.RowKit Go.Sort
open Idn (L B Bs drop_L take_L size_L)
/-- the cells stay -/
def Cls (w w' : World) : Prop := (∀ a u, w.cell? a = some u → w'.cell? a = some u) ∧ w.heap.size ≤ w'.heap.size
theorem Cls.refl (w : World) : Cls w w := ⟨fun _ _ h => h, Nat.le_refl _⟩
theorem Cls.trans {w w' w'' : World} (h : Cls w w') (k : Cls w' w'') : Cls w w'' := ⟨fun a u e => k.1 a u (h.1 a u e), Nat.le_trans h.2 k.2⟩
theorem Cls.of_below {w w' : World} (h : Below w.heap.size w w') : Cls w w' := ⟨fun _ _ e => cell_later h e, h.size⟩
theorem Cls.of_mv {S : Nat → Prop} {w w' : World} (h : Mv S w w') (hS : AllMap w S) : Cls w w' := ⟨fun _ _ e => h.cell hS e, h.size⟩
theorem Cls.cell {w w' : World} (h : Cls w w') {a : Addr} {u : Value} (e : w.cell? a = some u) : w'.cell? a = some u := h.1 a u e
theorem AttsV.keepK {w w' : World} {hi : Nat} {v : Value} {l : List Idn.Att} (h : AttsV w hi v l) (hc : Cls w w') : AttsV w' hi v l :=
  SlV.imp (SlV.keepC h fun _ _ _ _ e => hc.cell e) fun _ _ ⟨v, e, p⟩ => ⟨v, e, SlV.keepC p fun _ _ _ _ e => hc.cell e⟩
theorem EntsV.keepK {w w' : World} {hi : Nat} {v : Value} {l : List EntP} (h : EntsV w hi v l) (hc : Cls w w') : EntsV w' hi v l :=
  SlV.imp (SlV.keepC h fun _ _ _ _ e => hc.cell e) fun _ _ ⟨v, e, p⟩ => ⟨v, e, AttsV.keepK p hc⟩
theorem StrsV.keepK {w w' : World} {hi : Nat} {v : Value} {l : List Bs} (h : StrsV w hi v l) (hc : Cls w w') : StrsV w' hi v l := SlV.keepC h fun _ _ _ _ e => hc.cell e
theorem EntRef.mv {S : Nat → Prop} {w0 w w' : World} {base : Nat} {v : Value} {qs : List (EntP × Value)} (h : EntRef w0 w base v qs) (hm : Mv S w w') (hS : AllMap w S) : EntRef w0 w' base v qs :=
  ⟨own_mv h.1 hm fun k hk => .inr (hS k hk), h.2⟩
theorem EntRef.entsC {w0 w : World} {base : Nat} {v : Value} {qs : List (EntP × Value)} {l : List EntP} (h : EntRef w0 w base v qs) (hl : qs.map (·.1) = l) (hc : Cls w0 w) : EntsV w w.heap.size v l := by
  subst hl
  have h0 := h.1
  rw [show qs.length = (qs.map (·.1)).length by simp] at h0
  refine SlV.own h0 fun i x hx => ?_
  rw [List.getElem?_map] at hx
  obtain ⟨q, hq, rfl⟩ := Option.map_eq_some_iff.1 hx
  obtain ⟨e1, e2⟩ := rowEn_at qs i q hq
  refine ⟨[sv q.1.1, q.2], rfl, ⟨q.2, rfl, AttsV.mono (AttsV.keepK (h.2 q (List.mem_of_getElem? hq)) hc) hc.2⟩, fun j u hj => ?_⟩
  match j, hj with
  | 0, hj => simp at hj; subst hj; exact e1
  | 1, hj => simp at hj; subst hj; exact e2
/-- the second form's bound gives what the small looks ask -/
theorem ge_elen {es : List EntP} (h1 : es.length ≤ 1048576) (h2 : ∀ e ∈ es, GE e 1048576) : ELen es :=
  ⟨by omega, fun e he => ⟨by have := (h2 e he).1; omega, by have := (h2 e he).2.1; omega, fun a ha => by have := ((h2 e he).2.2 a ha).2.1; omega⟩⟩
section
variable {w : World} {hs lo px : Nat} {s : Idn.Sch} {ns : List Bs} {es : List IxE} {ta cb : Value} {eb vb : Nat} {g : Bs → Value} {ts : List (Bs × Nat)} {G : Bs → Bs → Option Nat}
/-- Put, as the laws call it: what turned, what stays -/
theorem put11_any (hI : IxV w hs lo px s ns es ta cb eb vb g ts G) (hG : GdI s ns es) (hlen : es.length < 256) {lo0 : Nat} (hlo : lo0 ≤ hs) (w0 : World) (hb0 : Below lo0 w0 w) (hE : ∀ W, Below lo0 w0 W → Env W ∧ EnvU W) (n : Bs) (hn : n.length ≤ 1000000) (av : Value) (A : List Idn.Att) (hatv : AttsV w w.heap.size av A) (hA7 : Idn.ASm7 A) :
    Calls Tryz.prog 15 #[.pointer (some ⟨px, 0, none⟩), .agg #[.string (B n), av]] w fun e w' => e = .returned (.int .i64 (ixPut es n A).1) ∧ ∃ g' G', IxV w' hs lo px s ns (ixPut es n A).2 ta cb eb vb g' ts G' ∧ GdI s ns (ixPut es n A).2 ∧ Mv (IxS eb ts G) w w' ∧ (∀ k, IxS eb ts G' k → IxS eb ts G k ∨ w.heap.size ≤ k) ∧ Below lo0 w0 w' ∧ Cls w w' := by
  refine (ixPut_any hI hG (fun W hW => hE W (hb0.trans (hW.mono hlo))) n hn av A hatv hA7).mono ?_
  rintro e w' ⟨h1, g', G', h2, h3, h4⟩
  exact ⟨h1, g', G', h2, hG.put hn hlen, h3, h4, hb0.trans ((h3.below hI.lowS hI.hsz).mono hlo), Cls.of_mv h3 hI.allMap⟩
end
/-- two indexes that share no block that turns -/
def Dj (eb vb : Nat) (ts : List (Bs × Nat)) (G : Bs → Bs → Option Nat) (eb' vb' : Nat) (ts' : List (Bs × Nat)) (G' : Bs → Bs → Option Nat) : Prop := (∀ k, IxS eb ts G k → k ≠ vb' ∧ ¬ IxS eb' ts' G' k) ∧ ∀ k, IxS eb' ts' G' k → k ≠ vb
section
variable {w w' : World} {hs lo px : Nat} {s : Idn.Sch} {ns : List Bs} {es : List IxE} {ta cb : Value} {eb vb : Nat} {g : Bs → Value} {ts : List (Bs × Nat)} {G : Bs → Bs → Option Nat} {hs' lo' px' : Nat} {s' : Idn.Sch} {ns' : List Bs} {es' : List IxE} {ta' cb' : Value} {eb' vb' : Nat} {g' : Bs → Value} {ts' : List (Bs × Nat)} {G' G2 : Bs → Bs → Option Nat}
theorem IxV.ltS (h : IxV w hs lo px s ns es ta cb eb vb g ts G) {k : Nat} (hk : IxS eb ts G k) : k < w.heap.size := by
  obtain ⟨es, c, e⟩ := h.allMap k hk
  exact (Array.getElem?_eq_some_iff.1 e).1
theorem Dj.symm (h : Dj eb vb ts G eb' vb' ts' G') : Dj eb' vb' ts' G' eb vb ts G := ⟨fun k hk => ⟨h.2 k hk, fun h' => (h.1 k h').2 hk⟩, fun k hk => (h.1 k hk).1⟩
theorem Dj.turn (h : Dj eb vb ts G eb' vb' ts' G') (hy : IxV w hs' lo' px' s' ns' es' ta' cb' eb' vb' g' ts' G') (hn : ∀ k, IxS eb ts G2 k → IxS eb ts G k ∨ w.heap.size ≤ k) : Dj eb vb ts G2 eb' vb' ts' G' :=
  ⟨fun k hk => by
    rcases hn k hk with h1 | h1
    · exact h.1 k h1
    · exact ⟨fun e => by have := hy.vl.top.lt; omega, fun h2 => by have := hy.ltS h2; omega⟩, h.2⟩
theorem IxV.other (hy : IxV w hs' lo' px' s' ns' es' ta' cb' eb' vb' g' ts' G') (hd : Dj eb vb ts G eb' vb' ts' G') (hm : Mv (IxS eb ts G) w w') (hall : AllMap w (IxS eb ts G)) : IxV w' hs' lo' px' s' ns' es' ta' cb' eb' vb' g' ts' G' :=
  hy.mv hm fun k hk => ⟨(hd.1 k hk).1, (hd.1 k hk).2, .inl (hall k hk)⟩
theorem Dj.of (hx : IxV w hs lo px s ns es ta cb eb vb g ts G) (hy : IxV w' hs' lo' px' s' ns' es' ta' cb' eb' vb' g' ts' G') (hh : w.heap.size ≤ hs') : Dj eb vb ts G eb' vb' ts' G' :=
  ⟨fun k hk => by
    have h1 := hx.ltS hk
    exact ⟨fun e => by have := hy.hsv; omega, fun h2 => by have := hy.lowS k h2; omega⟩, fun k hk => by
    have h1 := hy.lowS k hk
    have h2 := hx.vl.top.lt
    omega⟩
end
end Go.Proofs.YtgjllfonmgfhgaaGreatDoor
/- law11: IndexComplete. -/
namespace Go.Proofs.YtgjllfonmgfhgaaGreatDoor
open Go.RowKit Go.Sort
open Idn (L B Bs drop_L take_L size_L)
set_option maxHeartbeats 16000000 in
set_option maxRecDepth 100000 in
theorem indexComplete_any (sv0 : Value) (s : Idn.Sch) (nv : Value) (ns : List Bs) (ev pv kv : Value) (es : List EntP) (d : Nat) (f : Flt) (w : World) (hS : SchV w w.heap.size sv0 s) (hg : GSch s 1048576) (hN : StrsV w w.heap.size nv ns) (hgn : GS ns 1048576) (hV : EntsV w w.heap.size ev es) (hel : es.length ≤ 1048576) (hee : ∀ e ∈ es, GE e 1048576) (hF : FltV w w.heap.size d (.agg #[.int .i64 f.kind, .string (B f.name), .string (B f.value), pv, kv]) f) (hfg : fG 1048576 f) (hE : Env w) (hU : EnvU w) :
    Calls Tryz.prog 8 #[sv0, nv, .agg #[ev, .int .i64 f.kind, .string (B f.name), .string (B f.value), pv, kv]] w fun e w' => e = .returned (.bool true) ∧ Below w.heap.size w w' := by
  have hEv : ∀ W, Below w.heap.size w W → Env W ∧ EnvU W := fun W hW => ⟨hE.keep hW, hU.keep hW⟩
  have kb := fun W (hW : Below w.heap.size w W) => brief11_any sv0 s W (SchV.mono (SchV.keep hS hW) hW.size) ⟨by have := hg.1.1; omega, by have := hg.2.1; omega⟩
  have ks := fun W (hW : Below w.heap.size w W) => short11_any nv ns W (SlV.mono (SlV.keep hN hW) hW.size) (by have := hgn.1; omega)
  have kr := fun W (hW : Below w.heap.size w W) => ready11_any ev pv kv es d f W (EntsV.mono (EntsV.keep hV hW) hW.size) (ge_elen hel hee) (hF.on hW) (fG_len (by omega) f hfg)
  have ka := fun W (hW : Below w.heap.size w W) => alive11_any W (hE.keep hW) (hU.keep hW)
  have kc := fun (hf : FSm 1000 f) W (hW : Below w.heap.size w W) => fCheck_any d _ f W (hF.on hW) hf
  have kn := fun (hbs : BriefS s) (hsh : ShortL ns) W (hW : Below w.heap.size w W) => ixNew_any sv0 nv s ns W (SchV.mono (SchV.keep hS hW) hW.size) (hg.ssm (by decide)) (by have := hbs.1.1; omega) (by have := hbs.2.1; omega) (fun c hc => by obtain ⟨_, _, q1, q2⟩ := hg.2.2 c hc; exact ⟨by have := q1.1; omega, by have := q2.1; omega⟩) (SlV.mono (SlV.keep hN hW) hW.size) (by have := hsh.1; omega) (fun n hn => by have := hsh.2 n hn; omega)
  have kst := fun (hr : ReadyC es f) W (hW : Below w.heap.size w W) => stored11_any ev es W (EntsV.mono (EntsV.keep hV hW) hW.size) hr.1.1 hr.1.2
  have kM := fun (hf : FSm 1000 f) (nm : Bs) (va : Value) (A : List Idn.Att) (hA : AGet A) W (hW : Below w.heap.size w W) (hva : AttsV W W.heap.size va A) => fMatch_any d sv0 s _ f (B nm) va A W (SchV.mono (SchV.keep hS hW) hW.size) (hg.ssm (by decide)) (hE.keep hW) (hU.keep hW) hva hA (hF.on hW) hf
  have kC := fun (hf : FSm 1000 f) {hs px eb vb : Nat} {ek : List IxE} {ta cb : Value} {g : Bs → Value} {ts : List (Bs × Nat)} {G : Bs → Bs → Option Nat} (hG : GdI s ns ek) W (hI : IxV W hs hs px s ns ek ta cb eb vb g ts G) (hW : Below w.heap.size w W) => cand_any hG d _ f W hI (fun V hV => hEv V (hW.trans (hV.mono hW.size))) (hF.on hW) hf
  obtain ⟨sa, sb, rfl, hT, hC⟩ := hS
  obtain ⟨A1, c1, rfl, _⟩ := SlV.shape hT
  obtain ⟨A2, c2, rfl, _⟩ := SlV.shape hC
  obtain ⟨A0, cn, rfl, _⟩ := SlV.shape hN
  obtain ⟨A3, c3, rfl, _⟩ := SlV.shape hV
  obtain ⟨Ap, cp, Ak, ck, hsh, _, _⟩ := hF.shape
  obtain ⟨rfl, rfl⟩ : pv = .slice Ap f.parts.length cp ∧ kv = .slice Ak f.kids.length ck := by injection hsh with h; simp at h; exact h
  have hssm : SSm s := hg.ssm (by decide)
  have hfs := fun (hr : ReadyC es f) => ready_fsm hr hfg
  clear hsh hT hC hN hF hfg hgn hg hee
  go_enter Tryz.func8, Tryz.ntmps8
  go_upto_region 1 with fail
  with_reducible refine gen2 (R := fun W => Code.wp Tryz.prog _ _ _ W) ?_
  intro W hbW _ hc1 hc2
  have s0 : W.cell? ⟨w.heap.size, 0, none⟩ = some (.slice A1 s.types.length c1) := hc1 0 _ rfl
  have s1 : W.cell? ⟨w.heap.size, 1, none⟩ = some (.slice A2 s.classes.length c2) := hc1 1 _ rfl
  have b0 : W.cell? ⟨w.heap.size + 1, 0, none⟩ = some (.slice A3 es.length c3) := hc2 0 _ rfl
  have b1 : W.cell? ⟨w.heap.size + 1, 1, none⟩ = some (.int .i64 f.kind) := hc2 1 _ rfl
  have b2 : W.cell? ⟨w.heap.size + 1, 2, none⟩ = some (.string (B f.name)) := hc2 2 _ rfl
  have b3 : W.cell? ⟨w.heap.size + 1, 3, none⟩ = some (.string (B f.value)) := hc2 3 _ rfl
  have b4 : W.cell? ⟨w.heap.size + 1, 4, none⟩ = some (.slice Ap f.parts.length cp) := hc2 4 _ rfl
  have b5 : W.cell? ⟨w.heap.size + 1, 5, none⟩ = some (.slice Ak f.kids.length ck) := hc2 5 _ rfl
  clear hc1 hc2
  -- brief
  go_wp2_with fail
  refine (kb W hbW).mono ?_
  rintro e w1 ⟨r1, rfl, hr1, hb1⟩
  have hl1 := Cls.of_below hb1
  replace s0 := hl1.cell s0
  replace s1 := hl1.cell s1
  replace b0 := hl1.cell b0
  replace b1 := hl1.cell b1
  replace b2 := hl1.cell b2
  replace b3 := hl1.cell b3
  replace b4 := hl1.cell b4
  replace b5 := hl1.cell b5
  have hbw1 := hbW.trans (hb1.mono hbW.size)
  have H1 := Lib.hid hr1
  clear kb hb1 hr1 hbW hl1
  cases r1
  case false =>
    clear ks kr kc kn kst kM kC H1 s0 s1 b0 b1 b2 b3 b4 b5
    go_wp2_with fail
    refine (ka w1 hbw1).mono ?_
    rintro e w2 ⟨rfl, hb2⟩
    go_wp2_with fail
    go_ret
    exact ⟨rfl, hbw1.trans (hb2.mono hbw1.size)⟩
  have G1 := Lib.hid (H1.out rfl)
  clear H1
  -- short
  go_wp2_with fail
  refine (ks w1 hbw1).mono ?_
  rintro e w2 ⟨r2, rfl, hr2, hb2⟩
  have hl2 := Cls.of_below hb2
  replace s0 := hl2.cell s0
  replace s1 := hl2.cell s1
  replace b0 := hl2.cell b0
  replace b1 := hl2.cell b1
  replace b2 := hl2.cell b2
  replace b3 := hl2.cell b3
  replace b4 := hl2.cell b4
  replace b5 := hl2.cell b5
  have hbw2 := hbw1.trans (hb2.mono hbw1.size)
  have H2 := Lib.hid hr2
  clear ks hb2 hr2 hbw1 hl2
  cases r2
  case false =>
    clear kr kc kn kst kM kC H2 G1 s0 s1 b0 b1 b2 b3 b4 b5
    go_wp2_with fail
    refine (ka w2 hbw2).mono ?_
    rintro e w3 ⟨rfl, hb3⟩
    go_wp2_with fail
    go_ret
    exact ⟨rfl, hbw2.trans (hb3.mono hbw2.size)⟩
  have G2 := Lib.hid (H2.out rfl)
  clear H2
  -- ready
  go_wp2_with fail
  refine (kr w2 hbw2).mono ?_
  rintro e w3 ⟨r3, rfl, hr3, hb3⟩
  have hl3 := Cls.of_below hb3
  replace s0 := hl3.cell s0
  replace s1 := hl3.cell s1
  replace b0 := hl3.cell b0
  replace b1 := hl3.cell b1
  replace b2 := hl3.cell b2
  replace b3 := hl3.cell b3
  replace b4 := hl3.cell b4
  replace b5 := hl3.cell b5
  have hbw3 := hbw2.trans (hb3.mono hbw2.size)
  have H3 := Lib.hid hr3
  clear kr hb3 hr3 hbw2 hl3
  cases r3
  case false =>
    clear kc kn kst kM kC H3 G1 G2 s0 s1 b0 b1 b2 b3 b4 b5
    go_wp2_with fail
    refine (ka w3 hbw3).mono ?_
    rintro e w4 ⟨rfl, hb4⟩
    go_wp2_with fail
    go_ret
    exact ⟨rfl, hbw3.trans (hb4.mono hbw3.size)⟩
  have G3 := Lib.hid (H3.out rfl)
  have hfsm := hfs G3.out
  replace hfs := Lib.hid hfsm
  replace kc := kc hfsm
  replace kM := kM hfsm
  replace kC := @kC hfsm
  replace kn := kn G1.out G2.out
  replace kst := kst G3.out
  clear H3 hfsm G1 G2
  -- filter.Check
  go_wp2_with fail
  refine (kc w3 hbw3).mono ?_
  rintro e w4 ⟨rfl, hb4⟩
  have hl4 := Cls.of_below hb4
  replace s0 := hl4.cell s0
  replace s1 := hl4.cell s1
  replace b0 := hl4.cell b0
  replace b1 := hl4.cell b1
  replace b2 := hl4.cell b2
  replace b3 := hl4.cell b3
  replace b4 := hl4.cell b4
  replace b5 := hl4.cell b5
  have hbw4 := hbw3.trans (hb4.mono hbw3.size)
  clear kc hb4 hbw3 hl4
  by_cases hck : fCheck f = 0
  case neg =>
    generalize fCheck f = ec at *
    clear kn kst kM kC G3 s0 s1 b0 b1 b2 b3 b4 b5
    go_wp2_with fail
    refine (ka w4 hbw4).mono ?_
    rintro e w5 ⟨rfl, hb5⟩
    go_wp2_with fail
    go_ret
    exact ⟨rfl, hbw4.trans (hb5.mono hbw4.size)⟩
  rw [hck]
  clear hck
  -- New
  go_wp2_with fail
  refine (kn w4 hbw4).mono ?_
  have hGz := fun h => Lib.hid (nwE_zero (s := s) (ns := ns) hssm h)
  rintro e w5 ⟨hb5, ⟨hz, px, eb, vb, hs, ta, cb, ts, rfl, hhs, hI⟩ | ⟨hz, rfl⟩⟩
  case inr =>
    have hbw5 := hbw4.trans (hb5.mono hbw4.size)
    generalize nwE s ns = ec at *
    clear kn kst kM kC G3 s0 s1 b0 b1 b2 b3 b4 b5 hGz
    go_wp2_with fail
    refine (ka w5 hbw5).mono ?_
    rintro e w6 ⟨rfl, hb6⟩
    go_wp2_with fail
    go_ret
    exact ⟨rfl, hbw5.trans (hb6.mono hbw5.size)⟩
  have hG0 := hGz hz
  have hl5 := Cls.of_below hb5
  replace s0 := hl5.cell s0
  replace s1 := hl5.cell s1
  replace b0 := hl5.cell b0
  replace b1 := hl5.cell b1
  replace b2 := hl5.cell b2
  replace b3 := hl5.cell b3
  replace b4 := hl5.cell b4
  replace b5 := hl5.cell b5
  have hbw5 := hbw4.trans (hb5.mono hbw4.size)
  have hhw : w.heap.size ≤ hs := Nat.le_trans hbw4.size hhs
  clear kn hb5 hbw4 hl5 hz hGz hhs
  -- stored
  go_wp2_with fail
  refine (kst w5 hbw5).mono ?_
  rintro e w6 ⟨lv, qs, rfl, hown, hqs, hb6⟩
  obtain ⟨A6, c6, hsh⟩ := own_shape hown.1
  subst hsh
  have hl6 := Cls.of_below hb6
  replace s0 := hl6.cell s0
  replace s1 := hl6.cell s1
  replace b0 := hl6.cell b0
  replace b1 := hl6.cell b1
  replace b2 := hl6.cell b2
  replace b3 := hl6.cell b3
  replace b4 := hl6.cell b4
  replace b5 := hl6.cell b5
  have hbw6 := hbw5.trans (hb6.mono hbw5.size)
  replace hI := hI.keep hb6
  replace hqs := Lib.hid hqs
  have hV6 := EntsV.mono (EntsV.keep hV hbw6) hbw6.size
  have hlE : ∀ (k : Nat) (hk : k < es.length), LightE (B es[k].1) es[k].2 := fun k hk => G3.out.1.2 _ (List.getElem_mem hk)
  have hl10 := Lib.hid G3.out.1.1
  have hL0 : Hid (∀ e ∈ es, LightE (B e.1) e.2) := G3.out.1.2
  clear kst hb6 G3 hV
  -- the puts
  go_wp2_with fail
  go_loopw [10] (fun i wr => ∃ (k : Nat) (ek : List IxE) (g : Bs → Value) (G : Bs → Bs → Option Nat), k ≤ es.length ∧ i = .int .i64 k ∧ IxV wr hs hs px s ns ek ta cb eb vb g ts G ∧ Hid (GdI s ns ek) ∧ ek.length ≤ k ∧ EntRef w5 wr w5.heap.size (.slice A6 qs.length c6) qs ∧ Below w.heap.size w wr ∧ Cls w6 wr ∧ Hid (putsE (es.drop k) ek = putsE es [])) (fun i _ => es.length - (intOf i).toNat)
  case atStart => exact ⟨0, [], _, _, Nat.zero_le _, rfl, hI, hG0, Nat.le_refl _, hown, hbw6, Cls.refl _, rfl⟩
  case round =>
    obtain ⟨k, ek, g, G, hk, rfl, hIk, hGk, hekl, hownk, hbk, hck, hinv⟩ := hrel
    replace b0 := hck.cell b0
    by_cases hlt : k < es.length
    · have hltI : (k : Int) < (es.length : Int) := by omega
      obtain ⟨b, off, va, hA, _, d0, d1, hva⟩ := EntsV.cell (EntsV.mono (EntsV.keepK hV6 hck) hck.2) hlt
      subst hA
      obtain ⟨Av, cv, rfl, _⟩ := SlV.shape hva
      have hli := hlE k hlt
      have hput := put11_any hIk hGk.out (by have := hl10.out; omega) hhw w hbk hEv es[k].1 (by have := hli.1; rw [Idn.size_B] at this; omega) _ es[k].2 hva (light_asm7 hli)
      have hst : Hid (putsE (es.drop (k + 1)) (ixPut ek es[k].1 es[k].2).2 = putsE es []) := by
        show _ = _
        rw [← hinv.out, List.drop_eq_getElem_cons hlt, putsE]
      have hel2 : (ixPut ek es[k].1 es[k].2).2.length ≤ k + 1 := Nat.le_trans (put_len hGk.out.ok _ _) (by omega)
      generalize ixPut ek es[k].1 es[k].2 = r at *
      obtain ⟨ri, re⟩ := r
      dsimp only at hput hst hel2
      generalize es[k] = x at *
      obtain ⟨xn, xa⟩ := x
      dsimp only at d0 d1 hput hva
      clear hinv hli hva kM kC
      go_wp2_with fail
      refine hput.mono ?_
      rintro e w7 ⟨rfl, g', G', hI', hG', hm, _, hb7, hc7⟩
      replace hG' := Lib.hid hG'
      have hall := hIk.allMap
      clear hput hGk
      go_wp2_with fail
      go_roundw
      case rel => exact ⟨k + 1, re, g', G', by omega, by go_num, hI', hG', hel2, hownk.mv hm hall, hb7, hck.trans hc7, hst⟩
      case measure => simp [intOf]; omega
    · have hltI : ¬ (k : Int) < (es.length : Int) := by omega
      have hE0 : ek = putsE es [] := by
        have := hinv.out
        rwa [List.drop_eq_nil_of_le (by omega), putsE] at this
      obtain ⟨hA1, hA2, hA3, hA4⟩ := complete_all (s := s) (idx := ns.map Idn.lower) (l := es) (by have := hl10.out; omega) f hqs.out hE0
      replace hA4 := Lib.hid hA4
      have hLq : Hid (∀ e ∈ qs.map (·.1), AGet e.2) := by
        intro e he
        rw [hqs.out] at he
        rcases stored_sub es [] e he with h | h
        · exact light_aget (hL0.out e h)
        · simp at h
      rw [List.length_map] at hA1 hA2
      replace s0 := hck.cell s0
      replace s1 := hck.cell s1
      replace b1 := hck.cell b1
      replace b2 := hck.cell b2
      replace b3 := hck.cell b3
      replace b4 := hck.cell b4
      replace b5 := hck.cell b5
      have hqb : qs.length ≤ 1048576 := by
        have h1 := stored_len es []
        have h2 : (qs.map (·.1)).length = (storedF es []).length := by rw [hqs.out]
        rw [List.length_map] at h2
        rw [← h2] at h1
        simp at h1
        omega
      have hQ : EntsV wr wr.heap.size (.slice A6 qs.length c6) (qs.map (·.1)) := hownk.entsC rfl (hl6.trans hck)
      have hll : (qs.map (·.1)).length = qs.length := List.length_map _
      generalize hlq : qs.map (·.1) = l at hQ hA4 hLq hll
      clear hlq
      have kC1 := kC hGk.out wr hIk hbk
      clear kC hinv hE0 hqs hl6 hV6 hlE hl10 hL0 hown hownk hI hG0 hekl
      generalize ixCand s (ns.map Idn.lower) ek f = r at *
      obtain ⟨rl, ro⟩ := r
      dsimp only at hA2 hA3 hA4
      go_wp2_with fail
      refine kC1.mono ?_
      rintro e w8 ⟨u, rfl, hou, hb8⟩
      dsimp only at hou
      obtain ⟨A8, c8, hsh⟩ := own_shape hou
      subst hsh
      have hl8 := Cls.of_below hb8
      replace s0 := hl8.cell s0
      replace s1 := hl8.cell s1
      replace b1 := hl8.cell b1
      replace b2 := hl8.cell b2
      replace b3 := hl8.cell b3
      replace b4 := hl8.cell b4
      replace b5 := hl8.cell b5
      have hU8 : StrsV w8 w8.heap.size (.slice A8 rl.length c8) rl := StrsV.of_own hou
      have hQ8 := EntsV.mono (EntsV.keep hQ hb8) hb8.size
      have hbw8 := hbk.trans (hb8.mono hbk.size)
      have hLn := ixLen_any (hIk.keep hb8) hGk.out
      rw [hA1] at hLn
      have hA2' : ¬ (qs.length : Int) < (rl.length : Int) := by omega
      clear kC1 hou hl8 hQ hIk hGk hb8 hbk hck b0
      go_wp2_with fail
      refine hLn.mono ?_
      rintro e _ ⟨rfl, rfl⟩
      clear hLn hA1
      cases ro with
      | false =>
        have hA3' : ¬ (0 : Int) < (rl.length : Int) := by have := hA3 rfl; omega
        clear hA3 hA4 kM
        go_wp2_with fail
        go_loopw [13] (fun i wr => wr = w8) (fun i _ => 0)
        case atStart => rfl
        case round =>
          subst hrel
          go_wp2_with fail
          refine (ka _ hbw8).mono ?_
          rintro e w9 ⟨rfl, hb9⟩
          go_wp2_with fail
          go_ret
          exact ⟨rfl, hbw8.trans (hb9.mono hbw8.size)⟩
      | true =>
        have hA5 := Lib.hid (hA4.out rfl)
        clear hA3 hA4
        go_wp2_with fail
        go_loopw [13] (fun i wr => ∃ k : Nat, k ≤ qs.length ∧ i = .int .i64 k ∧ Below w8.heap.size w8 wr) (fun i _ => qs.length - (intOf i).toNat)
        case atStart => exact ⟨0, Nat.zero_le _, rfl, Below.refl _ _⟩
        case round =>
          obtain ⟨j, hj, rfl, hb9⟩ := hrel
          have hbw9 := hbw8.trans (hb9.mono hbw8.size)
          by_cases hlt2 : j < qs.length
          · have hltJ : (j : Int) < (qs.length : Int) := by omega
            have hjm : j < l.length := by omega
            obtain ⟨b, off, va, hA, _, d0, d1, hva⟩ := EntsV.cell (EntsV.mono (EntsV.keep hQ8 hb9) hb9.size) hjm
            subst hA
            have hag := hLq.out _ (List.getElem_mem hjm)
            have hcn := fun h => Lib.hid (hA5.out _ (List.getElem_mem hjm) h)
            have hkc := fun W (hW : Below wr.heap.size wr W) => contains11_any _ rl l[j].1 W (SlV.mono (SlV.keep hU8 (hb9.trans (hW.mono hb9.size))) (hb9.trans (hW.mono hb9.size)).size) (by omega)
            generalize l[j] = x at *
            obtain ⟨xn, xa⟩ := x
            dsimp only at d0 d1 hva hag hcn hkc
            obtain ⟨Av, cv, rfl, _⟩ := SlV.shape hva
            have q1 := cq (W := wr) fun V hV => kM xn _ xa hag V (hbw9.trans (hV.mono hbw9.size)) (AttsV.mono (AttsV.keep hva hV) hV.size)
            have q2 := cq (W := wr) hkc
            have i0 := cell_regrown (cell_later hb9 s0)
            have i1 := cell_regrown (cell_later hb9 s1)
            have i2 := cell_regrown (cell_later hb9 b1)
            have i3 := cell_regrown (cell_later hb9 b2)
            have i4 := cell_regrown (cell_later hb9 b3)
            have i5 := cell_regrown (cell_later hb9 b4)
            have i6 := cell_regrown (cell_later hb9 b5)
            have i7 := cell_regrown d0
            have i8 := cell_regrown d1
            generalize fMatch s xa f = m at *
            clear hkc hag hva kM d0 d1 s0 s1 b1 b2 b3 b4 b5 hQ8 hU8 hA5 hLq
            cases m with
            | false =>
              clear q2 hcn
              go_wp2_with fail
              refine wp_region_quiet_below (by kernel_rfl) (by kernel_rfl) ?_
              repeat (first | go_big_quiet_step ((go_at_call 38; exact q1 _ _)) | quiet_step ((go_at_call 38; exact q1 _ _)))
              refine wpQuiet_nil ?_
              intro _ hw'
              obtain ⟨⟨dq, osq⟩, hw''⟩ := hw'
              subst hw''
              have hb4 := below_regrown wr dq osq
              generalize grow (redrawn wr dq) osq = W4 at hb4 ⊢
              go_wp2_with fail
              go_roundw
              case rel => exact ⟨j + 1, by omega, by go_num, hb9.trans (hb4.mono hb9.size)⟩
              case measure => simp [intOf]; omega
            | true =>
              have hcx := (hcn rfl).out
              rw [hcx] at q2
              clear hcn hcx
              go_wp2_with fail
              refine wp_region_quiet_below (by kernel_rfl) (by kernel_rfl) ?_
              repeat (first | go_big_quiet_step ((first | (go_at_call 38; exact q1 _ _) | (go_at_call 30; exact q2 _ _))) | quiet_step ((first | (go_at_call 38; exact q1 _ _) | (go_at_call 30; exact q2 _ _))))
              refine wpQuiet_nil ?_
              intro _ hw'
              obtain ⟨⟨dq, osq⟩, hw''⟩ := hw'
              subst hw''
              have hb4 := below_regrown wr dq osq
              generalize grow (redrawn wr dq) osq = W4 at hb4 ⊢
              go_wp2_with fail
              go_roundw
              case rel => exact ⟨j + 1, by omega, by go_num, hb9.trans (hb4.mono hb9.size)⟩
              case measure => simp [intOf]; omega
          · have hltJ : ¬ (j : Int) < (qs.length : Int) := by omega
            clear kM hQ8 hU8 hA5 hLq s0 s1 b1 b2 b3 b4 b5
            go_wp2_with fail
            refine (ka wr hbw9).mono ?_
            rintro e w9 ⟨rfl, hb10⟩
            go_wp2_with fail
            go_ret
            exact ⟨rfl, hbw9.trans (hb10.mono hbw9.size)⟩
end Go.Proofs.YtgjllfonmgfhgaaGreatDoor
/- IndexComplete: the contract as the row asks it, the statement, the card. -/
namespace Go.Proofs.YtgjllfonmgfhgaaGreatDoor
open Go.RowKit Go.Sort Go.Shelf Go.ChangeShapes Go.WideShapes Go.ChangeAt Go.ChangeMaps
theorem laid_eqIC : Rows.indexCompleteUptoRow.laid = laidL := by
  unfold laidL
  rw [← pow_eq, ← acc_eq, ← first_eq, ← case_eq]
  rfl
set_option maxRecDepth 100000 in
theorem cIC_contract (F : Stop.Interp) (H : Type) (enc : TypeId × Value → H) (W : World) (base : Nat) (args : Array Value) (ds gs : List (DataW H)) (before : List MemPlace)
    (hval : ∀ (j : Nat) t v, Tryz.f8.params[j]? = some t → args[j]? = some v → Value.okWide Tryz.prog W .any base t v)
    (hW : DataW.Whole enc Tryz.prog Tryz.f8.params.toList Rows.indexCompleteSpec.vars false W args.toList ds gs before) (hL : laidMet Tryz.prog laidL W) (hsh : W.ShapedOpen Tryz.prog) (hk : Rows.uptoSmall H (ds ++ gs) = true) :
    Calls Tryz.prog 8 args W fun e W' => ∃ v, e = .returned v ∧ ((Rows.OpenSpec.upto Rows.indexCompleteSpec).at F).post enc Tryz.prog Tryz.f8 false true false false W args v W' := by
  have hW' := hW
  obtain ⟨p, q, hA0, hV0, rfl, _, _⟩ := hW
  have hA : DataW.TrodAll enc Tryz.prog W 0 (fun _ => true) true Tryz.f8.params.toList args.toList ds p := hA0
  rw [Tryz.params8] at hA hval
  obtain ⟨v0, v1, v2, d0, d1, d2, p0, p1, p2, rfl, rfl, rfl, h0, h1, h2⟩ := trodAll_three hA
  obtain ⟨rfl, rfl⟩ := trodVars_none hV0
  have hB := bk_bound hk
  have hb0 := hB d0 (by simp)
  have hb1 := hB d1 (by simp)
  have hb2 := hB d2 (by simp)
  obtain ⟨s0, hS0, hg0⟩ := schema_openB (hval 0 25 v0 rfl rfl) h0
  obtain ⟨l1, hL1, hg1⟩ := strings_openB (hval 1 26 v1 rfl rfl) h1
  obtain ⟨ev2, pv2, kv2, es2, m2, f2, rfl, hL2, hc2, hF2, hf2⟩ := case_openB (hval 2 58 v2 rfl rfl) h2
  clear hA0 hV0 hval
  simp only [List.append_nil, List.append_assoc] at hW'
  have hlt : ∀ x ∈ p0 ++ (p1 ++ p2), x.block < W.heap.size := fun x hx => by simpa using hW'.lt x (by simpa using hx)
  obtain ⟨hE, hU⟩ := env_of hL hsh
  refine (indexComplete_any v0 s0 v1 l1 ev2 pv2 kv2 es2 m2 f2 W hS0 (hg0.mono hb0) hL1 (hg1.mono hb1) hL2 (Nat.le_trans hc2.1 hb2) (fun e he => (hc2.2 e he).mono hb2) hF2 (fG_mono hb2 f2 hf2) hE hU).mono ?_
  rintro e W' ⟨rfl, bel⟩
  have e1 : ((Rows.OpenSpec.upto Rows.indexCompleteSpec).at F).fn H ([d0, d1, d2] ++ []) = { results := [.lit (.bool true)], args := [d0, d1, d2] } := rfl
  refine ⟨_, rfl, _, _, _, [], (p0 ++ (p1 ++ p2)), [], hW', ?_, ?_, ?_, bel.frame _, fun h => by cases h⟩
  · rw [e1]; exact trodAll_mk1 (shut_bool Tryz.underlying4 _)
  · rw [e1]; exact trodAll_mk3 (Below.trod laidOut (by kernel_rfl) (of_decide_eq_true (by kernel_rfl)) h0 bel (fun x hx => hlt x (List.mem_append_left _ hx))) (Below.trod laidOut (by kernel_rfl) (of_decide_eq_true (by kernel_rfl)) h1 bel (fun x hx => hlt x (List.mem_append_right _ (List.mem_append_left _ hx)))) (Below.trod laidOut (by kernel_rfl) (of_decide_eq_true (by kernel_rfl)) h2 bel (fun x hx => hlt x (List.mem_append_right _ (List.mem_append_right _ hx))))
  · rw [e1]; rfl
theorem noHandleIC {W : World} (h : laidMetH Tryz.prog Rows.indexCompleteUptoRow.laid W) : laidMet Tryz.prog laidL W := by
  have e : (Rows.indexCompleteUptoRow.laid.filter fun x => x.2.handleName?.isSome) = [] := by kernel_rfl
  unfold laidMetH at h
  rw [e] at h
  rw [← laid_eqIC]
  exact h
theorem laid_metIC (os : Os) (args : Array Value) : laidMet Tryz.prog Rows.indexCompleteUptoRow.laid ((laidWorld os).forCall (fun _ _ => 0) ⟨#[], args, []⟩).memory := by
  rw [laid_eqIC]
  exact laid_metW os args
theorem witness_rowIC (os : Os) {H : Type} (enc : TypeId × Value → H) :
    (Rows.OpenSpec.upto Rows.indexCompleteSpec).preRow enc Tryz.prog Tryz.f8 Rows.indexCompleteUptoRow.domain false Rows.indexCompleteUptoRow.laid ((laidWorld os).forCall (fun _ _ => 0) ⟨#[], #[.agg #[.slice none 0 0, .slice none 0 0], .slice none 0 0, .agg #[.slice none 0 0, .int .i64 0, .string ⟨#[]⟩, .string ⟨#[]⟩, .slice none 0 0, .slice none 0 0]], []⟩).memory #[.agg #[.slice none 0 0, .slice none 0 0], .slice none 0 0, .agg #[.slice none 0 0, .int .i64 0, .string ⟨#[]⟩, .string ⟨#[]⟩, .slice none 0 0, .slice none 0 0]] := by
  have hw : (DataW.whole enc Tryz.prog ((laidWorld os).forCall (fun _ _ => 0) ⟨#[], #[.agg #[.slice none 0 0, .slice none 0 0], .slice none 0 0, .agg #[.slice none 0 0, .int .i64 0, .string ⟨#[]⟩, .string ⟨#[]⟩, .slice none 0 0, .slice none 0 0]], []⟩).memory Tryz.f8.params.toList (Rows.OpenSpec.upto Rows.indexCompleteSpec).vars false #[Value.agg #[.slice none 0 0, .slice none 0 0], .slice none 0 0, .agg #[.slice none 0 0, .int .i64 0, .string ⟨#[]⟩, .string ⟨#[]⟩, .slice none 0 0, .slice none 0 0]].toList 8).map (fun x => (x.1, x.2.1)) =
      some ([.agg [.nil, .nil], .nil, .agg [.nil, .agg [.lit (.int .i64 0), .lit (.string []), .lit (.string []), .nil, .nil]]], []) := by kernel_rfl
  obtain ⟨⟨x1, x2, x3⟩, hx, hx1⟩ := Option.map_eq_some_iff.1 hw
  simp only [Prod.mk.injEq] at hx1
  obtain ⟨rfl, rfl⟩ := hx1
  exact OpenSpec.preRow_of_cond 8 hx (by kernel_rfl) (fun k hk => by cases hk; kernel_rfl) (by kernel_rfl) (laid_metIC os _)
set_option maxRecDepth 100000 in
theorem liftedIC (os : Os) (started : os.Started) (H : Type) (enc : TypeId × Value → H) (F : Stop.Interp) :
    ReturnsInHanded {} Tryz.checked os 8 .any ((Rows.OpenSpec.upto Rows.indexCompleteSpec).preRow enc Tryz.prog Tryz.f8 Rows.indexCompleteUptoRow.domain false Rows.indexCompleteUptoRow.laid) (((Rows.OpenSpec.upto Rows.indexCompleteSpec).at F).post enc Tryz.prog Tryz.f8 false true false false) := by
  refine returnsInHanded_of_row (C := Tryz.checked) (s := (Rows.OpenSpec.upto Rows.indexCompleteSpec)) own started (by kernel_rfl) Tryz.func8
    (witness_row_atRef (enc := enc) (C := Tryz.checked) false (laidWorld os) #[.agg #[.slice none 0 0, .slice none 0 0], .slice none 0 0, .agg #[.slice none 0 0, .int .i64 0, .string ⟨#[]⟩, .string ⟨#[]⟩, .slice none 0 0, .slice none 0 0]] rfl (by kernel_rfl) (by kernel_rfl) (by kernel_rfl) (witness_rowIC os enc)) ?_
  intro W base args ds gs before hval hW _ hcond _ hL hsh _
  exact cIC_contract F H enc W base args ds gs before hval hW (noHandleIC hL) hsh (hcond _ rfl)
end Go.Proofs.YtgjllfonmgfhgaaGreatDoor
/- IndexComplete: the statement. -/
namespace Go.Proofs.YtgjllfonmgfhgaaGreatDoor
open Go.RowKit Go.Sort Go.Shelf Go.ChangeShapes Go.WideShapes Go.ChangeAt Go.ChangeMaps
set_option maxHeartbeats 8000000 in
theorem closedIC : joinedFacts Tryz.pinned.checked.prog 8 Tryz.f8 (Rows.OpenSpec.upto Rows.indexCompleteSpec).bare Rows.indexCompleteUptoRow = true := by
  unfold joinedFacts
  simp only [Bool.and_eq_true]
  repeat' with_reducible apply And.intro
  all_goals (as_aux_lemma => kernel_rfl)
theorem saidIC : Rows.IndexCompleteUptoSaid :=
  OpenClaim.holds_of_cond 8 Tryz.f8 rfl rfl rfl rfl rfl rfl rfl ⟨rfl, rfl, rfl, rfl, rfl⟩ rfl rfl rfl rfl rfl (by kernel_rfl) Tryz.func8 closedIC
    (of_decide_eq_true (by kernel_rfl)) (by unfold Func.isWrapper; first | (rw [if_pos (by decide +kernel)]; kernel_rfl) | (rw [if_neg (by decide +kernel)]; exact ⟨rfl, rfl⟩))
    (fun os started H enc _ F => by rw [OpenClaim.pre_eq_preRow]; exact liftedIC os started H enc F)
end Go.Proofs.YtgjllfonmgfhgaaGreatDoor
/- IndexComplete: the card. -/
namespace Go.Proofs.YtgjllfonmgfhgaaGreatDoor
open Go.RowKit Go.Sort Go.Shelf Go.ChangeShapes Go.WideShapes Go.ChangeAt Go.ChangeMaps
theorem plainIC (f : FuncId) (fn : Func) (hf : Tryz.pinned.checked.prog.funcNamed "identity/identitylaw11.IndexComplete" = some f) (hfn : Tryz.pinned.checked.prog.funcs[f]? = some fn) :
    true = Tryz.pinned.checked.prog.looks [] ∧ ∀ (j : Nat) t, fn.params[j]? = some t → Tryz.pinned.checked.prog.wantsStandIn t = false := by
  obtain rfl : f = 8 := Option.some.inj ((show Tryz.prog.funcNamed "identity/identitylaw11.IndexComplete" = some 8 by kernel_rfl).symm.trans hf) |>.symm
  obtain rfl : fn = Tryz.f8 := (Option.some.inj (Tryz.func8.symm.trans hfn)).symm
  refine ⟨by kernel_rfl, fun j t ht => ?_⟩
  rw [Tryz.params8] at ht
  have hm := Array.mem_of_getElem? ht
  simp at hm
  rcases hm with rfl | rfl | rfl
  · exact (show Tryz.prog.wantsStandIn 25 = false by kernel_rfl)
  · exact (show Tryz.prog.wantsStandIn 26 = false by kernel_rfl)
  · exact (show Tryz.prog.wantsStandIn 58 = false by kernel_rfl)
theorem indexComplete_card : Rows.IndexCompleteUptoCardSaid :=
  Claim7.holds_tied_plain_at .later [] _ _ _ _ saidIC (fun _ h => by cases h) (by kernel_rfl) (fun _ h => by cases h) indexCompleteUpto_row_tie rfl ⟨rfl, rfl⟩ (by kernel_rfl) rfl plainIC (by kernel_rfl)
#print axioms indexComplete_card
end Go.Proofs.YtgjllfonmgfhgaaGreatDoor
