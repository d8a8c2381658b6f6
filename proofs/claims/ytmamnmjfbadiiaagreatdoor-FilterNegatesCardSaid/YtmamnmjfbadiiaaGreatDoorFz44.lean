/- Part 44 of the proof that the statements of identitylaw09 on matching hold at all arguments: the package variables hold what the program lays; nothing else is asked. -/
import Derived.Test.YtmamnmjfbadiiaaGreatDoorFz32
import Derived.Test.YtmamnmjfbadiiaaGreatDoorFz39
import Derived.Test.YtmamnmjfbadiiaaGreatDoorFz43
set_option linter.unusedVariables false
set_option linter.unusedSimpArgs false
set_option maxRecDepth 100000
set_option maxHeartbeats 16000000
/- What the rows of identitylaw08 share: entries, strings handed over. -/
namespace Go.Proofs.YtmamnmjfbadiiaaGreatDoor
open Go.RowKit Go.Sort Go.ChangeShapes Go.WideShapes Go.ChangeAt
open Idn (L B Bs)
section
variable {H : Type} {enc : TypeId × Value → H} {W : World}
theorem entry_open8 {r : Reach} {b0 : Nat} {v : Value} {d : DataW H} {p : List MemPlace} (hv : Value.okWide Tryz.prog W r b0 44 v) (h : DataW.Trod enc Tryz.prog W 0 (fun _ => true) true 44 v d p) : ∃ n a l, v = .agg #[.string n, a] ∧ AttsV W W.heap.size a l ∧ ALen8 l ∧ n.size ≤ 9223372036854775807 := by
 obtain ⟨v0, v1, y0, y1, n, rfl, _, _, h0, h1⟩ := Go.Joins.open_agg2 Tryz.underlying44 (by kernel_rfl) (by kernel_rfl) hv h
 obtain ⟨s, e0, _, hs⟩ := DataW.trod_string Tryz.underlying9 h0
 simp only [List.cons.injEq, and_true] at e0
 subst e0
 obtain ⟨l, a1, a2⟩ := atts_open h1
 exact ⟨s, v1, l, rfl, a1, a2, by unfold maxLen at hs; omega⟩
end
end Go.Proofs.YtmamnmjfbadiiaaGreatDoor
/- What the rows of identitylaw09 share: a filter handed over. -/
namespace Go.Proofs.YtmamnmjfbadiiaaGreatDoor
open Go.RowKit Go.Sort Go.ChangeShapes Go.WideShapes Go.ChangeAt
open Idn (L B Bs)
section
variable {H : Type} {enc : TypeId × Value → H} {W : World}
theorem filter_open {r : Reach} {b0 : Nat} {v : Value} {d : DataW H} {p : List MemPlace} (hv : Value.okWide Tryz.prog W r b0 26 v) (h : DataW.Trod enc Tryz.prog W 0 (fun _ => true) true 26 v d p) : ∃ n f, FltV W W.heap.size n v f ∧ fLen f := by
  obtain ⟨cs, rfl, hsz⟩ := okWide_struct Tryz.underlying26 hv
  obtain ⟨fuel, hf⟩ := h
  obtain ⟨f, hl, hc, hln⟩ := flt_open fuel cs.toList _ (by simpa [Value.cells] using hf)
  cases fuel with
  | zero => exact hc.elim
  | succ n =>
    obtain ⟨pv, kv, e, hp, hk⟩ := hc
    refine ⟨n, f, ⟨pv, kv, ?_, hp, hk⟩, hln⟩
    rw [← Array.toArray_toList (xs := cs), e]
    rfl
end
end Go.Proofs.YtmamnmjfbadiiaaGreatDoor
/- law09: wide, rich. -/
namespace Go.Proofs.YtmamnmjfbadiiaaGreatDoor
open Go.RowKit Go.Sort
open Idn (L B Bs drop_L take_L size_L)
def Wcl (c : Idn.Cl) : Prop := c.name.length ≤ 300 ∧ c.super.length ≤ 300 ∧ (c.must.length ≤ 20 ∧ ∀ x ∈ c.must, x.length ≤ 300) ∧ (c.may.length ≤ 20 ∧ ∀ x ∈ c.may, x.length ≤ 300)
theorem ssm_wide {s : Idn.Sch} (h1 : s.types.length ≤ 20) (h2 : s.classes.length ≤ 12) (h3 : ∀ t ∈ s.types, t.name.length ≤ 300) (h4 : ∀ c ∈ s.classes, Wcl c) : SSm s := by
 refine ⟨⟨by omega, fun t ht => by have := h3 t ht; omega⟩, by omega, fun c hc => ?_⟩
 obtain ⟨a, b, ⟨c1, c2⟩, d1, d2⟩ := h4 c hc
 exact ⟨by omega, by omega, ⟨by omega, fun x hx => by have := c2 x hx; omega⟩, by omega, fun x hx => by have := d2 x hx; omega⟩
theorem take_all {α : Type} {P : α → Prop} {l : List α} {k : Nat} (h : ∀ x ∈ l.take k, P x) (hk : k < l.length) (hx : P l[k]) : ∀ x ∈ l.take (k + 1), P x := fun x hm => by
 rw [List.take_succ_eq_append_getElem hk] at hm
 rcases List.mem_append.1 hm with hm | hm
 ·exact h x hm
 ·rw [List.mem_singleton] at hm
  exact hm ▸ hx
theorem wide_any (v : Value) (s : Idn.Sch) (w : World) (hv : SchV w w.heap.size v s) (hl : SLen s) : Calls Tryz.prog 20 #[v] w (RetN (SSm s) w) := by
 obtain ⟨ht, hc, hm⟩ := hl
 obtain ⟨a, b, rfl, hT, hC⟩ := hv
 obtain ⟨A, ca, rfl, hca⟩ := SlV.shape hT
 obtain ⟨A', cb, rfl, hcb⟩ := SlV.shape hC
 have hS := ssm_wide (s := s)
 generalize SSm s = Goal at *
 go_enter Tryz.func20, Tryz.ntmps20
 go_upto_region 1 with fail
 with_reducible refine gen1 (R := fun W => Code.wp Tryz.prog _ _ _ W) ?_
 intro W hbW hszW hc1 _
 have b0 : W.cell? ⟨w.heap.size, 0, none⟩ = some (.slice A s.types.length ca) := hc1 0 _ rfl
 have b1 : W.cell? ⟨w.heap.size, 1, none⟩ = some (.slice A' s.classes.length cb) := hc1 1 _ rfl
 clear hc1 hszW
 by_cases h1 : s.types.length ≤ 20
 case neg =>
  have hI : (20 : Int) < (s.types.length : Int) := by omega
  clear hS
  go_wp2_with fail
  go_ret
  exact ⟨true, rfl, nofun, hbW⟩
 have hI : ¬ (20 : Int) < (s.types.length : Int) := by omega
 by_cases h2 : s.classes.length ≤ 12
 case neg =>
  have hJ : (12 : Int) < (s.classes.length : Int) := by omega
  clear hS
  go_wp2_with fail
  go_ret
  exact ⟨true, rfl, nofun, hbW⟩
 have hJ : ¬ (12 : Int) < (s.classes.length : Int) := by omega
 have HS : Hid ((∀ t ∈ s.types, t.name.length ≤ 300) → (∀ c ∈ s.classes, Wcl c) → Goal) := hS h1 h2
 clear hS
 go_wp2_with fail
 go_loopw [19] (fun i wr => ∃ k : Nat, k ≤ s.types.length ∧ i = .int .i64 k ∧ Below W.heap.size W wr ∧ Hid (∀ t ∈ s.types.take k, t.name.length ≤ 300)) (fun i _ => s.types.length - (intOf i).toNat)
 case atStart => exact ⟨0, Nat.zero_le _, rfl, Below.refl _ _, fun t ht => by simp at ht⟩
 case round =>
  obtain ⟨k, hk, rfl, hb, hinv⟩ := hrel
  replace b0 := cell_later hb b0
  replace b1 := cell_later hb b1
  have hbw := hbW.trans (hb.mono hbW.size)
  by_cases hlt : k < s.types.length
  ·obtain ⟨b, off, hA, hbl, c0, _, _⟩ := TypesV.cell (SlV.keep hT hbw) hlt
   subst hA
   have hltI : (k : Int) < (s.types.length : Int) := by omega
   have hsz := Idn.size_B s.types[k].name
   by_cases he : s.types[k].name.length ≤ 300
   ·have HF : Hid (∀ t ∈ s.types.take (k + 1), t.name.length ≤ 300) := take_all hinv.out hlt he
    have hg : ¬ (300 : Int) < ((B s.types[k].name).size : Int) := by omega
    clear hsz he hinv
    go_wp2_with fail
    go_roundw
    case rel => exact ⟨k + 1, by omega, by go_num, hb, HF⟩
    case measure => simp [intOf]; omega
   ·have hg : (300 : Int) < ((B s.types[k].name).size : Int) := by omega
    clear hsz he hinv
    go_wp2_with fail
    go_ret
    exact ⟨true, rfl, nofun, hbw⟩
  ·have hltI : ¬ (k : Int) < (s.types.length : Int) := by omega
   have HT : Hid (∀ t ∈ s.types, t.name.length ≤ 300) := by
    have h := hinv.out
    rwa [List.take_of_length_le (by omega)] at h
   clear hinv
   obtain ⟨W1, hW1⟩ : ∃ W1 : World, W1 = wr := ⟨_, rfl⟩
   subst hW1
   go_wp2_with fail
   clear hltI hlt hk
   go_loopw [34] (fun i wr => ∃ k : Nat, k ≤ s.classes.length ∧ i = .int .i64 k ∧ Below W1.heap.size W1 wr ∧ Hid (∀ c ∈ s.classes.take k, Wcl c)) (fun i _ => s.classes.length - (intOf i).toNat)
   case atStart => exact ⟨0, Nat.zero_le _, rfl, Below.refl _ _, fun t ht => by simp at ht⟩
   case round =>
    obtain ⟨k, hk, rfl, hb2, hinv⟩ := hrel
    replace b0 := cell_later hb2 b0
    replace b1 := cell_later hb2 b1
    have hbr := hbw.trans (hb2.mono hbw.size)
    by_cases hlt : k < s.classes.length
    ·obtain ⟨b, off, vm, vn, hA, hbl, c0, c1, c2, c3, hm', hn'⟩ := ClassesV.cell (ClassesV.keep hC hbr) hlt
     subst hA
     obtain ⟨Am, cm, rfl, hcm⟩ := SlV.shape hm'
     obtain ⟨An, cn, rfl, hcn⟩ := SlV.shape hn'
     obtain ⟨hx1, hx2⟩ := hm s.classes[k] (List.getElem_mem hlt)
     have hltI : (k : Int) < (s.classes.length : Int) := by omega
     go_upto_region 13 with fail
     with_reducible refine gen1 (R := fun W => Code.wp Tryz.prog _ _ _ W) ?_
     intro W5 hbW5 hsz5 hc5 _
     have d0 : W5.cell? ⟨wr.heap.size, 0, none⟩ = some (.string (B s.classes[k].name)) := hc5 0 _ rfl
     have d1 : W5.cell? ⟨wr.heap.size, 1, none⟩ = some (.string (B s.classes[k].super)) := hc5 1 _ rfl
     have d2 : W5.cell? ⟨wr.heap.size, 2, none⟩ = some (.slice Am s.classes[k].must.length cm) := hc5 2 _ rfl
     have d3 : W5.cell? ⟨wr.heap.size, 3, none⟩ = some (.slice An s.classes[k].may.length cn) := hc5 3 _ rfl
     have hb5 := hb2.trans (hbW5.mono hb2.size)
     have hbw5 := hbr.trans (hbW5.mono hbr.size)
     have hSm := r2_Great_any _ s.classes[k].must 20 300 W5 (SlV.mono (SlV.keep hm' (hbW5.mono hbr.size)) hbw5.size) hx1 (by decide) (by decide)
     have hSn := fun W' (hW' : Below W5.heap.size W5 W') => r2_Great_any _ s.classes[k].may 20 300 W' (SlV.mono (SlV.keep hn' ((hbW5.trans (hW'.mono hbW5.size)).mono hbr.size)) (hbw5.trans (hW'.mono hbw5.size)).size) hx2 (by decide) (by decide)
     have hz1 := Idn.size_B s.classes[k].name
     have hz2 := Idn.size_B s.classes[k].super
     clear hc5 hsz5 c0 c1 c2 c3 hm' hn'
     by_cases n1 : s.classes[k].name.length ≤ 300
     case neg =>
      have g1 : (300 : Int) < ((B s.classes[k].name).size : Int) := by omega
      clear hinv hSm hSn
      go_wp2_with fail
      go_ret
      exact ⟨true, rfl, nofun, hbw5⟩
     have g1 : ¬ (300 : Int) < ((B s.classes[k].name).size : Int) := by omega
     by_cases n2 : s.classes[k].super.length ≤ 300
     case neg =>
      have g2 : (300 : Int) < ((B s.classes[k].super).size : Int) := by omega
      clear hinv hSm hSn
      go_wp2_with fail
      go_ret
      exact ⟨true, rfl, nofun, hbw5⟩
     have g2 : ¬ (300 : Int) < ((B s.classes[k].super).size : Int) := by omega
     go_wp2_with fail
     refine hSm.mono ?_
     rintro e w6 ⟨r6, rfl, hr6, hb6⟩
     have H6 := Lib.hid hr6
     replace d3 := cell_later hb6 d3
     have hS6 := hSn w6 hb6
     have hb56 := hb5.trans (hb6.mono hb5.size)
     have hbw6 := hbw5.trans (hb6.mono hbw5.size)
     clear hSm hSn hr6 d0 d1 d2
     cases r6
     case true =>
      clear hinv H6 hS6
      go_wp2_with fail
      go_ret
      exact ⟨true, rfl, nofun, hbw6⟩
     have G6 := Lib.hid (H6.out rfl)
     clear H6
     go_wp2_with fail
     refine hS6.mono ?_
     rintro e w7 ⟨r7, rfl, hr7, hb7⟩
     have H7 := Lib.hid hr7
     have hb57 := hb56.trans (hb7.mono hb56.size)
     have hbw7 := hbw6.trans (hb7.mono hbw6.size)
     clear hS6 hr7 d3
     cases r7
     case true =>
      clear hinv H7 G6
      go_wp2_with fail
      go_ret
      exact ⟨true, rfl, nofun, hbw7⟩
     have G7 := Lib.hid (H7.out rfl)
     clear H7
     have HF : Hid (∀ c ∈ s.classes.take (k + 1), Wcl c) := take_all hinv.out hlt ⟨n1, n2, G6.out, G7.out⟩
     clear hinv G6 G7 n1 n2 hz1 hz2 g1 g2
     go_wp2_with fail
     go_roundw
     case rel => exact ⟨k + 1, by omega, by go_num, hb57, HF⟩
     case measure => simp [intOf]; omega
    ·have hltI : ¬ (k : Int) < (s.classes.length : Int) := by omega
     have HF : Hid Goal := HS.out HT.out (by
      have h := hinv.out
      rwa [List.take_of_length_le (by omega)] at h)
     clear hinv HS HT
     go_wp2_with fail
     go_ret
     exact ⟨false, rfl, fun _ => HF.out, hbr⟩
def Wat (a : Idn.Att) : Prop := a.name.length ≤ 300 ∧ a.vals.length ≤ 20 ∧ ∀ x ∈ a.vals, x.length ≤ 300
theorem aget_rich {A : List Idn.Att} (h1 : A.length ≤ 20) (h2 : ∀ a ∈ A, Wat a) : AGet A := by
 refine aget_of ⟨by omega, fun a ha => ?_⟩ fun a ha x hx => ?_
 ·obtain ⟨q1, q2, q3⟩ := h2 a ha
  exact ⟨by omega, by omega, fun x hx => by have := q3 x hx; omega⟩
 ·have := (h2 a ha).2.2 x hx; omega
theorem rich_any (n : ByteArray) (a : Value) (l : List Idn.Att) (w : World) (hA : AttsV w w.heap.size a l) (hl : ALen8 l) (hn : n.size ≤ 9223372036854775807) : Calls Tryz.prog 21 #[.agg #[.string n, a]] w (RetN (AGet l) w) := by
 obtain ⟨A, c, rfl, hc⟩ := SlV.shape hA
 obtain ⟨hl1, hl2⟩ := hl
 have hG := aget_rich (A := l)
 generalize AGet l = Goal at *
 go_enter Tryz.func21, Tryz.ntmps21
 go_upto_region 1 with fail
 with_reducible refine gen1 (R := fun W => Code.wp Tryz.prog _ _ _ W) ?_
 intro W hbW hszW hc1 _
 have b0 : W.cell? ⟨w.heap.size, 0, none⟩ = some (.string n) := hc1 0 _ rfl
 have b1 : W.cell? ⟨w.heap.size, 1, none⟩ = some (.slice A l.length c) := hc1 1 _ rfl
 clear hc1 hszW
 by_cases h1 : n.size ≤ 300
 case neg =>
  have hI : (300 : Int) < (n.size : Int) := by omega
  clear hG
  go_wp2_with fail
  go_ret
  exact ⟨true, rfl, nofun, hbW⟩
 have hI : ¬ (300 : Int) < (n.size : Int) := by omega
 by_cases h2 : l.length ≤ 20
 case neg =>
  have hJ : (20 : Int) < (l.length : Int) := by omega
  clear hG
  go_wp2_with fail
  go_ret
  exact ⟨true, rfl, nofun, hbW⟩
 have hJ : ¬ (20 : Int) < (l.length : Int) := by omega
 have HG : Hid ((∀ a ∈ l, Wat a) → Goal) := hG h2
 clear hG
 go_wp2_with fail
 go_loopw [17] (fun i wr => ∃ k : Nat, k ≤ l.length ∧ i = .int .i64 k ∧ Below W.heap.size W wr ∧ Hid (∀ a ∈ l.take k, Wat a)) (fun i _ => l.length - (intOf i).toNat)
 case atStart => exact ⟨0, Nat.zero_le _, rfl, Below.refl _ _, fun t ht => by simp at ht⟩
 case round =>
  obtain ⟨k, hk, rfl, hb, hinv⟩ := hrel
  replace b1 := cell_later hb b1
  have hbw := hbW.trans (hb.mono hbW.size)
  by_cases hlt : k < l.length
  ·obtain ⟨b, off, va, hA', hbl, c0, c1, hva⟩ := AttsV.cell (AttsV.keep hA hbw) hlt
   subst hA'
   obtain ⟨Av, cv, rfl, hcv⟩ := SlV.shape hva
   have hltI : (k : Int) < (l.length : Int) := by omega
   have hsz := Idn.size_B l[k].name
   have hS := r2_Great_any _ l[k].vals 20 300 wr (SlV.mono hva hbw.size) (hl2 _ (List.getElem_mem hlt)) (by decide) (by decide)
   by_cases he : l[k].name.length ≤ 300
   case neg =>
    have hg : (300 : Int) < ((B l[k].name).size : Int) := by omega
    clear hsz he hinv hS
    go_wp2_with fail
    go_ret
    exact ⟨true, rfl, nofun, hbw⟩
   have hg : ¬ (300 : Int) < ((B l[k].name).size : Int) := by omega
   go_wp2_with fail
   refine hS.mono ?_
   rintro e w6 ⟨r6, rfl, hr6, hb6⟩
   have H6 := Lib.hid hr6
   have hb2 := hb.trans (hb6.mono hb.size)
   have hbw6 := hbw.trans (hb6.mono hbw.size)
   clear hS hr6 c0 c1 hva hsz
   cases r6
   case true =>
    clear hinv H6
    go_wp2_with fail
    go_ret
    exact ⟨true, rfl, nofun, hbw6⟩
   have HF : Hid (∀ a ∈ l.take (k + 1), Wat a) := take_all hinv.out hlt ⟨he, H6.out rfl⟩
   clear hinv H6 he hg
   go_wp2_with fail
   go_roundw
   case rel => exact ⟨k + 1, by omega, by go_num, hb2, HF⟩
   case measure => simp [intOf]; omega
  ·have hltI : ¬ (k : Int) < (l.length : Int) := by omega
   have HF : Hid Goal := HG.out (by
    have h := hinv.out
    rwa [List.take_of_length_le (by omega)] at h)
   clear hinv HG
   go_wp2_with fail
   go_ret
   exact ⟨false, rfl, fun _ => HF.out, hbw⟩
end Go.Proofs.YtmamnmjfbadiiaaGreatDoor
