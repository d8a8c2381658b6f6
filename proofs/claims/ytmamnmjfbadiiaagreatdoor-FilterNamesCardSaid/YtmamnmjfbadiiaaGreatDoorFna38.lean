/- Part 38 of the proof that identitylaw09.FilterNames returns true at all filters: the package variables hold what the program lays; nothing else is asked. -/
import Derived.Test.YtmamnmjfbadiiaaGreatDoorFna04
import Derived.Test.YtmamnmjfbadiiaaGreatDoorFna17
import Derived.Test.YtmamnmjfbadiiaaGreatDoorFna22
import Derived.Test.YtmamnmjfbadiiaaGreatDoorFna27
import Derived.Test.YtmamnmjfbadiiaaGreatDoorFna29
import Derived.Test.YtmamnmjfbadiiaaGreatDoorFna37
import Derived.Lib.LazyBuf
import Derived.Deep.DeepCutAuto
import Derived.Deep.CutBlock
import Derived.ArgAppend
set_option linter.unusedVariables false
set_option linter.unusedSimpArgs false
/- Attributes appended, cloned. -/
namespace Go.Proofs.YtmamnmjfbadiiaaGreatDoor
open Go.RowKit Go.Sort
open Idn (L B Bs drop_L take_L size_L)

theorem exL {α : Type} (Q : Nat → α → Prop) : ∀ (n : Nat), (∀ i, i < n → ∃ x, Q i x) → ∃ l : List α, l.length = n ∧ ∀ i x, l[i]? = some x → Q i x
  | 0, _ => ⟨[], rfl, fun i x h => by simp at h⟩
  | n + 1, h => by
    obtain ⟨l, h1, h2⟩ := exL Q n fun i hi => h i (by omega)
    obtain ⟨x, hx⟩ := h n (by omega)
    refine ⟨l ++ [x], by simp [h1], fun i y hy => ?_⟩
    by_cases hi : i < n
    · rw [List.getElem?_append_left (by omega)] at hy
      exact h2 i y hy
    · have hil := (List.getElem?_eq_some_iff.1 hy).1
      simp at hil
      have : i = n := by omega
      subst this
      rw [List.getElem?_append_right (by omega)] at hy
      simp [h1] at hy
      exact hy ▸ hx
theorem rowA_inv (ps : List (Idn.Att × Value)) (j : Nat) (u : Value) (h : (rowA ps)[j]? = some u) : ∃ i p, ps[i]? = some p ∧ ((j = i * 2 ∧ u = sv p.1.name) ∨ (j = i * 2 + 1 ∧ u = p.2)) := by
  have hj := (List.getElem?_eq_some_iff.1 h).1
  rw [rowA_len] at hj
  have hi : j / 2 < ps.length := by omega
  refine ⟨j / 2, ps[j / 2], List.getElem?_eq_getElem hi, ?_⟩
  obtain ⟨r0, r1⟩ := rowA_at ps (j / 2) _ (List.getElem?_eq_getElem hi)
  rcases Nat.mod_two_eq_zero_or_one j with h0 | h0
  · left
    have e : j / 2 * 2 = j := by omega
    rw [e, h] at r0
    exact ⟨e.symm, by injection r0⟩
  · right
    have e : j / 2 * 2 + 1 = j := by omega
    rw [e, h] at r1
    exact ⟨e.symm, by injection r1⟩
/-- attributes that read: their names, their values, cell by cell -/
theorem AttsV.pairs {w : World} {hi : Nat} {A : Option Addr} {n c : Nat} {l : List Idn.Att} (h : AttsV w hi (.slice A n c) l) :
    ∃ ps : List (Idn.Att × Value), ps.map (·.1) = l ∧ (∀ p ∈ ps, StrsV w hi p.2 p.1.vals) ∧ ∀ b off, A = some ⟨b, off, none⟩ → ∀ (j : Nat) u, (rowA ps)[j]? = some u → w.cell? ⟨b, off + j, none⟩ = some u := by
  obtain ⟨ps, h1, h2⟩ := exL (fun i (p : Idn.Att × Value) => l[i]? = some p.1 ∧ StrsV w hi p.2 p.1.vals ∧ ∀ b off, A = some ⟨b, off, none⟩ → w.cell? ⟨b, off + i * 2, none⟩ = some (sv p.1.name) ∧ w.cell? ⟨b, off + i * 2 + 1, none⟩ = some p.2) l.length fun i hil => by
    obtain ⟨b, off, v, hA, hb, c0, c1, hv⟩ := AttsV.cell h hil
    refine ⟨(l[i], v), List.getElem?_eq_getElem hil, hv, fun b' off' e => ?_⟩
    subst hA
    injection e with e
    injection e with e1 e2
    subst e1 e2
    exact ⟨c0, c1⟩
  refine ⟨ps, ?_, fun p hp => ?_, fun b off hA j u hj => ?_⟩
  · apply List.ext_getElem?
    intro i
    rw [List.getElem?_map]
    by_cases hi' : i < ps.length
    · have := (h2 i _ (List.getElem?_eq_getElem hi')).1
      rw [List.getElem?_eq_getElem hi', this]; rfl
    · rw [List.getElem?_eq_none (by omega), List.getElem?_eq_none (by omega)]; rfl
  · obtain ⟨i, hi', rfl⟩ := List.getElem_of_mem hp
    exact (h2 i _ (List.getElem?_eq_getElem hi')).2.1
  · obtain ⟨i, p, hp, hx⟩ := rowA_inv ps j u hj
    obtain ⟨x0, x1⟩ := (h2 i p hp).2.2 b off hA
    rcases hx with ⟨rfl, rfl⟩ | ⟨rfl, rfl⟩
    · exact x0
    · rw [← Nat.add_assoc]; exact x1
section
variable {w : World} {ops : Array Oper} {rest : List Oper} {o : Oper} {a : Act} {Q : Exit → Act → World → Prop}
end
end Go.Proofs.YtmamnmjfbadiiaaGreatDoor
/- entry: Normal. -/
namespace Go.Proofs.YtmamnmjfbadiiaaGreatDoor
open Go.RowKit Go.Sort
open Idn (L B Bs drop_L take_L size_L)
theorem gen3 {R : World → Prop} {w : World} {C1 C2 C3 : Array Value} {t1 t2 t3 : TypeId}
    (h : ∀ W, Below w.heap.size w W → W.heap.size = w.heap.size + 3 → (∀ (i : Nat) (v : Value), C1[i]? = some v → W.cell? ⟨w.heap.size, i, none⟩ = some v) → (∀ (i : Nat) (v : Value), C2[i]? = some v → W.cell? ⟨w.heap.size + 1, i, none⟩ = some v) → (∀ (i : Nat) (v : Value), C3[i]? = some v → W.cell? ⟨w.heap.size + 1 + 1, i, none⟩ = some v) → (∀ i, W.frozen? ⟨w.heap.size + 1 + 1, i, none⟩ = false) → R W) : R (((w.alloc (.cells C1 t1)).alloc (.cells C2 t2)).alloc (.cells C3 t3)) := by
  have e1 : (w.alloc (.cells C1 t1)).heap.size = w.heap.size + 1 := by simp
  have e2 : ((w.alloc (.cells C1 t1)).alloc (.cells C2 t2)).heap.size = w.heap.size + 1 + 1 := by simp
  have hnew : (((w.alloc (.cells C1 t1)).alloc (.cells C2 t2)).alloc (.cells C3 t3)).heap[w.heap.size + 1 + 1]? = some (.cells C3 t3 (0, 0)) := by
    rw [← e2]; exact heap_alloc_new _ _
  refine h _ ((((Below.refl _ _).alloc (Nat.le_refl _) _).alloc (by simp) _).alloc (by simp; omega) _) (by simp) (fun i v hv => ?_) (fun i v hv => ?_) (fun i v hv => ?_) (fun i => ?_)
  · have hold : (((w.alloc (.cells C1 t1)).alloc (.cells C2 t2)).alloc (.cells C3 t3)).heap[w.heap.size]? = some (.cells C1 t1 (0, 0)) := by
      rw [Below.heap_alloc _ _ _ (by rw [e2]; omega), Below.heap_alloc _ _ _ (by rw [e1]; omega)]; exact heap_alloc_new w _
    rw [cell_of_row _ w.heap.size i C1 t1 (0, 0) hold]; exact hv
  · have hold : (((w.alloc (.cells C1 t1)).alloc (.cells C2 t2)).alloc (.cells C3 t3)).heap[w.heap.size + 1]? = some (.cells C2 t2 (0, 0)) := by
      rw [Below.heap_alloc _ _ _ (by rw [e2]; omega), ← e1]; exact heap_alloc_new _ _
    rw [cell_of_row _ (w.heap.size + 1) i C2 t2 (0, 0) hold]; exact hv
  · rw [cell_of_row _ (w.heap.size + 1 + 1) i C3 t3 (0, 0) hnew]; exact hv
  · exact Lib.frozen_of_heap hnew i
theorem AttOwn.add {w w' : World} {base : Nat} {v v' u : Value} {ps : List (Idn.Att × Value)} {n : Bs} {vals : List Bs} (h : AttOwn w base v ps) (hown : w'.ownsRow base 56 2 v' (ps.length + 1) (rowA ps ++ [sv n, u])) (hg : w.grownBy w' v.ownBlock) (hu : w.ownsRow base 9 1 u vals.length (vals.map sv))
    (hap : ∀ p ∈ ps, ∀ g, u.ownBlock = some g → p.2.ownBlock ≠ some g) : AttOwn w' base v' (ps ++ [(⟨n, vals⟩, u)]) := by
  refine ⟨?_, ?_, ?_⟩
  · rw [List.length_append, rowA, List.flatMap_append]; exact hown
  · intro p hp
    rcases List.mem_append.1 hp with hp | hp
    · exact own_kept (h.2.1 p hp) hg fun g h1 h2 => own_apart h.1 (h.2.1 p hp) (by decide) g h2 h1
    · simp at hp; subst hp
      exact own_kept hu hg fun g h1 h2 => own_apart h.1 hu (by decide) g h2 h1
  · rw [List.pairwise_append]
    refine ⟨h.2.2, by simp, fun p hp q hq g hg' hx => ?_⟩
    simp at hq; subst hq
    exact hap p hp g hx hg'
theorem AttOwn.base {w : World} {base base' : Nat} {v : Value} {ps : List (Idn.Att × Value)} (h : AttOwn w base v ps) (hb : base' ≤ base) : AttOwn w base' v ps :=
  ⟨own_base h.1 hb, fun p hp => own_base (h.2.1 p hp) hb, h.2.2⟩
/-- a row of attributes with their values wherever they lie, as attributes that read -/
theorem RowV.atts {w : World} {base : Nat} {v : Value} {ps : List (Idn.Att × Value)} {l : List Idn.Att} (h : RowV w base v ps) (hl : ps.map (·.1) = l) (hv : ∀ p ∈ ps, StrsV w w.heap.size p.2 p.1.vals) : AttsV w w.heap.size v l := by
  subst hl
  have h0 := h.1
  rw [show ps.length = (ps.map (·.1)).length by simp] at h0
  refine SlV.own h0 fun i x hx => ?_
  rw [List.getElem?_map] at hx
  obtain ⟨p, hp, rfl⟩ := Option.map_eq_some_iff.1 hx
  obtain ⟨e1, e2⟩ := rowA_at ps i p hp
  refine ⟨[sv p.1.name, p.2], rfl, ⟨p.2, rfl, hv p (List.mem_of_getElem? hp)⟩, fun j u hj => ?_⟩
  match j, hj with
  | 0, hj => simp at hj; subst hj; exact e1
  | 1, hj => simp at hj; subst hj; exact e2
end Go.Proofs.YtmamnmjfbadiiaaGreatDoor
/- What calls hand back: attributes, entries, in rows of the call's own. -/
namespace Go.Proofs.YtmamnmjfbadiiaaGreatDoor
open Go.RowKit Go.Sort
open Idn (L B Bs)
end Go.Proofs.YtmamnmjfbadiiaaGreatDoor
/- entry: Normal, walked. -/
namespace Go.Proofs.YtmamnmjfbadiiaaGreatDoor
open Go.RowKit Go.Sort
open Idn (L B Bs drop_L take_L size_L)
end Go.Proofs.YtmamnmjfbadiiaaGreatDoor
/- law08: Small, short, ann, small. -/
namespace Go.Proofs.YtmamnmjfbadiiaaGreatDoor
open Go.RowKit Go.Sort
open Idn (L B Bs drop_L take_L size_L)
theorem all_take {α : Type} {p : α → Prop} {l : List α} {k : Nat} (h : ∀ x ∈ l.take k, p x) (hk : k < l.length) (hp : p l[k]) : ∀ x ∈ l.take (k + 1), p x := by
  intro x hx
  rw [List.take_succ_eq_append_getElem hk] at hx
  rcases List.mem_append.1 hx with hx | hx
  · exact h x hx
  · rw [List.mem_singleton] at hx; subst hx; exact hp
end Go.Proofs.YtmamnmjfbadiiaaGreatDoor
/- identityref02.Great; identityref09: great, Great. -/
namespace Go.Proofs.YtmamnmjfbadiiaaGreatDoor
open Go.RowKit Go.Sort
open Idn (L B Bs drop_L take_L size_L)
/-- a bool that says no more than: if it is false, p holds -/
def RetN (p : Prop) (w : World) (e : Ending) (w' : World) : Prop := ∃ r, e = .returned (.bool r) ∧ (r = false → p) ∧ Below w.heap.size w w'
set_option maxRecDepth 100000 in
theorem r2_Great_any (v : Value) (l : List Bs) (a b : Nat) (w : World) (hv : StrsV w w.heap.size v l) (hl : l.length ≤ 9223372036854775807) (ha : a ≤ 1000000) (hb : b ≤ 1000000) :
    Calls Tryz.prog 42 #[v, .int .i64 (a : Int), .int .i64 (b : Int)] w (RetN (l.length ≤ a ∧ ∀ x ∈ l, x.length ≤ b) w) := by
  obtain ⟨A, c, rfl, hc⟩ := hv.shape
  go_enter Tryz.func42, Tryz.ntmps42
  by_cases h : a < l.length
  · have hI : (a : Int) < (l.length : Int) := by omega
    go_wp2_with fail
    go_ret
    exact ⟨true, rfl, nofun, Below.refl _ _⟩
  have hI : ¬ (a : Int) < (l.length : Int) := by omega
  go_wp2_with fail
  go_loop [7] (fun i => ∃ k : Nat, k ≤ l.length ∧ i = .int .i64 k ∧ Hid (∀ x ∈ l.take k, x.length ≤ b)) (fun i => l.length - (intOf i).toNat)
  case atStart => exact ⟨0, Nat.zero_le _, rfl, by show ∀ x ∈ _, _; simp⟩
  case round =>
    obtain ⟨k, hk, rfl, hinv⟩ := hrel
    by_cases hlt : k < l.length
    · obtain ⟨g, off, hA, hbl, c0⟩ := StrsV.cell hv hlt
      subst hA
      have hltI : (k : Int) < (l.length : Int) := by omega
      have hxb := Idn.size_B l[k]
      by_cases hx : b < l[k].length
      · have h4 : (b : Int) < ((B l[k]).size : Int) := by omega
        clear hinv hx hxb
        go_wp2_with fail
        go_ret
        exact ⟨true, rfl, nofun, Below.refl _ _⟩
      · have h4 : ¬ (b : Int) < ((B l[k]).size : Int) := by omega
        have HX := Lib.hid (all_take hinv.out hlt (by omega))
        clear hinv hx hxb
        go_wp2_with fail
        go_round
        case rel => exact ⟨k + 1, by omega, by go_num, HX⟩
        case measure => simp [intOf]; omega
    · have hltI : ¬ (k : Int) < (l.length : Int) := by omega
      have HK : Hid (l.length ≤ a ∧ ∀ x ∈ l, x.length ≤ b) := ⟨by omega, by
        have h := hinv.out
        rwa [List.take_of_length_le (by omega)] at h⟩
      clear hinv
      go_wp2_with fail
      go_ret
      exact ⟨false, rfl, fun _ => HK.out, Below.refl _ _⟩

mutual
def fLen : Flt → Prop
  | .mk _ _ _ ps ks => ps.length ≤ 9223372036854775807 ∧ ks.length ≤ 9223372036854775807 ∧ fLens ks
def fLens : List Flt → Prop
  | [] => True
  | f :: l => fLen f ∧ fLens l
end
theorem fLens_all {l : List Flt} : fLens l ↔ ∀ f ∈ l, fLen f := by
  induction l with
  | nil => simp [fLens]
  | cons f l ih => rw [fLens, List.forall_mem_cons, ih]
theorem fLen_own {f : Flt} (h : fLen f) : f.parts.length ≤ 9223372036854775807 ∧ f.kids.length ≤ 9223372036854775807 ∧ ∀ g ∈ f.kids, fLen g := by
  cases f; rw [fLen] at h; exact ⟨h.1, h.2.1, fLens_all.1 h.2.2⟩
/-- a kid of a list, as the walk loads it -/
theorem FltsV.kid {w : World} {hi d : Nat} {A : Option Addr} {n c : Nat} {l : List Flt} (h : FltsV w hi d (.slice A n c) l) {k : Nat} (hk : k < l.length) :
    ∃ b off pv kv, A = some ⟨b, off, none⟩ ∧ b < hi ∧ w.cell? ⟨b, off + k * 5, none⟩ = some (.int .i64 l[k].kind) ∧ w.cell? ⟨b, off + k * 5 + 1, none⟩ = some (.string (B l[k].name)) ∧ w.cell? ⟨b, off + k * 5 + 2, none⟩ = some (.string (B l[k].value)) ∧
      w.cell? ⟨b, off + k * 5 + 3, none⟩ = some pv ∧ w.cell? ⟨b, off + k * 5 + 4, none⟩ = some kv ∧ 0 < d ∧ FltV w hi (d - 1) (.agg #[.int .i64 l[k].kind, .string (B l[k].name), .string (B l[k].value), pv, kv]) l[k] := by
  obtain ⟨b, off, pv, kv, h1, h2, h3, h4, h5, h6, h7, h8, h9, h10⟩ := h.cell hk
  exact ⟨b, off, pv, kv, h1, h2, h3, h4, h5, h6, h7, h8, pv, kv, rfl, h9, h10⟩
theorem fSizes_take {l : List Flt} {k : Nat} (h : k < l.length) : fSizes (l.take (k + 1)) = fSizes (l.take k) + fSize l[k] := by
  rw [List.take_succ_eq_append_getElem h, fSizes_append, fSizes, fSizes]; rfl
theorem genP {R : World → Prop} {w : World} {p : Nat} {a u : Value} (hf : w.frozen? ⟨p, 0, none⟩ = false) (hx : w.cell? ⟨p, 0, none⟩ = some a)
    (h : ∀ W, But p w W → W.cell? ⟨p, 0, none⟩ = some u → W.frozen? ⟨p, 0, none⟩ = false → W.heap.size = w.heap.size → R W) : R (w.setCell ⟨p, 0, none⟩ u) :=
  h _ ((But.refl p w).put u) (by simp [go_sem, hx]) (by simp [hf]) (by simp [World.setCell])
/-- what 'great' says and leaves -/
def RetG (p : Nat) (m : Nat) (f : Flt) (w : World) (e : Ending) (w' : World) : Prop :=
  ∃ (r : Bool) (m' : Int), e = .returned (.bool r) ∧ w'.cell? ⟨p, 0, none⟩ = some (.int .i64 m') ∧ w'.frozen? ⟨p, 0, none⟩ = false ∧ But p w w' ∧ (r = false → 0 ≤ m' ∧ m' + fSize f = m ∧ fOk f)
set_option maxHeartbeats 4000000 in
set_option maxRecDepth 100000 in
theorem r9_great_any : ∀ (d : Nat) (v : Value) (f : Flt) (p m : Nat) (w : World), FltV w p d v f → fLen f → p < w.heap.size → w.cell? ⟨p, 0, none⟩ = some (.int .i64 (m : Int)) → w.frozen? ⟨p, 0, none⟩ = false → m ≤ 1000 →
    Calls Tryz.prog 31 #[v, .pointer (some ⟨p, 0, none⟩)] w (RetG p m f w) := by
  intro d
  induction d using Nat.strongRecOn with
  | _ d ih =>
  intro v f p m w hv hfl hpl hm hfz hm9
  obtain ⟨l3, l4, l5⟩ := fLen_own hfl
  obtain ⟨pv, kv, rfl, hp, hk⟩ := hv
  obtain ⟨Ap, cp, rfl, _⟩ := SlV.shape hp
  obtain ⟨Ak, ck, rfl, _⟩ := SlV.shape hk
  have hz1 := Idn.size_B f.name
  have hz2 := Idn.size_B f.value
  have hwr : IntKind.i64.wrap ((m : Int) - 1) = (m : Int) - 1 := IntWalk.i64_in _ (by omega)
  have HZ : Hid (fSize f = fSizes f.kids + 1) := by show _ = _; cases f; rfl
  have HOK : Hid (f.name.length ≤ 300 → f.value.length ≤ 300 → (f.parts.length ≤ 20 ∧ ∀ x ∈ f.parts, x.length ≤ 300) → (∀ g ∈ f.kids, fOk g) → fOk f) := by
    intro h1 h2 h3 h4
    cases f
    rw [fOk]
    exact ⟨⟨Nat.le_trans h1 (by decide), Nat.le_trans h2 (by decide), Nat.le_trans h3.1 (by decide), fun x hx => Nat.le_trans (h3.2 x hx) (by decide)⟩, fOks_all.2 h4⟩
  have hlow : Below p w w := Below.refl _ _
  by_cases h0 : m = 0
  case pos =>
    have hI : ((m : Int) - 1) < 0 := by omega
    go_enter Tryz.func31, Tryz.ntmps31
    go_upto_region 1 with fail
    with_reducible refine gen1 (R := fun W => Code.wp Tryz.prog _ _ _ W) ?_
    intro W hbW hszW hc _
    have b1 : W.cell? ⟨w.heap.size, 1, none⟩ = some (.string (B f.name)) := hc 1 _ rfl
    have b2 : W.cell? ⟨w.heap.size, 2, none⟩ = some (.string (B f.value)) := hc 2 _ rfl
    have b3 : W.cell? ⟨w.heap.size, 3, none⟩ = some (.slice Ap f.parts.length cp) := hc 3 _ rfl
    have hmW := cell_later hbW hm
    have hfW : W.frozen? ⟨p, 0, none⟩ = false := frozen_later hbW hfz hpl
    have hbut := But.of_below hbW p
    have hpW : p < W.heap.size := by omega
    clear hc hm hfz hbW
    go_upto_region 2 with fail
    with_reducible refine genP (R := fun W => Code.wp Tryz.prog _ _ _ W) hfW hmW ?_
    intro X hbX hmX hfX hszX
    clear hmW hfW
    go_wp2_with fail
    go_ret
    exact ⟨true, _, rfl, hmX, hfX, hbut.trans hbX, nofun⟩
  have hI : ¬ ((m : Int) - 1) < 0 := by omega
  go_enter Tryz.func31, Tryz.ntmps31
  go_upto_region 1 with fail
  with_reducible refine gen1 (R := fun W => Code.wp Tryz.prog _ _ _ W) ?_
  intro W hbW hszW hc _
  have b1 : W.cell? ⟨w.heap.size, 1, none⟩ = some (.string (B f.name)) := hc 1 _ rfl
  have b2 : W.cell? ⟨w.heap.size, 2, none⟩ = some (.string (B f.value)) := hc 2 _ rfl
  have b3 : W.cell? ⟨w.heap.size, 3, none⟩ = some (.slice Ap f.parts.length cp) := hc 3 _ rfl
  have b4 : W.cell? ⟨w.heap.size, 4, none⟩ = some (.slice Ak f.kids.length ck) := hc 4 _ rfl
  have hmW := cell_later hbW hm
  have hfW : W.frozen? ⟨p, 0, none⟩ = false := frozen_later hbW hfz hpl
  have hbut := But.of_below hbW p
  have hpW : p < W.heap.size := by omega
  have hne : w.heap.size ≠ p := by omega
  have hwW : w.heap.size < W.heap.size := by omega
  clear hc hm hfz hbW
  go_upto_region 2 with fail
  with_reducible refine genP (R := fun W => Code.wp Tryz.prog _ _ _ W) hfW hmW ?_
  intro X hbX hmX hfX hszX
  replace b1 := hbX.cell b1 hwW hne
  replace b2 := hbX.cell b2 hwW hne
  replace b3 := hbX.cell b3 hwW hne
  replace b4 := hbX.cell b4 hwW hne
  have hbw := hbut.trans hbX
  have hpX : p < X.heap.size := by omega
  have hwX : w.heap.size < X.heap.size := by omega
  clear hmW hfW hbX hszX hszW hpW hwW hbut
  by_cases hn : 300 < f.name.length
  · have hn3 : (300 : Int) < ((B f.name).size : Int) := by omega
    clear hn
    go_wp2_with fail
    go_ret
    exact ⟨true, _, rfl, hmX, hfX, hbw, nofun⟩
  have hn3 : ¬ (300 : Int) < ((B f.name).size : Int) := by omega
  by_cases hv : 300 < f.value.length
  · have hv3 : (300 : Int) < ((B f.value).size : Int) := by omega
    clear hn hv
    go_wp2_with fail
    go_ret
    exact ⟨true, _, rfl, hmX, hfX, hbw, nofun⟩
  have hv3 : ¬ (300 : Int) < ((B f.value).size : Int) := by omega
  have hG := r2_Great_any _ f.parts 20 300 X (SlV.mono (SlV.keep hp (hbw.below (Nat.le_refl _) (by omega))) (by omega)) l3 (by decide) (by decide)
  have HN := Lib.hid (show f.name.length ≤ 300 ∧ f.value.length ≤ 300 by omega)
  clear hn hv hz1 hz2
  go_wp2_with fail
  refine hG.mono ?_
  rintro e X1 ⟨r, rfl, hr, hb1⟩
  replace hmX := cell_later hb1 hmX
  replace hfX := frozen_later hb1 hfX hpX
  replace b4 := cell_later hb1 b4
  replace hbw := hbw.on hb1
  have hpX1 : p < X1.heap.size := Nat.lt_of_lt_of_le hpX hb1.size
  have hwX1 : w.heap.size < X1.heap.size := Nat.lt_of_lt_of_le hwX hb1.size
  have HR := Lib.hid hr
  clear hr hG hb1 b1 b2 b3 hpX hwX hn3 hv3
  cases r
  case true =>
    go_wp2_with fail
    go_ret
    exact ⟨true, _, rfl, hmX, hfX, hbw, nofun⟩
  go_wp2_with fail
  go_loopw [5] (fun i wr => ∃ (k q : Nat), k ≤ f.kids.length ∧ i = .int .i64 k ∧ But p w wr ∧ X1.heap.size ≤ wr.heap.size ∧ wr.cell? ⟨p, 0, none⟩ = some (.int .i64 (q : Int)) ∧ wr.frozen? ⟨p, 0, none⟩ = false ∧ wr.cell? ⟨w.heap.size, 4, none⟩ = some (.slice Ak f.kids.length ck) ∧ Hid (q + fSizes (f.kids.take k) + 1 = m ∧ ∀ g ∈ f.kids.take k, fOk g)) (fun i _ => f.kids.length - (intOf i).toNat)
  case atStart =>
    refine ⟨0, m - 1, Nat.zero_le _, rfl, hbw, Nat.le_refl _, ?_, hfX, b4, ?_⟩
    · rw [hmX]; congr 2; omega
    · show _ ∧ _; simp [fSizes]; omega
  case round =>
    obtain ⟨k, q, hk9, rfl, hbk, hsz, hcq, hfq, b4', hinv⟩ := hrel
    by_cases hlt : k < f.kids.length
    · obtain ⟨g, off, pv, kv, hA, hg, c0, c1, c2, c3, c4, hd, hkid⟩ := FltsV.kid (FltsV.keep hk (hbk.below (Nat.le_refl _) (by omega))) hlt
      subst hA
      have hltI : (k : Int) < (f.kids.length : Int) := by omega
      have hcall := ih (d - 1) (by omega) _ f.kids[k] p q wr hkid (l5 _ (List.getElem_mem hlt)) (by omega) hcq hfq (by have := hinv.out.1; omega)
      have HT := Lib.hid (fSizes_take hlt)
      clear ih hkid hk hp
      go_wp2_with fail
      refine hcall.mono ?_
      rintro e w2 ⟨r, m', rfl, hc2, hf2, hb2, hr⟩
      have hb4 := hb2.cell b4' (by omega) hne
      cases r
      · obtain ⟨h1, h2, h3⟩ := hr rfl
        obtain ⟨q', rfl⟩ := Int.eq_ofNat_of_zero_le h1
        have HV : Hid (q' + fSizes (f.kids.take (k + 1)) + 1 = m ∧ ∀ g ∈ f.kids.take (k + 1), fOk g) := ⟨by have := hinv.out.1; have := HT.out; omega, all_take hinv.out.2 hlt h3⟩
        have hs2 := hb2.size
        clear hinv HT hr h1 h2 h3 hcall
        go_wp2_with fail
        go_roundw
        case rel => exact ⟨k + 1, q', by omega, by go_num, hbk.trans hb2, by omega, hc2, hf2, hb4, HV⟩
        case measure => simp [intOf]; omega
      · clear hinv HT hr hcall
        go_wp2_with fail
        go_ret
        exact ⟨true, _, rfl, hc2, hf2, hbk.trans hb2, nofun⟩
    · have hltI : ¬ (k : Int) < (f.kids.length : Int) := by omega
      have HV : Hid (q + fSize f = m ∧ fOk f) := by
        obtain ⟨h1, h2⟩ := hinv.out
        rw [List.take_of_length_le (by omega)] at h1 h2
        exact ⟨by have := HZ.out; omega, HOK.out HN.out.1 HN.out.2 (HR.out trivial) h2⟩
      clear hinv
      go_wp2_with fail
      go_ret
      exact ⟨false, _, rfl, hcq, hfq, hbk, fun _ => ⟨by omega, by have := HV.out.1; omega, HV.out.2⟩⟩
end Go.Proofs.YtmamnmjfbadiiaaGreatDoor
/- attrs: set, limited. -/
namespace Go.Proofs.YtmamnmjfbadiiaaGreatDoor
open Go.RowKit Go.Sort
open Idn (L B Bs drop_L take_L size_L)
end Go.Proofs.YtmamnmjfbadiiaaGreatDoor
/- attrs: Add. -/
namespace Go.Proofs.YtmamnmjfbadiiaaGreatDoor
open Go.RowKit Go.Sort
open Idn (L B Bs drop_L take_L size_L)
theorem rGet_all {p : Bs → Prop} {l : List Idn.Att} (h : ∀ a ∈ l, ∀ x ∈ a.vals, p x) (n : Bs) : ∀ x ∈ rGet l n, p x := by
  intro x hx
  rw [rGet_law, Idn.insAll_mem] at hx
  unfold Idn.valsOf at hx
  obtain ⟨a, ha, hx⟩ := List.mem_flatMap.1 hx
  exact h a (List.mem_filter.1 ha).1 x hx
section
variable {P : Program} {w : World} {ops : Array Oper} {rest : List Oper} {o : Oper} {a : Act} {Q : Exit → Act → World → Prop}
end
end Go.Proofs.YtmamnmjfbadiiaaGreatDoor
/- attrs: Replace. -/
namespace Go.Proofs.YtmamnmjfbadiiaaGreatDoor
open Go.RowKit Go.Sort
open Idn (L B Bs drop_L take_L size_L)
theorem cloneS_any (v : Value) (l : List Bs) (w : World) (hv : StrsV w w.heap.size v l) (hl : l.length ≤ 1000000000) :
    Calls Tryz.prog 91 #[v] w fun e w' => ∃ v', e = .returned v' ∧ w'.ownsRow w.heap.size 9 1 v' l.length (l.map sv) ∧ Below w.heap.size w w' := by
  obtain ⟨A, c, rfl, hc⟩ := hv.shape
  by_cases h0 : l.length = 0
  · have hl0 : l = [] := List.eq_nil_of_length_eq_zero h0
    subst hl0
    cases A with
    | none => exact (Tryz.slices_Clone_string_nil 0 c w).mono fun e w' ⟨h1, h2⟩ => ⟨_, h1, by rw [h2]; exact World.ownsRow_nil _ _ _ _, by rw [h2]; exact Below.refl _ _⟩
    | some a => exact (Tryz.slices_Clone_string_zero a c w).mono fun e w' ⟨v', h1, h2, _, h4⟩ => ⟨v', h1, h2, h4⟩
  · obtain ⟨b, off, rfl, hb, _⟩ := StrsV.cell hv (k := 0) (by omega)
    refine (Tryz.slices_Clone_string b off l.length c (l.map B) w (by simp) (by omega) (fun j hj => ?_)).mono fun e w' ⟨v', h1, h2, _, h4⟩ => ⟨v', h1, ?_, h4⟩
    · rw [List.length_map] at hj
      obtain ⟨b', off', hA', _, hcc⟩ := StrsV.cell hv hj
      injection hA' with hA'
      injection hA' with h1 h2
      subst h1 h2
      rw [hcc]
      simp [List.getD_eq_getElem?_getD, hj]
    · have e : ((l.map B).take l.length).map Value.string = l.map sv := by
        rw [List.take_of_length_le (by simp), List.map_map]; rfl
      rw [e] at h2; exact h2
end Go.Proofs.YtmamnmjfbadiiaaGreatDoor
/- entry: same. -/
namespace Go.Proofs.YtmamnmjfbadiiaaGreatDoor
open Go.RowKit Go.Sort
open Idn (L B Bs drop_L take_L size_L)
theorem mapB_eq (a b : List Bs) : decide ((a.map B).take a.length = (b.map B).take b.length) = (a == b) := by
  rw [List.take_of_length_le (by simp), List.take_of_length_le (by simp)]
  have : a.map B = b.map B ↔ a = b := ⟨fun h => by
    have h2 := congrArg (List.map L) h
    simpa [List.map_map, Function.comp_def, Idn.L_B] using h2, fun h => by rw [h]⟩
  by_cases h : a = b
  · subst h; simp
  · rw [decide_eq_false (fun e => h (this.1 e))]; exact (beq_eq_false_iff_ne.2 h).symm
theorem equalS_any (v u : Value) (a b : List Bs) (w : World) (hi hi' : Nat) (hv : StrsV w hi v a) (hu : StrsV w hi' u b) (ha : a.length ≤ 1000000000) (hb : b.length ≤ 1000000000) :
    Calls Tryz.prog 52 #[v, u] w fun e w' => e = .returned (.bool (a == b)) ∧ ∃ q, w' = w.drewN q := by
  obtain ⟨A, c, rfl, hc⟩ := hv.shape
  obtain ⟨A2, c2, rfl, hc2⟩ := hu.shape
  by_cases h0 : a.length = b.length
  · by_cases h1 : a.length = 0
    · have ha0 : a = [] := List.eq_nil_of_length_eq_zero h1
      subst ha0
      have hb0 : b = [] := List.eq_nil_of_length_eq_zero (h0 ▸ h1)
      subst hb0
      exact (Tryz.slices_Equal_string_empty A A2 c 0 c2 w (by omega)).mono fun e w' ⟨h1, h2⟩ => ⟨h1, 0, h2⟩
    · obtain ⟨b1, o1, rfl, hb1, _⟩ := StrsV.cell hv (k := 0) (by omega)
      obtain ⟨b2, o2, rfl, hb2, _⟩ := StrsV.cell hu (k := 0) (by omega)
      have h := Tryz.slices_Equal_string b1 o1 a.length c b2 o2 b.length c2 (a.map B) (b.map B) w (by simp) (by simp) (by omega) (by omega) (fun j hj => ?_) (fun j hj => ?_)
      · rw [mapB_eq] at h; exact h
      · rw [List.length_map] at hj
        obtain ⟨b', off', hA', _, hcc⟩ := StrsV.cell hv hj
        injection hA' with hA'
        injection hA' with h1 h2
        subst h1 h2
        rw [hcc]
        simp [List.getD_eq_getElem?_getD, hj]
      · rw [List.length_map] at hj
        obtain ⟨b', off', hA', _, hcc⟩ := StrsV.cell hu hj
        injection hA' with hA'
        injection hA' with h1 h2
        subst h1 h2
        rw [hcc]
        simp [List.getD_eq_getElem?_getD, hj]
  · have e : (a == b) = false := beq_eq_false_iff_ne.2 fun e => h0 (by rw [e])
    rw [e]
    exact (Tryz.slices_Equal_string_lens A A2 a.length c b.length c2 w h0).mono fun e w' ⟨h1, h2⟩ => ⟨h1, 0, h2⟩
theorem below_drew0 (w : World) (q : Nat) : Below w.heap.size w (w.drewN q) := by
  have h := below_drewn w q #[]
  rwa [grow_empty] at h
end Go.Proofs.YtmamnmjfbadiiaaGreatDoor
/- entry: same, the loop. -/
namespace Go.Proofs.YtmamnmjfbadiiaaGreatDoor
open Go.RowKit Go.Sort
open Idn (L B Bs drop_L take_L size_L)
theorem no_true {r : Bool} {p : Prop} (h : r = true ↔ p) (hn : ¬ p) : r = false := by cases r with
  | false => rfl
  | true => exact absurd (h.1 rfl) hn
end Go.Proofs.YtmamnmjfbadiiaaGreatDoor
/- identityref08: SameStrings, SameMods. -/
namespace Go.Proofs.YtmamnmjfbadiiaaGreatDoor
open Go.RowKit Go.Sort
open Idn (L B Bs drop_L take_L size_L)
theorem B_beq (a b : Bs) : ((B a).toList == (B b).toList) = decide (a = b) := by rw [str_beq, Idn.L_B, Idn.L_B]
theorem take_ext {α : Type} {a b : List α} {k : Nat} (h : a.take k = b.take k) (h1 : k < a.length) (h2 : k < b.length) (he : a[k] = b[k]) : a.take (k + 1) = b.take (k + 1) := by
  rw [List.take_succ_eq_append_getElem h1, List.take_succ_eq_append_getElem h2, h, he]
theorem get_ne {α : Type} {a b : List α} {k : Nat} (h1 : k < a.length) (h2 : k < b.length) (he : a[k] ≠ b[k]) : a ≠ b := fun h => he (by subst h; rfl)
end Go.Proofs.YtmamnmjfbadiiaaGreatDoor
/- A row of modifications of the call's own, whose values lie in rows of the call's own. -/
namespace Go.Proofs.YtmamnmjfbadiiaaGreatDoor
open Go.RowKit Go.Sort
open Idn (L B Bs)
theorem own_open {w : World} {base : Nat} {e : TypeId} {size n n' c : Nat} {A : Option Addr} {xs : List Value} (h : w.ownsRow base e size (.slice A n c) n' xs) (hpos : 0 < n') : ∃ g, A = some ⟨g, 0, none⟩ ∧ ∀ (j : Nat) u, xs[j]? = some u → w.cell? ⟨g, j, none⟩ = some u := by
  rcases id h.2 with ⟨_, hn⟩ | ⟨g, cap, cur, hv, _⟩
  · omega
  · injection hv with h1 h2 h3
    subst h1 h2 h3
    exact ⟨g, rfl, (own_cell h).1⟩
/-- a row of strings that the call owns, its capacity cut or not -/
def CutS (w : World) (base : Nat) (v : Value) (l : List Bs) : Prop := ∃ A c c', v = .slice A l.length c' ∧ l.length ≤ c' ∧ w.ownsRow base 9 1 (.slice A l.length c) l.length (l.map sv)
theorem CutS.nil (w : World) (base : Nat) : CutS w base (.slice none 0 0) [] := ⟨none, 0, 0, rfl, Nat.le_refl _, World.ownsRow_nil _ _ _ _⟩
theorem CutS.shape {w : World} {base : Nat} {v : Value} {l : List Bs} (h : CutS w base v l) : ∃ A c, v = .slice A l.length c := by
  obtain ⟨A, _, c', e, _⟩ := h
  exact ⟨A, c', e⟩
theorem CutS.read {w : World} {base : Nat} {v : Value} {l : List Bs} (h : CutS w base v l) : StrsV w w.heap.size v l := by
  obtain ⟨A, c, c', rfl, hc, ho⟩ := h
  obtain ⟨A', c2, e, _, hx⟩ := StrsV.of_own ho
  injection e with e1 e2 e3
  subst e1
  exact ⟨_, c', rfl, hc, hx⟩
theorem CutS.own {w : World} {base : Nat} {v : Value} {l : List Bs} (h : w.ownsRow base 9 1 v l.length (l.map sv)) : CutS w base v l := by
  obtain ⟨A, c, rfl⟩ := own_shape h
  obtain ⟨A', c', e, hc, _⟩ := StrsV.of_own h
  injection e with e1 e2 e3
  subst e3
  exact ⟨A, c, c, rfl, hc, h⟩
theorem CutS.keep {w w' : World} {base : Nat} {v : Value} {l : List Bs} (h : CutS w base v l) (hb : Below w.heap.size w w') : CutS w' base v l := by
  obtain ⟨A, c, c', e, hc, ho⟩ := h
  exact ⟨A, c, c', e, hc, own_below ho hb⟩
theorem CutS.base {w : World} {base base' : Nat} {v : Value} {l : List Bs} (h : CutS w base v l) (hb : base' ≤ base) : CutS w base' v l := by
  obtain ⟨A, c, c', e, hc, ho⟩ := h
  exact ⟨A, c, c', e, hc, own_base ho hb⟩
end Go.Proofs.YtmamnmjfbadiiaaGreatDoor
/- entry: differences, walked. -/
namespace Go.Proofs.YtmamnmjfbadiiaaGreatDoor
open Go.RowKit Go.Sort
open Idn (L B Bs drop_L take_L size_L)
end Go.Proofs.YtmamnmjfbadiiaaGreatDoor
/- entry: Diff, walked. -/
namespace Go.Proofs.YtmamnmjfbadiiaaGreatDoor
open Go.RowKit Go.Sort
open Idn (L B Bs drop_L take_L size_L)
theorem sortS_any (v : Value) (q : List Bs) (base : Nat) (w : World) (hown : w.ownsRow base 9 1 v q.length (q.map sv)) (hlen : q.length ≤ 1000000000) (hb : base ≤ w.heap.size) :
    Calls Tryz.prog 48 #[v] w fun e w' => e = .returned (.tuple #[]) ∧ w'.ownsRow base 9 1 v (sorted q).length ((sorted q).map sv) ∧ Below base w w' := by
  have hsl : (sorted q).length = q.length := by simp [sorted]
  by_cases hpos : q.length = 0
  · have hq0 : q = [] := List.eq_nil_of_length_eq_zero hpos
    have hs0 : sorted q = [] := List.eq_nil_of_length_eq_zero (by omega)
    obtain ⟨A, c, rfl⟩ := own_shape hown
    have h := Tryz.slices_Sort_string_none A c w
    rw [hpos]
    refine h.mono ?_
    rintro e w1 ⟨rfl, rfl⟩
    refine ⟨rfl, ?_, Below.refl _ _⟩
    rw [hs0]
    rw [hq0] at hown
    exact hown
  · rcases id hown.2 with ⟨_, hn0⟩ | ⟨g, cap, cur, hu, hbase, _⟩
    · omega
    subst hu
    refine (sort_own g cap q base w hown (by omega) hlen hb).mono ?_
    rintro e w1 ⟨rfl, h1, h2⟩
    exact ⟨rfl, by rw [hsl]; exact h1, (Below.refl _ _).grown h2 hb (fun k hk => by injection hk with hk; omega)⟩
theorem compactS_any (v : Value) (q : List Bs) (base : Nat) (w : World) (hown : w.ownsRow base 9 1 v q.length (q.map sv)) (hlen : q.length ≤ 1000000000) (hb : base ≤ w.heap.size) :
    Calls Tryz.prog 49 #[v] w fun e w' => ∃ v', e = .returned v' ∧ w'.ownsRow base 9 1 v' (Lib.compact q).length ((Lib.compact q).map sv) ∧ Below base w w' := by
  by_cases hpos : q.length = 0
  · have hq0 : q = [] := List.eq_nil_of_length_eq_zero hpos
    have hcl := Lib.compact_length_le q
    have hs0 : Lib.compact q = [] := List.eq_nil_of_length_eq_zero (by omega)
    obtain ⟨A, c, rfl⟩ := own_shape hown
    have h := Tryz.slices_Compact_string_empty A c w
    rw [hpos]
    refine h.mono ?_
    rintro e w1 ⟨rfl, rfl⟩
    refine ⟨_, rfl, ?_, Below.refl _ _⟩
    rw [hs0]
    rw [hq0] at hown
    exact hown
  · rcases id hown.2 with ⟨_, hn0⟩ | ⟨g, cap, cur, hu, hbase, _⟩
    · omega
    subst hu
    refine (compact_own g cap q base w hown (by omega) hlen).mono ?_
    rintro e w1 ⟨rfl, h1, h2⟩
    exact ⟨_, rfl, h1, (Below.refl _ _).grown h2 hb (fun k hk => by injection hk with hk; omega)⟩
end Go.Proofs.YtmamnmjfbadiiaaGreatDoor
