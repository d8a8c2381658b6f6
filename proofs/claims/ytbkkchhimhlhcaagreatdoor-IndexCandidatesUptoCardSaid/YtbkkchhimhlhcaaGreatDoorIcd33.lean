/- Part 33 of the proof that identitylaw11.IndexCandidates returns true for every data that it may be called with: proof: the package variables hold what the program lays; nothing else is asked. -/
import Derived.Test.YtbkkchhimhlhcaaGreatDoorIcd32
import Derived.Lib.LazyBuf
import Derived.Laws.EntriesVeiled
set_option linter.unusedVariables false
set_option linter.unusedSimpArgs false
set_option maxRecDepth 100000
set_option maxHeartbeats 16000000
/- Attributes appended, cloned. -/
namespace Go.Proofs.YtbkkchhimhlhcaaGreatDoor
open Go.RowKit Go.Sort
open Idn (L B Bs drop_L take_L size_L)
theorem exL {α : Type} (Q : Nat → α → Prop) : ∀ (n : Nat), (∀ i, i < n → ∃ x, Q i x) → ∃ l : List α, l.length = n ∧ ∀ i x, l[i]? = some x → Q i x
 | 0, _ => ⟨[], rfl, fun i x h => by simp at h⟩
 | n + 1, h => by
  obtain ⟨l, h1, h2⟩ := exL Q n fun i hi => h i (by omega)
  obtain ⟨x, hx⟩ := h n (by omega)
  refine ⟨l ++ [x], by simp [h1], fun i y hy => ?_⟩
  by_cases hi : i < n
  ·rw [List.getElem?_append_left (by omega)] at hy
   exact h2 i y hy
  ·have hil := (List.getElem?_eq_some_iff.1 hy).1
   simp at hil
   have : i = n := by omega
   subst this
   rw [List.getElem?_append_right (by omega)] at hy
   simp [h1] at hy
   exact hy ▸ hx
theorem rowA_inv (ps : List (Idn.Att × Value)) (j : Nat) (u : Value) (h : (rowA ps)[j]? = some u) : ∃ i p, ps[i]? = some p ∧ ((j = i * 2 ∧ u = sv p.1.name) ∨ (j = i * 2 + 1 ∧ u = p.2)) := by
 have hj := (List.getElem?_eq_some_iff.1 h).1
 rw [rowA_len] at hj
 have hi : j / 2 < ps.length := by omega
 refine ⟨j / 2, ps[j / 2], List.getElem?_eq_getElem hi, ?_⟩
 obtain ⟨r0, r1⟩ := rowA_at ps (j / 2) _ (List.getElem?_eq_getElem hi)
 rcases Nat.mod_two_eq_zero_or_one j with h0 | h0
 ·left
  have e : j / 2 * 2 = j := by omega
  rw [e, h] at r0
  exact ⟨e.symm, by injection r0⟩
 ·right
  have e : j / 2 * 2 + 1 = j := by omega
  rw [e, h] at r1
  exact ⟨e.symm, by injection r1⟩
theorem AttsV.pairs {w : World} {hi : Nat} {A : Option Addr} {n c : Nat} {l : List Idn.Att} (h : AttsV w hi (.slice A n c) l) :
  ∃ ps : List (Idn.Att × Value), ps.map (·.1) = l ∧ (∀ p ∈ ps, StrsV w hi p.2 p.1.vals) ∧ ∀ b off, A = some ⟨b, off, none⟩ → ∀ (j : Nat) u, (rowA ps)[j]? = some u → w.cell? ⟨b, off + j, none⟩ = some u := by
 obtain ⟨ps, h1, h2⟩ := exL (fun i (p : Idn.Att × Value) => l[i]? = some p.1 ∧ StrsV w hi p.2 p.1.vals ∧ ∀ b off, A = some ⟨b, off, none⟩ → w.cell? ⟨b, off + i * 2, none⟩ = some (sv p.1.name) ∧ w.cell? ⟨b, off + i * 2 + 1, none⟩ = some p.2) l.length fun i hil => by
  obtain ⟨b, off, v, hA, hb, c0, c1, hv⟩ := AttsV.cell h hil
  refine ⟨(l[i], v), List.getElem?_eq_getElem hil, hv, fun b' off' e => ?_⟩
  subst hA
  injection e with e
  injection e with e1 e2
  subst e1 e2
  exact ⟨c0, c1⟩
 refine ⟨ps, ?_, fun p hp => ?_, fun b off hA j u hj => ?_⟩
 ·apply List.ext_getElem?
  intro i
  rw [List.getElem?_map]
  by_cases hi' : i < ps.length
  ·have := (h2 i _ (List.getElem?_eq_getElem hi')).1
   rw [List.getElem?_eq_getElem hi', this]; rfl
  ·rw [List.getElem?_eq_none (by omega), List.getElem?_eq_none (by omega)]; rfl
 ·obtain ⟨i, hi', rfl⟩ := List.getElem_of_mem hp
  exact (h2 i _ (List.getElem?_eq_getElem hi')).2.1
 ·obtain ⟨i, p, hp, hx⟩ := rowA_inv ps j u hj
  obtain ⟨x0, x1⟩ := (h2 i p hp).2.2 b off hA
  rcases hx with ⟨rfl, rfl⟩ | ⟨rfl, rfl⟩
  ·exact x0
  ·rw [← Nat.add_assoc]; exact x1
section
variable {w : World} {ops : Array Oper} {rest : List Oper} {o : Oper} {a : Act} {Q : Exit → Act → World → Prop}
end
end Go.Proofs.YtbkkchhimhlhcaaGreatDoor
/- entry: Normal. -/
namespace Go.Proofs.YtbkkchhimhlhcaaGreatDoor
open Go.RowKit Go.Sort
open Idn (L B Bs drop_L take_L size_L)
theorem AttOwn.add {w w' : World} {base : Nat} {v v' u : Value} {ps : List (Idn.Att × Value)} {n : Bs} {vals : List Bs} (h : AttOwn w base v ps) (hown : w'.ownsRow base 96 2 v' (ps.length + 1) (rowA ps ++ [sv n, u])) (hg : w.grownBy w' v.ownBlock) (hu : w.ownsRow base 9 1 u vals.length (vals.map sv))
  (hap : ∀ p ∈ ps, ∀ g, u.ownBlock = some g → p.2.ownBlock ≠ some g) : AttOwn w' base v' (ps ++ [(⟨n, vals⟩, u)]) := by
 refine ⟨?_, ?_, ?_⟩
 ·rw [List.length_append, rowA, List.flatMap_append]; exact hown
 ·intro p hp
  rcases List.mem_append.1 hp with hp | hp
  ·exact own_kept (h.2.1 p hp) hg fun g h1 h2 => own_apart h.1 (h.2.1 p hp) (by decide) g h2 h1
  ·simp at hp; subst hp
   exact own_kept hu hg fun g h1 h2 => own_apart h.1 hu (by decide) g h2 h1
 ·rw [List.pairwise_append]
  refine ⟨h.2.2, by simp, fun p hp q hq g hg' hx => ?_⟩
  simp at hq; subst hq
  exact hap p hp g hx hg'
theorem AttOwn.base {w : World} {base base' : Nat} {v : Value} {ps : List (Idn.Att × Value)} (h : AttOwn w base v ps) (hb : base' ≤ base) : AttOwn w base' v ps :=
 ⟨own_base h.1 hb, fun p hp => own_base (h.2.1 p hp) hb, h.2.2⟩
theorem RowV.atts {w : World} {base : Nat} {v : Value} {ps : List (Idn.Att × Value)} {l : List Idn.Att} (h : RowV w base v ps) (hl : ps.map (·.1) = l) (hv : ∀ p ∈ ps, StrsV w w.heap.size p.2 p.1.vals) : AttsV w w.heap.size v l := by
 subst hl
 have h0 := h.1
 rw [show ps.length = (ps.map (·.1)).length by simp] at h0
 refine SlV.own h0 fun i x hx => ?_
 rw [List.getElem?_map] at hx
 obtain ⟨p, hp, rfl⟩ := Option.map_eq_some_iff.1 hx
 obtain ⟨e1, e2⟩ := rowA_at ps i p hp
 refine ⟨[sv p.1.name, p.2], rfl, ⟨p.2, rfl, hv p (List.mem_of_getElem? hp)⟩, fun j u hj => ?_⟩
 match j, hj with
 | 0, hj => simp at hj; subst hj; exact e1
 | 1, hj => simp at hj; subst hj; exact e2
end Go.Proofs.YtbkkchhimhlhcaaGreatDoor
/- What calls hand back: attributes, entries, in rows of the call's own. -/
namespace Go.Proofs.YtbkkchhimhlhcaaGreatDoor
open Go.RowKit Go.Sort
open Idn (L B Bs)
end Go.Proofs.YtbkkchhimhlhcaaGreatDoor
/- entry: Normal, walked. -/
namespace Go.Proofs.YtbkkchhimhlhcaaGreatDoor
open Go.RowKit Go.Sort
open Idn (L B Bs drop_L take_L size_L)
end Go.Proofs.YtbkkchhimhlhcaaGreatDoor
/- law08: Small, short, ann, small. -/
namespace Go.Proofs.YtbkkchhimhlhcaaGreatDoor
open Go.RowKit Go.Sort
open Idn (L B Bs drop_L take_L size_L)
def OkA (a : Idn.Att) : Prop := a.vals.length ≤ 20 ∧ a.name.length ≤ 100 ∧ ∀ x ∈ a.vals, x.length ≤ 300
def ASmall (l : List Idn.Att) : Prop := l.length ≤ 40 ∧ ∀ a ∈ l, OkA a
def ALen8 (l : List Idn.Att) : Prop := l.length ≤ 9223372036854775807 ∧ ∀ a ∈ l, a.vals.length ≤ 9223372036854775807
theorem ASmall.sm {l : List Idn.Att} (h : ASmall l) : ASm l ∧ ASm5 l ∧ Idn.ASm7 l := by
 refine ⟨⟨by have := h.1; omega, fun a ha => ?_⟩, fun a ha => ?_, ⟨by have := h.1; omega, fun a ha => ?_⟩⟩
 all_goals
  obtain ⟨h1, h2, h3⟩ := h.2 a ha
 ·exact ⟨by omega, by omega, fun x hx => by have := h3 x hx; omega⟩
 ·exact ⟨by omega, fun x hx => by have := h3 x hx; omega⟩
 ·exact ⟨by omega, by omega, fun x hx => by have := h3 x hx; omega⟩
end Go.Proofs.YtbkkchhimhlhcaaGreatDoor
/- identityref02.Great; identityref09: great, Great. -/
namespace Go.Proofs.YtbkkchhimhlhcaaGreatDoor
open Go.RowKit Go.Sort
open Idn (L B Bs drop_L take_L size_L)
mutual
def fLen : Flt → Prop
 | .mk _ _ _ ps ks => ps.length ≤ 9223372036854775807 ∧ ks.length ≤ 9223372036854775807 ∧ fLens ks
def fLens : List Flt → Prop
 | [] => True
 | f :: l => fLen f ∧ fLens l
end
theorem fLens_all {l : List Flt} : fLens l ↔ ∀ f ∈ l, fLen f := by
 induction l with
 | nil => simp [fLens]
 | cons f l ih => rw [fLens, List.forall_mem_cons, ih]
theorem FltsV.kid {w : World} {hi d : Nat} {A : Option Addr} {n c : Nat} {l : List Flt} (h : FltsV w hi d (.slice A n c) l) {k : Nat} (hk : k < l.length) :
  ∃ b off pv kv, A = some ⟨b, off, none⟩ ∧ b < hi ∧ w.cell? ⟨b, off + k * 5, none⟩ = some (.int .i64 l[k].kind) ∧ w.cell? ⟨b, off + k * 5 + 1, none⟩ = some (.string (B l[k].name)) ∧ w.cell? ⟨b, off + k * 5 + 2, none⟩ = some (.string (B l[k].value)) ∧
   w.cell? ⟨b, off + k * 5 + 3, none⟩ = some pv ∧ w.cell? ⟨b, off + k * 5 + 4, none⟩ = some kv ∧ 0 < d ∧ FltV w hi (d - 1) (.agg #[.int .i64 l[k].kind, .string (B l[k].name), .string (B l[k].value), pv, kv]) l[k] := by
 obtain ⟨b, off, pv, kv, h1, h2, h3, h4, h5, h6, h7, h8, h9, h10⟩ := h.cell hk
 exact ⟨b, off, pv, kv, h1, h2, h3, h4, h5, h6, h7, h8, pv, kv, rfl, h9, h10⟩
end Go.Proofs.YtbkkchhimhlhcaaGreatDoor
/- attrs: set, limited. -/
namespace Go.Proofs.YtbkkchhimhlhcaaGreatDoor
open Go.RowKit Go.Sort
open Idn (L B Bs drop_L take_L size_L)
end Go.Proofs.YtbkkchhimhlhcaaGreatDoor
/- attrs: Add. -/
namespace Go.Proofs.YtbkkchhimhlhcaaGreatDoor
open Go.RowKit Go.Sort
open Idn (L B Bs drop_L take_L size_L)
section
variable {P : Program} {w : World} {ops : Array Oper} {rest : List Oper} {o : Oper} {a : Act} {Q : Exit → Act → World → Prop}
end
end Go.Proofs.YtbkkchhimhlhcaaGreatDoor
/- attrs: Replace. -/
namespace Go.Proofs.YtbkkchhimhlhcaaGreatDoor
open Go.RowKit Go.Sort
open Idn (L B Bs drop_L take_L size_L)
theorem cloneS_any (v : Value) (l : List Bs) (w : World) (hv : StrsV w w.heap.size v l) (hl : l.length ≤ 1000000000) :
  Calls Tryz.prog 123 #[v] w fun e w' => ∃ v', e = .returned v' ∧ w'.ownsRow w.heap.size 9 1 v' l.length (l.map sv) ∧ Below w.heap.size w w' := by
 obtain ⟨A, c, rfl, hc⟩ := hv.shape
 by_cases h0 : l.length = 0
 ·have hl0 : l = [] := List.eq_nil_of_length_eq_zero h0
  subst hl0
  cases A with
  | none => exact (Tryz.slices_Clone_string_nil 0 c w).mono fun e w' ⟨h1, h2⟩ => ⟨_, h1, by rw [h2]; exact World.ownsRow_nil _ _ _ _, by rw [h2]; exact Below.refl _ _⟩
  | some a => exact (Tryz.slices_Clone_string_zero a c w).mono fun e w' ⟨v', h1, h2, _, h4⟩ => ⟨v', h1, h2, h4⟩
 ·obtain ⟨b, off, rfl, hb, _⟩ := StrsV.cell hv (k := 0) (by omega)
  refine (Tryz.slices_Clone_string b off l.length c (l.map B) w (by simp) (by omega) (fun j hj => ?_)).mono fun e w' ⟨v', h1, h2, _, h4⟩ => ⟨v', h1, ?_, h4⟩
  ·rw [List.length_map] at hj
   obtain ⟨b', off', hA', _, hcc⟩ := StrsV.cell hv hj
   injection hA' with hA'
   injection hA' with h1 h2
   subst h1 h2
   rw [hcc]
   simp [List.getD_eq_getElem?_getD, hj]
  ·have e : ((l.map B).take l.length).map Value.string = l.map sv := by
    rw [List.take_of_length_le (by simp), List.map_map]; rfl
   rw [e] at h2; exact h2
end Go.Proofs.YtbkkchhimhlhcaaGreatDoor
/- entry: same. -/
namespace Go.Proofs.YtbkkchhimhlhcaaGreatDoor
open Go.RowKit Go.Sort
open Idn (L B Bs drop_L take_L size_L)
end Go.Proofs.YtbkkchhimhlhcaaGreatDoor
/- entry: same, the loop. -/
namespace Go.Proofs.YtbkkchhimhlhcaaGreatDoor
open Go.RowKit Go.Sort
open Idn (L B Bs drop_L take_L size_L)
end Go.Proofs.YtbkkchhimhlhcaaGreatDoor
/- identityref08: SameStrings, SameMods. -/
namespace Go.Proofs.YtbkkchhimhlhcaaGreatDoor
open Go.RowKit Go.Sort
open Idn (L B Bs drop_L take_L size_L)
end Go.Proofs.YtbkkchhimhlhcaaGreatDoor
/- filter: printable, parts, formed; slices.IndexFunc, ContainsFunc at filters. -/
namespace Go.Proofs.YtbkkchhimhlhcaaGreatDoor
open Go.RowKit Go.Sort
open Idn (L B Bs drop_L take_L size_L)
theorem FltsV.kid2 {w : World} {hi d : Nat} {A : Option Addr} {n c : Nat} {l : List Flt} (h : FltsV w hi d (.slice A n c) l) {k : Nat} (hk : k < l.length) :
  ∃ b off Ap cp Ak ck, A = some ⟨b, off, none⟩ ∧ b < hi ∧ w.cell? ⟨b, off + k * 5, none⟩ = some (.int .i64 l[k].kind) ∧ w.cell? ⟨b, off + k * 5 + 1, none⟩ = some (.string (B l[k].name)) ∧ w.cell? ⟨b, off + k * 5 + 2, none⟩ = some (.string (B l[k].value)) ∧
   w.cell? ⟨b, off + k * 5 + 3, none⟩ = some (.slice Ap l[k].parts.length cp) ∧ w.cell? ⟨b, off + k * 5 + 4, none⟩ = some (.slice Ak l[k].kids.length ck) ∧ 0 < d ∧ FltV w hi (d - 1) (.agg #[.int .i64 l[k].kind, .string (B l[k].name), .string (B l[k].value), .slice Ap l[k].parts.length cp, .slice Ak l[k].kids.length ck]) l[k] := by
 obtain ⟨b, off, pv, kv, h1, h2, h3, h4, h5, h6, h7, h8, h9, h10⟩ := h.cell hk
 obtain ⟨Ap, cp, rfl, _⟩ := SlV.shape h9
 obtain ⟨Ak, ck, rfl, _⟩ := SlV.shape h10
 exact ⟨b, off, Ap, cp, Ak, ck, h1, h2, h3, h4, h5, h6, h7, h8, _, _, rfl, h9, h10⟩
theorem FltV.shape {w : World} {hi d : Nat} {v : Value} {f : Flt} (h : FltV w hi d v f) : ∃ Ap cp Ak ck, v = .agg #[.int .i64 f.kind, .string (B f.name), .string (B f.value), .slice Ap f.parts.length cp, .slice Ak f.kids.length ck] ∧
  StrsV w hi (.slice Ap f.parts.length cp) f.parts ∧ FltsV w hi d (.slice Ak f.kids.length ck) f.kids := by
 obtain ⟨pv, kv, rfl, hp, hk⟩ := h
 obtain ⟨Ap, cp, rfl, _⟩ := SlV.shape hp
 obtain ⟨Ak, ck, rfl, _⟩ := SlV.shape hk
 exact ⟨Ap, cp, Ak, ck, rfl, hp, hk⟩
def FiveAt (W : World) (p : Nat) (a b c d e : Value) : Prop := W.cell? ⟨p, 0, none⟩ = some a ∧ W.cell? ⟨p, 1, none⟩ = some b ∧ W.cell? ⟨p, 2, none⟩ = some c ∧ W.cell? ⟨p, 3, none⟩ = some d ∧ W.cell? ⟨p, 4, none⟩ = some e
theorem FiveAt.later {w W : World} {p : Nat} {a b c d e : Value} (h : FiveAt w p a b c d e) (hb : Below w.heap.size w W) : FiveAt W p a b c d e :=
 ⟨cell_later hb h.1, cell_later hb h.2.1, cell_later hb h.2.2.1, cell_later hb h.2.2.2.1, cell_later hb h.2.2.2.2⟩
end Go.Proofs.YtbkkchhimhlhcaaGreatDoor
/- filter: Nodes, deep, check, Check. -/
namespace Go.Proofs.YtbkkchhimhlhcaaGreatDoor
open Go.RowKit Go.Sort
open Idn (L B Bs drop_L take_L size_L)
end Go.Proofs.YtbkkchhimhlhcaaGreatDoor
/- filter: comparison, check, Check. -/
namespace Go.Proofs.YtbkkchhimhlhcaaGreatDoor
open Go.RowKit Go.Sort
open Idn (L B Bs drop_L take_L size_L)
end Go.Proofs.YtbkkchhimhlhcaaGreatDoor
/- A row of modifications of the call's own, whose values lie in rows of the call's own. -/
namespace Go.Proofs.YtbkkchhimhlhcaaGreatDoor
open Go.RowKit Go.Sort
open Idn (L B Bs)
theorem own_apart2 {w : World} {base base' : Nat} {e e' : TypeId} {size size' : Nat} {v v' : Value} {n n' : Nat} {xs xs' : List Value} (h : w.ownsRow base e size v n xs) (h' : w.ownsRow base' e' size' v' n' xs') (hne : e ≠ e') : ∀ g, v.ownBlock = some g → v'.ownBlock ≠ some g := by
 rcases h.2 with ⟨rfl, _⟩ | ⟨g1, cap, cur, rfl, _, hg, _⟩
 ·intro g hg; simp [Value.ownBlock] at hg
 ·rcases h'.2 with ⟨rfl, _⟩ | ⟨g2, cap2, cur2, rfl, _, hg2, _⟩
  ·intro g _; simp [Value.ownBlock]
  ·intro g h1 h2
   simp [Value.ownBlock] at h1 h2
   subst h1 h2
   rw [hg] at hg2
   injection hg2 with hg2
   injection hg2 with _ ht
   exact hne ht
theorem own_open {w : World} {base : Nat} {e : TypeId} {size n n' c : Nat} {A : Option Addr} {xs : List Value} (h : w.ownsRow base e size (.slice A n c) n' xs) (hpos : 0 < n') : ∃ g, A = some ⟨g, 0, none⟩ ∧ ∀ (j : Nat) u, xs[j]? = some u → w.cell? ⟨g, j, none⟩ = some u := by
 rcases id h.2 with ⟨_, hn⟩ | ⟨g, cap, cur, hv, _⟩
 ·omega
 ·injection hv with h1 h2 h3
  subst h1 h2 h3
  exact ⟨g, rfl, (own_cell h).1⟩
def CutS (w : World) (base : Nat) (v : Value) (l : List Bs) : Prop := ∃ A c c', v = .slice A l.length c' ∧ l.length ≤ c' ∧ w.ownsRow base 9 1 (.slice A l.length c) l.length (l.map sv)
theorem CutS.nil (w : World) (base : Nat) : CutS w base (.slice none 0 0) [] := ⟨none, 0, 0, rfl, Nat.le_refl _, World.ownsRow_nil _ _ _ _⟩
theorem CutS.shape {w : World} {base : Nat} {v : Value} {l : List Bs} (h : CutS w base v l) : ∃ A c, v = .slice A l.length c := by
 obtain ⟨A, _, c', e, _⟩ := h
 exact ⟨A, c', e⟩
theorem CutS.read {w : World} {base : Nat} {v : Value} {l : List Bs} (h : CutS w base v l) : StrsV w w.heap.size v l := by
 obtain ⟨A, c, c', rfl, hc, ho⟩ := h
 obtain ⟨A', c2, e, _, hx⟩ := StrsV.of_own ho
 injection e with e1 e2 e3
 subst e1
 exact ⟨_, c', rfl, hc, hx⟩
theorem CutS.own {w : World} {base : Nat} {v : Value} {l : List Bs} (h : w.ownsRow base 9 1 v l.length (l.map sv)) : CutS w base v l := by
 obtain ⟨A, c, rfl⟩ := own_shape h
 obtain ⟨A', c', e, hc, _⟩ := StrsV.of_own h
 injection e with e1 e2 e3
 subst e3
 exact ⟨A, c, c, rfl, hc, h⟩
theorem CutS.keep {w w' : World} {base : Nat} {v : Value} {l : List Bs} (h : CutS w base v l) (hb : Below w.heap.size w w') : CutS w' base v l := by
 obtain ⟨A, c, c', e, hc, ho⟩ := h
 exact ⟨A, c, c', e, hc, own_below ho hb⟩
theorem CutS.base {w : World} {base base' : Nat} {v : Value} {l : List Bs} (h : CutS w base v l) (hb : base' ≤ base) : CutS w base' v l := by
 obtain ⟨A, c, c', e, hc, ho⟩ := h
 exact ⟨A, c, c', e, hc, own_base ho hb⟩
end Go.Proofs.YtbkkchhimhlhcaaGreatDoor
/- filter.exact, fold.Match. -/
namespace Go.Proofs.YtbkkchhimhlhcaaGreatDoor
open Go.RowKit Go.Sort
open Idn (L B Bs drop_L take_L size_L)
end Go.Proofs.YtbkkchhimhlhcaaGreatDoor
/- filter: satisfies, match, Match. -/
namespace Go.Proofs.YtbkkchhimhlhcaaGreatDoor
open Go.RowKit Go.Sort
open Idn (L B Bs drop_L take_L size_L)
def AGet (A : List Idn.Att) : Prop := Idn.ASm7 A ∧ ∀ n, (rGet A n).length ≤ 1000000000 ∧ ∀ x ∈ rGet A n, x.length ≤ 100000000
end Go.Proofs.YtbkkchhimhlhcaaGreatDoor
/- entry: differences, walked. -/
namespace Go.Proofs.YtbkkchhimhlhcaaGreatDoor
open Go.RowKit Go.Sort
open Idn (L B Bs drop_L take_L size_L)
end Go.Proofs.YtbkkchhimhlhcaaGreatDoor
/- entry: Diff, walked. -/
namespace Go.Proofs.YtbkkchhimhlhcaaGreatDoor
open Go.RowKit Go.Sort
open Idn (L B Bs drop_L take_L size_L)
end Go.Proofs.YtbkkchhimhlhcaaGreatDoor
/- filter: Names. -/
namespace Go.Proofs.YtbkkchhimhlhcaaGreatDoor
open Go.RowKit Go.Sort
open Idn (L B Bs drop_L take_L size_L)
structure OutAt (w : World) (p q base : Nat) (acc : List Bs) (fv : Value) : Prop where
 row : ∃ A c, w.cell? ⟨p, 0, none⟩ = some (.slice A acc.length c) ∧ w.ownsRow base 9 1 (.slice A acc.length c) acc.length (acc.map sv)
 fz : w.frozen? ⟨p, 0, none⟩ = false
 fn : w.cell? ⟨q, 0, none⟩ = some fv
 lt : p < q ∧ q < base ∧ base ≤ w.heap.size
theorem OutAt.later {w W : World} {p q base : Nat} {acc : List Bs} {fv : Value} (h : OutAt w p q base acc fv) (hb : Below w.heap.size w W) : OutAt W p q base acc fv := by
 obtain ⟨⟨A, c, h1, h2⟩, h3, h4, h5, h6, h7⟩ := h
 exact ⟨⟨A, c, cell_later hb h1, own_below h2 hb⟩, frozen_later hb h3 (by omega), cell_later hb h4, h5, h6, Nat.le_trans h7 hb.size⟩
end Go.Proofs.YtbkkchhimhlhcaaGreatDoor
