/- Part 48 of the proof that identitylaw08.EntryApplies returns true: the package variables hold what the program lays; nothing else is asked. -/
import Derived.Test.YtoopoglkeeoamaaGreatDoorEap47
set_option linter.unusedVariables false
set_option linter.unusedSimpArgs false
set_option maxRecDepth 100000
set_option maxHeartbeats 8000000
/- law08: Small, short, ann, small. -/
namespace Go.Proofs.YtoopoglkeeoamaaGreatDoor
open Go.RowKit Go.Sort
open Idn (L B Bs drop_L take_L size_L)
def RetB (p : Prop) (w : World) (e : Ending) (w' : World) : Prop := ∃ r, e = .returned (.bool r) ∧ (r = true → p) ∧ Below w.heap.size w w'
def OkA (a : Idn.Att) : Prop := a.vals.length ≤ 20 ∧ a.name.length ≤ 100 ∧ ∀ x ∈ a.vals, x.length ≤ 300
def ASmall (l : List Idn.Att) : Prop := l.length ≤ 40 ∧ ∀ a ∈ l, OkA a
def ALen8 (l : List Idn.Att) : Prop := l.length ≤ 9223372036854775807 ∧ ∀ a ∈ l, a.vals.length ≤ 9223372036854775807
theorem all_take {α : Type} {p : α → Prop} {l : List α} {k : Nat} (h : ∀ x ∈ l.take k, p x) (hk : k < l.length) (hp : p l[k]) : ∀ x ∈ l.take (k + 1), p x := by
 intro x hx
 rw [List.take_succ_eq_append_getElem hk] at hx
 rcases List.mem_append.1 hx with hx | hx
 ·exact h x hx
 ·rw [List.mem_singleton] at hx; subst hx; exact hp
theorem r8_Small_any (v : Value) (l : List Idn.Att) (w : World) (hv : AttsV w w.heap.size v l) (hl : ALen8 l) :
  Calls Tryz.prog 36 #[v] w (RetB (ASmall l) w) := by
 obtain ⟨A, c, rfl, _⟩ := SlV.shape hv
 have hl1 := hl.1
 go_enter Tryz.func36, Tryz.ntmps36
 by_cases h40 : 40 < l.length
 ·have hI : (40 : Int) < (l.length : Int) := by omega
  go_wp2_with fail
  go_ret
  exact ⟨false, rfl, nofun, Below.refl _ _⟩
 have hI : ¬ (40 : Int) < (l.length : Int) := by omega
 go_wp2_with fail
 go_loop [3, 4] (fun n i => ∃ (k s : Nat), k ≤ l.length ∧ n = .int .i64 s ∧ i = .int .i64 k ∧ s ≤ k * 6020 ∧ Hid (∀ a ∈ l.take k, OkA a)) (fun _ i => l.length - (intOf i).toNat)
 case atStart => exact ⟨0, 0, Nat.zero_le _, rfl, rfl, Nat.le_refl _, by show ∀ a ∈ _, _; simp⟩
 case round =>
  obtain ⟨k, s, hk, rfl, rfl, hs, hinv⟩ := hrel
  by_cases hlt : k < l.length
  ·obtain ⟨b, off, vk, hA, hbk, d0, d1, hvk⟩ := AttsV.cell hv hlt
   subst hA
   obtain ⟨Ak, ck, rfl, _⟩ := SlV.shape hvk
   have hltI : (k : Int) < (l.length : Int) := by omega
   have hvl9 := hl.2 l[k] (List.getElem_mem hlt)
   have hnb := Idn.size_B l[k].name
   by_cases h20 : 20 < l[k].vals.length
   ·have h2 : (20 : Int) < (l[k].vals.length : Int) := by omega
    clear hinv h20
    go_wp2_with fail
    go_ret
    exact ⟨false, rfl, nofun, Below.refl _ _⟩
   have h2 : ¬ (20 : Int) < (l[k].vals.length : Int) := by omega
   by_cases h100 : 100 < l[k].name.length
   ·have h3 : (100 : Int) < ((B l[k].name).size : Int) := by omega
    clear hinv h20 h100 hnb
    go_wp2_with fail
    go_ret
    exact ⟨false, rfl, nofun, Below.refl _ _⟩
   have h3 : ¬ (100 : Int) < ((B l[k].name).size : Int) := by omega
   have hkk : k * 6020 ≤ 40 * 6020 := Nat.mul_le_mul_right _ (by omega)
   clear hnb
   go_wp2_with fail
   go_loop [3, 5] (fun n i => ∃ (j t : Nat), j ≤ l[k].vals.length ∧ n = .int .i64 t ∧ i = .int .i64 j ∧ t ≤ k * 6020 + j * 301 ∧ Hid (∀ x ∈ l[k].vals.take j, x.length ≤ 300)) (fun _ i => l[k].vals.length - (intOf i).toNat)
   case atStart => exact ⟨0, s, Nat.zero_le _, rfl, rfl, by omega, by show ∀ x ∈ _, _; simp⟩
   case round =>
    obtain ⟨j, t, hj, rfl, rfl, ht, hix⟩ := hrel
    by_cases hjl : j < l[k].vals.length
    ·obtain ⟨b2, o2, hA2, hb2, e0⟩ := StrsV.cell hvk hjl
     subst hA2
     have hjI : (j : Int) < (l[k].vals.length : Int) := by omega
     have hxb := Idn.size_B l[k].vals[j]
     by_cases h300 : 300 < l[k].vals[j].length
     ·have h4 : (300 : Int) < ((B l[k].vals[j]).size : Int) := by omega
      clear hinv hix h300 hxb
      go_wp2_with fail
      go_ret
      exact ⟨false, rfl, nofun, Below.refl _ _⟩
     have h4 : ¬ (300 : Int) < ((B l[k].vals[j]).size : Int) := by omega
     have HX := Lib.hid (all_take hix.out hjl (by omega))
     have w1 : IntKind.i64.wrap ((t : Int) + ((B l[k].vals[j]).size : Int)) = (t : Int) + ((B l[k].vals[j]).size : Int) := IntWalk.i64_in _ (by omega)
     have w2 : IntKind.i64.wrap ((t : Int) + ((B l[k].vals[j]).size : Int) + 1) = (t : Int) + ((B l[k].vals[j]).size : Int) + 1 := IntWalk.i64_in _ (by omega)
     have hz : (B l[k].vals[j]).size ≤ 300 := by omega
     clear hix h300 hxb
     go_wp2_with fail
     go_round
     case rel => exact ⟨j + 1, t + (B l[k].vals[j]).size + 1, by omega, by congr 1, by go_num, by omega, HX⟩
     case measure => simp [intOf]; omega
    ·have hjI : ¬ (j : Int) < (l[k].vals.length : Int) := by omega
     have HK : Hid (∀ a ∈ l.take (k + 1), OkA a) := all_take hinv.out hlt ⟨by omega, by omega, by
      have h := hix.out
      rwa [List.take_of_length_le (by omega)] at h⟩
     clear hinv hix
     go_wp2_with fail
     go_round
     case rel => exact ⟨k + 1, t, by omega, rfl, by go_num, by omega, HK⟩
     case measure => simp [intOf]; omega
  ·have hltI : ¬ (k : Int) < (l.length : Int) := by omega
   have HK : Hid (ASmall l) := ⟨by omega, by
    have h := hinv.out
    rwa [List.take_of_length_le (by omega)] at h⟩
   clear hinv
   go_wp2_with fail
   go_ret
   exact ⟨_, rfl, fun _ => HK.out, Below.refl _ _⟩
theorem short8_any (n : ByteArray) (a : Value) (l : List Idn.Att) (w : World) (hv : AttsV w w.heap.size a l) (hl : ALen8 l) (hn : n.size ≤ 9223372036854775807) :
  Calls Tryz.prog 12 #[.agg #[.string n, a]] w (RetB (n.size ≤ 1000 ∧ ASmall l) w) := by
 have hS := fun W (hW : Below w.heap.size w W) => r8_Small_any a l W (AttsV.mono (AttsV.keep hv hW) hW.size) hl
 obtain ⟨A, c, rfl, hc⟩ := SlV.shape hv
 go_enter Tryz.func12, Tryz.ntmps12
 go_upto_region 1 with fail
 with_reducible refine gen1 (R := fun W => Code.wp Tryz.prog _ _ _ W) ?_
 intro W hbW hszW hc1 _
 have a0 : W.cell? ⟨w.heap.size, 0, none⟩ = some (.string n) := hc1 0 _ rfl
 have a1 : W.cell? ⟨w.heap.size, 1, none⟩ = some (.slice A l.length c) := hc1 1 _ rfl
 clear hc1 hszW
 by_cases h1 : n.size ≤ 1000
 ·have hI : (n.size : Int) ≤ 1000 := by omega
  go_wp2_with fail
  refine (hS W hbW).mono ?_
  rintro e w1 ⟨r, rfl, hr, hb1⟩
  have HR := Lib.hid hr
  clear hr
  go_wp2_with fail
  go_ret
  exact ⟨r, rfl, fun h => ⟨h1, HR.out h⟩, hbW.trans (hb1.mono hbW.size)⟩
 ·have hI : ¬ (n.size : Int) ≤ 1000 := by omega
  go_wp2_with fail
  go_ret
  exact ⟨false, rfl, nofun, hbW⟩
theorem ann_any (A : Option Addr) (n c : Nat) (w : World) :
  Calls Tryz.prog 37 #[.slice A n c] w fun e w' => e = .returned (.agg #[.string ⟨#[99, 110, 61, 97, 110, 110]⟩, .slice A n c]) ∧ Below w.heap.size w w' := by
 go_enter Tryz.func37, Tryz.ntmps37
 go_upto_region 1 with fail
 with_reducible refine gen1 (R := fun W => Code.wp Tryz.prog _ _ _ W) ?_
 intro W hbW hszW hc1 hfz
 have z0 : W.cell? ⟨w.heap.size, 0, none⟩ = some (.string ⟨#[]⟩) := hc1 0 _ rfl
 have z1 : W.cell? ⟨w.heap.size, 1, none⟩ = some (.slice none 0 0) := hc1 1 _ rfl
 have g0 := hfz 0
 have g1 := hfz 1
 clear hc1 hfz
 go_wp2_with fail
 exact bodyPost_ret (v := .agg #[.string ⟨#[99, 110, 61, 97, 110, 110]⟩, .slice A n c]) (by simp [results, Tryz.results37, go_sem, z0, z1, g0, g1]) rfl ⟨rfl, (hbW.setCell (p := ⟨w.heap.size, 0, none⟩) (Nat.le_refl _) _).setCell (p := ⟨w.heap.size, 1, none⟩) (Nat.le_refl _) _⟩
theorem twoS {W : World} {v : Value} {x y : Bs} {e : TypeId} (h : W.ownsRow 0 e 1 v 2 [sv x, sv y]) : StrsV W W.heap.size v [x, y] := StrsV.of_own (l := [x, y]) h
theorem small8_any (w : World) :
    Calls Tryz.prog 38 #[] w fun e w' => ∃ v, e = .returned v ∧ SchV w' w'.heap.size v E8.smallS ∧ Below w.heap.size w w' := by
  go_enter Tryz.func38, Tryz.ntmps38
  go_wp2
  with_reducible refine genW (R := fun W => bodyPost _ _ _ _ _ W) (Q := fun W => (W.cell? ⟨w.heap.size, 0, none⟩ = some (.slice (some ⟨w.heap.size + 1, 0, none⟩) 4 4) ∧ W.cell? ⟨w.heap.size, 1, none⟩ = some (.slice (some ⟨w.heap.size + 1 + 1 + 1 + 1, 0, none⟩) 1 1)) ∧
    SchV W W.heap.size (.agg #[.slice (some ⟨w.heap.size + 1, 0, none⟩) 4 4, .slice (some ⟨w.heap.size + 1 + 1 + 1 + 1, 0, none⟩) 1 1]) E8.smallS ∧ Below w.heap.size w W) ?_ ?_
  · refine ⟨⟨?_, ?_⟩, ⟨_, _, rfl, ?_, ?_⟩, ?_⟩
    · refine Eq.trans (World.ownsRow.cellAt (n := 1) (size := 2) ((((((litR w _ 1 2 _ _ rfl (by decide) rfl).alloc _).alloc _).alloc _).alloc _)) 0 (by decide)) ?_
      rfl
    · refine Eq.trans (World.ownsRow.cellAt (n := 1) (size := 2) ((((((litR w _ 1 2 _ _ rfl (by decide) rfl).alloc _).alloc _).alloc _).alloc _)) 1 (by decide)) ?_
      rfl
    · refine SlV.own ((((litR _ _ 4 3 _ _ (by simp) (by decide) rfl).alloc _).alloc _).alloc _) fun i x hx => ?_
      match i, hx with
      | 0, hx => injection hx with hx; subst hx; exact ⟨_, rfl, rfl, fun j u hj => by match j, hj with | 0, hj => exact hj | 1, hj => exact hj | 2, hj => exact hj⟩
      | 1, hx => injection hx with hx; subst hx; exact ⟨_, rfl, rfl, fun j u hj => by match j, hj with | 0, hj => exact hj | 1, hj => exact hj | 2, hj => exact hj⟩
      | 2, hx => injection hx with hx; subst hx; exact ⟨_, rfl, rfl, fun j u hj => by match j, hj with | 0, hj => exact hj | 1, hj => exact hj | 2, hj => exact hj⟩
      | 3, hx => injection hx with hx; subst hx; exact ⟨_, rfl, rfl, fun j u hj => by match j, hj with | 0, hj => exact hj | 1, hj => exact hj | 2, hj => exact hj⟩
    · refine SlV.own (litR _ _ 1 4 _ _ (by simp) (by decide) rfl) fun i x hx => ?_
      match i, hx with
      | 0, hx =>
        injection hx with hx; subst hx
        exact ⟨[sv E8.personN, sv [], .slice (some ⟨w.heap.size + 1 + 1, 0, none⟩) 2 2, .slice (some ⟨w.heap.size + 1 + 1 + 1, 0, none⟩) 2 2], rfl, ⟨_, _, rfl, twoS (((litR _ _ 2 1 _ _ (by simp) (by decide) rfl).alloc _).alloc _), twoS ((litR _ _ 2 1 _ _ (by simp) (by decide) rfl).alloc _)⟩, fun j u hj => by match j, hj with | 0, hj => exact hj | 1, hj => exact hj | 2, hj => exact hj | 3, hj => exact hj⟩
    · repeat (first | with_reducible exact Below.refl _ _ | with_reducible refine Below.lay ?_ _)
  · rintro W ⟨⟨k0, k1⟩, hS, hb⟩
    exact bodyPost_ret (by simp [results, Tryz.results38, go_sem, k0, k1]) rfl ⟨_, rfl, hS, hb⟩
end Go.Proofs.YtoopoglkeeoamaaGreatDoor
/- law08: few; identityref08: SmallSchema. -/
namespace Go.Proofs.YtoopoglkeeoamaaGreatDoor
open Go.RowKit Go.Sort
open Idn (L B Bs drop_L take_L size_L)
def OkM (a : Md) : Prop := a.vals.length ≤ 20 ∧ a.name.length ≤ 100 ∧ ∀ x ∈ a.vals, x.length ≤ 300
def MFew (l : List Md) : Prop := l.length ≤ 41 ∧ ∀ a ∈ l, OkM a
def MLen8 (l : List Md) : Prop := l.length ≤ 9223372036854775807 ∧ ∀ a ∈ l, a.vals.length ≤ 9223372036854775807
theorem few8_any (v : Value) (l : List Md) (w : World) (hv : ModsV w w.heap.size v l) (hl : MLen8 l) :
  Calls Tryz.prog 20 #[v] w (RetB (MFew l) w) := by
 obtain ⟨A, c, rfl, _⟩ := SlV.shape hv
 have hl1 := hl.1
 go_enter Tryz.func20, Tryz.ntmps20
 go_wp2_with fail
 go_loop [3, 4] (fun n i => ∃ (k s : Nat), k ≤ l.length ∧ k ≤ 41 ∧ n = .int .i64 s ∧ i = .int .i64 k ∧ s ≤ k * 6020 ∧ Hid (∀ a ∈ l.take k, OkM a)) (fun _ i => l.length - (intOf i).toNat)
 case atStart => exact ⟨0, 0, Nat.zero_le _, by omega, rfl, rfl, Nat.le_refl _, by show ∀ a ∈ _, _; simp⟩
 case round =>
  obtain ⟨k, s, hk, hk41, rfl, rfl, hs, hinv⟩ := hrel
  by_cases hlt : k < l.length
  ·obtain ⟨b, off, vk, hA, hbk, _, d0, d1, hvk⟩ := ModsV.cell hv hlt
   subst hA
   obtain ⟨Ak, ck, rfl, _⟩ := SlV.shape hvk
   have hltI : (k : Int) < (l.length : Int) := by omega
   by_cases h40 : 40 < k
   ·have hI40 : (40 : Int) < (k : Int) := by omega
    clear hinv h40
    go_wp2_with fail
    go_ret
    exact ⟨false, rfl, nofun, Below.refl _ _⟩
   have hI40 : ¬ (40 : Int) < (k : Int) := by omega
   have hvl9 := hl.2 l[k] (List.getElem_mem hlt)
   have hnb := Idn.size_B l[k].name
   by_cases h20 : 20 < l[k].vals.length
   ·have h2 : (20 : Int) < (l[k].vals.length : Int) := by omega
    clear hinv h20
    go_wp2_with fail
    go_ret
    exact ⟨false, rfl, nofun, Below.refl _ _⟩
   have h2 : ¬ (20 : Int) < (l[k].vals.length : Int) := by omega
   by_cases h100 : 100 < l[k].name.length
   ·have h3 : (100 : Int) < ((B l[k].name).size : Int) := by omega
    clear hinv h20 h100 hnb
    go_wp2_with fail
    go_ret
    exact ⟨false, rfl, nofun, Below.refl _ _⟩
   have h3 : ¬ (100 : Int) < ((B l[k].name).size : Int) := by omega
   have hkk : k * 6020 ≤ 40 * 6020 := Nat.mul_le_mul_right _ (by omega)
   clear hnb
   go_wp2_with fail
   go_loop [3, 5] (fun n i => ∃ (j t : Nat), j ≤ l[k].vals.length ∧ n = .int .i64 t ∧ i = .int .i64 j ∧ t ≤ k * 6020 + j * 301 ∧ Hid (∀ x ∈ l[k].vals.take j, x.length ≤ 300)) (fun _ i => l[k].vals.length - (intOf i).toNat)
   case atStart => exact ⟨0, s, Nat.zero_le _, rfl, rfl, by omega, by show ∀ x ∈ _, _; simp⟩
   case round =>
    obtain ⟨j, t, hj, rfl, rfl, ht, hix⟩ := hrel
    by_cases hjl : j < l[k].vals.length
    ·obtain ⟨b2, o2, hA2, hb2, e0⟩ := StrsV.cell hvk hjl
     subst hA2
     have hjI : (j : Int) < (l[k].vals.length : Int) := by omega
     have hxb := Idn.size_B l[k].vals[j]
     by_cases h300 : 300 < l[k].vals[j].length
     ·have h4 : (300 : Int) < ((B l[k].vals[j]).size : Int) := by omega
      clear hinv hix h300 hxb
      go_wp2_with fail
      go_ret
      exact ⟨false, rfl, nofun, Below.refl _ _⟩
     have h4 : ¬ (300 : Int) < ((B l[k].vals[j]).size : Int) := by omega
     have HX := Lib.hid (all_take hix.out hjl (by omega))
     have w1 : IntKind.i64.wrap ((t : Int) + ((B l[k].vals[j]).size : Int)) = (t : Int) + ((B l[k].vals[j]).size : Int) := IntWalk.i64_in _ (by omega)
     have w2 : IntKind.i64.wrap ((t : Int) + ((B l[k].vals[j]).size : Int) + 1) = (t : Int) + ((B l[k].vals[j]).size : Int) + 1 := IntWalk.i64_in _ (by omega)
     have hz : (B l[k].vals[j]).size ≤ 300 := by omega
     clear hix h300 hxb
     go_wp2_with fail
     go_round
     case rel => exact ⟨j + 1, t + (B l[k].vals[j]).size + 1, by omega, by congr 1, by go_num, by omega, HX⟩
     case measure => simp [intOf]; omega
    ·have hjI : ¬ (j : Int) < (l[k].vals.length : Int) := by omega
     have HK : Hid (∀ a ∈ l.take (k + 1), OkM a) := all_take hinv.out hlt ⟨by omega, by omega, by
      have h := hix.out
      rwa [List.take_of_length_le (by omega)] at h⟩
     clear hinv hix
     go_wp2_with fail
     go_round
     case rel => exact ⟨k + 1, t, by omega, by omega, rfl, by go_num, by omega, HK⟩
     case measure => simp [intOf]; omega
  ·have hltI : ¬ (k : Int) < (l.length : Int) := by omega
   have HK : Hid (MFew l) := ⟨by omega, by
    have h := hinv.out
    rwa [List.take_of_length_le (by omega)] at h⟩
   clear hinv
   go_wp2_with fail
   go_ret
   exact ⟨_, rfl, fun _ => HK.out, Below.refl _ _⟩
end Go.Proofs.YtoopoglkeeoamaaGreatDoor
/- entry: Diff, walked. -/
namespace Go.Proofs.YtoopoglkeeoamaaGreatDoor
open Go.RowKit Go.Sort
open Idn (L B Bs drop_L take_L size_L)
theorem sortS_any (v : Value) (q : List Bs) (base : Nat) (w : World) (hown : w.ownsRow base 9 1 v q.length (q.map sv)) (hlen : q.length ≤ 1000000000) (hb : base ≤ w.heap.size) :
  Calls Tryz.prog 67 #[v] w fun e w' => e = .returned (.tuple #[]) ∧ w'.ownsRow base 9 1 v (sorted q).length ((sorted q).map sv) ∧ Below base w w' := by
 have hsl : (sorted q).length = q.length := by simp [sorted]
 by_cases hpos : q.length = 0
 ·have hq0 : q = [] := List.eq_nil_of_length_eq_zero hpos
  have hs0 : sorted q = [] := List.eq_nil_of_length_eq_zero (by omega)
  obtain ⟨A, c, rfl⟩ := own_shape hown
  have h := Tryz.slices_Sort_string_none A c w
  rw [hpos]
  refine h.mono ?_
  rintro e w1 ⟨rfl, rfl⟩
  refine ⟨rfl, ?_, Below.refl _ _⟩
  rw [hs0]
  rw [hq0] at hown
  exact hown
 ·rcases id hown.2 with ⟨_, hn0⟩ | ⟨g, cap, cur, hu, hbase, _⟩
  ·omega
  subst hu
  refine (sort_own g cap q base w hown (by omega) hlen hb).mono ?_
  rintro e w1 ⟨rfl, h1, h2⟩
  exact ⟨rfl, by rw [hsl]; exact h1, (Below.refl _ _).grown h2 hb (fun k hk => by injection hk with hk; omega)⟩
theorem compactS_any (v : Value) (q : List Bs) (base : Nat) (w : World) (hown : w.ownsRow base 9 1 v q.length (q.map sv)) (hlen : q.length ≤ 1000000000) (hb : base ≤ w.heap.size) :
  Calls Tryz.prog 68 #[v] w fun e w' => ∃ v', e = .returned v' ∧ w'.ownsRow base 9 1 v' (Lib.compact q).length ((Lib.compact q).map sv) ∧ Below base w w' := by
 by_cases hpos : q.length = 0
 ·have hq0 : q = [] := List.eq_nil_of_length_eq_zero hpos
  have hcl := Lib.compact_length_le q
  have hs0 : Lib.compact q = [] := List.eq_nil_of_length_eq_zero (by omega)
  obtain ⟨A, c, rfl⟩ := own_shape hown
  have h := Tryz.slices_Compact_string_empty A c w
  rw [hpos]
  refine h.mono ?_
  rintro e w1 ⟨rfl, rfl⟩
  refine ⟨_, rfl, ?_, Below.refl _ _⟩
  rw [hs0]
  rw [hq0] at hown
  exact hown
 ·rcases id hown.2 with ⟨_, hn0⟩ | ⟨g, cap, cur, hu, hbase, _⟩
  ·omega
  subst hu
  refine (compact_own g cap q base w hown (by omega) hlen).mono ?_
  rintro e w1 ⟨rfl, h1, h2⟩
  exact ⟨_, rfl, h1, (Below.refl _ _).grown h2 hb (fun k hk => by injection hk with hk; omega)⟩
def RetMd (w : World) (l : List Md) (e : Ending) (w' : World) : Prop := ∃ r ps, e = .returned r ∧ ModOwn w' w.heap.size r ps ∧ ps.map (·.1) = l ∧ Below w.heap.size w w'
theorem difs_len (n : Bs) (old new : List Bs) : (difs n old new).length ≤ 2 := by
 unfold difs
 split
 ·simp
 ·split
  ·simp
  ·split
   ·simp
   ·split
    ·simp
    ·rw [List.length_append]
     split <;> split <;> simp
theorem eDiff_unf (n : Bs) (l : List Idn.Att) (m : Bs) (k : List Idn.Att) : eDiff n l m k =
 if eCheck n l != 0 || eCheck m k != 0 then [] else (Lib.compact (sorted (namesL l ++ namesL k))).flatMap fun x => difs x (getL l x) (getL k x) := rfl
theorem check_sm {n : Bs} {l : List Idn.Att} (h : eCheck n l = 0) (hs : ASm l) : Idn.ASm7 l ∧ (∀ a ∈ l, a.vals.length ≠ 0) ∧ ((namesL l).length ≤ 32 ∧ ∀ x ∈ namesL l, x.length ≤ 1000000000) ∧ ∀ x, (rGet l x).length ≤ 1000 := by
 have hc := eCheck_zero h
 have h6 := aCheck_zero hc
 have hg : ∀ x, (rGet l x).length ≤ 1000 := fun x => by
  rw [rGet_law]
  refine Nat.le_trans (insAll_len _) ?_
  have h1 := vals_len (l := l) (c := 16) (fun a ha => (h6.2 a ha).2) (Idn.lower x)
  have h2 : l.length * 16 ≤ 32 * 16 := Nat.mul_le_mul_right _ h6.1
  omega
 refine ⟨⟨by have := h6.1; omega, fun a ha => ⟨(hs.2 a ha).1, by have := (h6.2 a ha).2; omega, (hs.2 a ha).2.2⟩⟩, fun a ha => (h6.2 a ha).1, ⟨?_, ?_⟩, hg⟩
 case refine_2 =>
  intro x hx
  unfold namesL at hx
  obtain ⟨a, ha, rfl⟩ := List.mem_map.1 hx
  obtain ⟨b, hb, rfl⟩ := Idn.aSorted_from ha
  have hn : b.name ∈ (Idn.grp [] l).map (·.name) := List.mem_map.2 ⟨b, hb, rfl⟩
  rw [Idn.grp_names] at hn
  rcases hn with hn | hn
  ·simp at hn
  ·obtain ⟨a, ha, e⟩ := List.mem_map.1 hn
   show b.name.length ≤ _
   rw [← e, Idn.length_lower]
   exact (hs.1 |> fun _ => (hs.2 a ha).1)
 have := aSorted_len l
 unfold namesL
 rw [List.length_map]
 have := h6.1
 have h7 := grp_len l []
 simp at h7
 omega
theorem diff_any (n m : ByteArray) (a b : Value) (l k : List Idn.Att) (w : World) (ha : AttsV w w.heap.size a l) (hb : AttsV w w.heap.size b k) (hn : n.size ≤ 1000000000) (hm : m.size ≤ 1000000000) (hl : ASm l) (hk : ASm k) :
    Calls Tryz.prog 25 #[.agg #[.string n, a], .agg #[.string m, b]] w (RetMd w (eDiff (L n) l (L m) k)) := by
  have hA := fun W (hW : Below w.heap.size w W) => AttsV.mono (AttsV.keep ha hW) hW.size
  have hB := fun W (hW : Below w.heap.size w W) => AttsV.mono (AttsV.keep hb hW) hW.size
  have hC1 := fun W (hW : Below w.heap.size w W) => eCheck_any n a l W (hA W hW) hn hl
  have hC2 := fun W (hW : Below w.heap.size w W) => eCheck_any m b k W (hB W hW) hm hk
  have hsm1 := fun h => check_sm (n := L n) (l := l) h hl
  have hsm2 := fun h => check_sm (n := L m) (l := k) h hk
  have hNa := fun h1 h2 W (hW : Below w.heap.size w W) => names_any a l W (hA W hW) h1 h2
  have hNb := fun h1 h2 W (hW : Below w.heap.size w W) => names_any b k W (hB W hW) h1 h2
  have hGa := fun h1 x (hx : x.size ≤ 1000000000) W (hW : Below w.heap.size w W) => getG_any a l x W (hA W hW) h1 hx
  have hGb := fun h1 x (hx : x.size ≤ 1000000000) W (hW : Below w.heap.size w W) => getG_any b k x W (hB W hW) h1 hx
  have HR := Lib.hid (eDiff_unf (L n) l (L m) k)
  obtain ⟨A, c, rfl, hc⟩ := SlV.shape ha
  obtain ⟨A2, c2, rfl, hc2⟩ := SlV.shape hb
  generalize eDiff (L n) l (L m) k = r at *
  generalize eCheck (L n) l = k1 at *
  generalize eCheck (L m) k = k2 at *
  clear ha hb hA hB
  go_enter Tryz.func25, Tryz.ntmps25
  go_upto_region 1 with fail
  with_reducible refine gen2 (R := fun W => Code.wp Tryz.prog _ _ _ W) ?_
  intro W hbW hszW hc1 hc2'
  have a0 : W.cell? ⟨w.heap.size, 0, none⟩ = some (.string n) := hc1 0 _ rfl
  have a1 : W.cell? ⟨w.heap.size, 1, none⟩ = some (.slice A l.length c) := hc1 1 _ rfl
  have b0 : W.cell? ⟨w.heap.size + 1, 0, none⟩ = some (.string m) := hc2' 0 _ rfl
  have b1 : W.cell? ⟨w.heap.size + 1, 1, none⟩ = some (.slice A2 k.length c2) := hc2' 1 _ rfl
  clear hc1 hc2'
  by_cases h1 : k1 = 0
  case neg =>
    have hI : (k1 != 0) = true := by simpa using h1
    have HF : Hid (r = []) := by show _ = _; rw [HR.out, hI]; rfl
    clear HR h1 hsm1 hsm2 hNa hNb hGa hGb hC2
    go_wp2_with fail
    refine (hC1 W hbW).mono ?_
    rintro e w1 ⟨rfl, hb1⟩
    go_wp2
    go_ret
    exact ⟨_, [], rfl, ModOwn.nil _ _, HF.out.symm, hbW.trans (hb1.mono hbW.size)⟩
  subst h1
  by_cases h2 : k2 = 0
  case neg =>
    have hI : (k2 != 0) = true := by simpa using h2
    have HF : Hid (r = []) := by show _ = _; rw [HR.out, hI]; rfl
    clear HR h2 hsm1 hsm2 hNa hNb hGa hGb
    go_wp2_with fail
    refine (hC1 W hbW).mono ?_
    rintro e w1 ⟨rfl, hb1⟩
    replace b0 := cell_later hb1 b0
    replace b1 := cell_later hb1 b1
    have hbw1 := hbW.trans (hb1.mono hbW.size)
    clear hC1
    go_wp2_with fail
    refine (hC2 w1 hbw1).mono ?_
    rintro e w2 ⟨rfl, hb2⟩
    go_wp2
    go_ret
    exact ⟨_, [], rfl, ModOwn.nil _ _, HF.out.symm, hbw1.trans (hb2.mono hbw1.size)⟩
  subst h2
  obtain ⟨s1, s2, ⟨s3, s5⟩, s4⟩ := hsm1 rfl
  obtain ⟨t1, t2, ⟨t3, t5⟩, t4⟩ := hsm2 rfl
  have hgl : ∀ x, getL l x = rGet l x := fun x => (rGet_eq s2 x).symm
  have hgk : ∀ x, getL k x = rGet k x := fun x => (rGet_eq t2 x).symm
  have HR2 : Hid (r = (Lib.compact (sorted (namesL l ++ namesL k))).flatMap fun x => difs x (rGet l x) (rGet k x)) := by
    show _ = _
    rw [HR.out, if_neg (by decide)]
    simp only [hgl, hgk]
  have kNa := hNa s1 s2
  have kNb := hNb t1 t2
  have kGa := hGa s1
  have kGb := hGb t1
  have hcl : (Lib.compact (sorted (namesL l ++ namesL k))).length ≤ 64 := by
    have h1 := Lib.compact_length_le (sorted (namesL l ++ namesL k))
    have h2 : (sorted (namesL l ++ namesL k)).length = (namesL l ++ namesL k).length := by simp [sorted]
    rw [List.length_append] at h2
    omega
  have hcx : ∀ x ∈ Lib.compact (sorted (namesL l ++ namesL k)), x.length ≤ 1000000000 := fun x hx => by
    have h1 : x ∈ namesL l ++ namesL k := Idn.srt_mem (compact_mem hx)
    rcases List.mem_append.1 h1 with h1 | h1
    · exact s5 x h1
    · exact t5 x h1
  have hS4 := Lib.hid s4
  have hT4 := Lib.hid t4
  have HCX := Lib.hid hcx
  have A1W := Lib.hid a1
  have B1W := Lib.hid b1
  clear HR hsm1 hsm2 hNa hNb hGa hGb hgl hgk s1 s2 t1 t2 s5 t5 s4 t4 hcx
  go_wp2_with fail
  refine (hC1 W hbW).mono ?_
  rintro e w1 ⟨rfl, hb1⟩
  replace a1 := cell_later hb1 a1
  replace b0 := cell_later hb1 b0
  replace b1 := cell_later hb1 b1
  have hbw1 := hbW.trans (hb1.mono hbW.size)
  clear hC1
  go_wp2_with fail
  refine (hC2 w1 hbw1).mono ?_
  rintro e w2 ⟨rfl, hb2⟩
  replace hb2 : Below w1.heap.size w1 w2.drew := hb2.drew
  replace a1 : w2.drew.cell? ⟨w.heap.size, 1, none⟩ = some (.slice A l.length c) := cell_later hb2 a1
  replace b1 : w2.drew.cell? ⟨w.heap.size + 1, 1, none⟩ = some (.slice A2 k.length c2) := cell_later hb2 b1
  have hbB : Below W.heap.size W w2.drew := hb1.trans (hb2.mono hb1.size)
  have hbw2 : Below w.heap.size w w2.drew := hbW.trans (hbB.mono hbW.size)
  generalize namesL l = nl at *
  generalize namesL k = nk at *
  have hwW : w.heap.size ≤ W.heap.size := hbW.size
  clear hC2 a0 b0 hb1 hb2 hbw1
  go_wp2_with fail
  go_region_law (first
    | (go_simp
       go_at_call 66
       with_reducible refine (kNa _ (by first | exact hbw2 | exact hbY)).mono ?_
       rintro e wA ⟨vA, rfl, hoA, hbA⟩
       first | have hbX := hbY.trans (hbA.mono hbY.size) | have hbX := hbw2.trans (hbA.mono hbw2.size)
       first | have hbXB := hbYB.trans (hbA.mono hbYB.size) | have hbXB := hbB.trans (hbA.mono hbB.size)
       first | have b1A := cell_later hbA b1 | skip
       first | (have rB := own_below hoB hbA; have rA := hoA) | skip
       go_wp2_with fail)
    | (go_simp
       go_at_call 66
       with_reducible refine (kNb _ (by first | exact hbw2 | exact hbX)).mono ?_
       rintro e wB ⟨vB, rfl, hoB, hbb⟩
       first | have hbY := hbX.trans (hbb.mono hbX.size) | have hbY := hbw2.trans (hbb.mono hbw2.size)
       first | have hbYB := hbXB.trans (hbb.mono hbXB.size) | have hbYB := hbB.trans (hbb.mono hbB.size)
       first | have a1B := cell_later hbb a1 | skip
       first | (have rA := own_below hoA hbb; have rB := hoB) | skip
       go_wp2_with fail)
    | (refine step_appendS rfl _ _ 45 rfl W.heap.size 9 Tryz.underlying45 info_str _ _ _ (own_base rA (by first | exact hbB.size | exact hbYB.size)) rfl _ nk _ (StrsV.of_own rB) rfl (by omega) (by first | exact hbYB.size | exact hbXB.size) ?_
       intro v4 w4 hown4 hg4 _))
  all_goals
    have hbw4 : Below W.heap.size W w4 := hbYB.grown hg4 hbYB.size (fun x hx => Nat.le_trans hbB.size (rA.lt x hx).1)
    obtain ⟨A4, c4, hv4⟩ := own_shape hown4
    subst hv4
    have hown4' : w4.ownsRow W.heap.size 9 1 (.slice A4 (nl.length + nk.length) c4) (nl ++ nk).length ((nl ++ nk).map sv) := by rw [List.length_append, List.map_append]; exact hown4
    have hSt := sortS_any _ (nl ++ nk) W.heap.size w4 hown4' (by rw [List.length_append]; omega) hbw4.size
    have hslen : (sorted (nl ++ nk)).length ≤ 64 := by simp [sorted]; omega
    clear hown4 hown4' hg4 rA rB hoA hoB hbA hbb hbX hbY hbXB hbYB kNa kNb b1A a1 b1 hbB hbw2
    go_wp2_with fail
    refine hSt.mono ?_
    rintro e w5 ⟨rfl, hown5, hb5⟩
    have hbw5 := hbw4.trans hb5
    have hCm := compactS_any _ (sorted (nl ++ nk)) W.heap.size w5 hown5 (by omega) hbw5.size
    clear hSt hown5 hslen hb5 hbw4
    generalize Lib.compact (sorted (nl ++ nk)) = cs at *
    go_wp2_with fail
    refine hCm.mono ?_
    rintro e w6 ⟨v6, rfl, hown6, hb6⟩
    obtain ⟨A6, c6, hv6⟩ := own_shape hown6
    subst hv6
    have hbw6 := hbw5.trans hb6
    have N0 := ModOwn.nil w6 W.heap.size
    clear hCm hb6 hbw5
    go_wp2_with fail
    go_loopw [6, 29] (fun o i wr => ∃ (j : Nat) (ps : List (Md × Value)), j ≤ cs.length ∧ i = .int .i64 j ∧ ModOwn wr W.heap.size o ps ∧ wr.ownsRow W.heap.size 9 1 (.slice A6 cs.length c6) cs.length (cs.map sv) ∧ Below W.heap.size W wr ∧ Hid (ps.map (·.1) = (cs.take j).flatMap fun x => difs x (rGet l x) (rGet k x)) ∧ ps.length ≤ 2 * j) (fun _ i _ => cs.length - (intOf i).toNat)
    case atStart => exact ⟨0, [], Nat.zero_le _, rfl, N0, hown6, hbw6, rfl, Nat.le_refl _⟩
    case round =>
      obtain ⟨j, ps, hj, rfl, hown, hownC, hb, hinv, hpl⟩ := hrel
      obtain ⟨Ao, co, hoS⟩ := own_shape hown.1
      subst hoS
      obtain ⟨wo, hwo⟩ : ∃ wo : World, wo = wr := ⟨_, rfl⟩
      subst hwo
      by_cases hlt : j < cs.length
      · obtain ⟨g, hA6, hcell⟩ := own_open hownC (by omega)
        have e0 : wo.cell? ⟨g, j, none⟩ = some (.string (B cs[j])) := hcell j _ (by rw [List.getElem?_map, List.getElem?_eq_getElem hlt]; rfl)
        subst hA6
        have hltI : (j : Int) < (cs.length : Int) := by omega
        have hxl := HCX.out cs[j] (List.getElem_mem hlt)
        have kA := kGa (B cs[j]) (by rw [Idn.size_B]; exact hxl)
        have kB := kGb (B cs[j]) (by rw [Idn.size_B]; exact hxl)
        rw [Idn.L_B] at kA kB
        have hstep : Hid ((cs.take (j + 1)).flatMap (fun x => difs x (rGet l x) (rGet k x)) = ps.map (·.1) ++ difs cs[j] (rGet l cs[j]) (rGet k cs[j])) := by
          show _ = _
          rw [List.take_succ_eq_append_getElem hlt, List.flatMap_append, hinv.out]; simp
        have hdr : Below wo.heap.size wo wo.drew := (Below.refl _ _).drew
        have hbd : Below W.heap.size W wo.drew := hb.trans (hdr.mono hb.size)
        have hod := hown.keep hdr
        have hcd := own_below hownC hdr
        have a1 : wo.drew.cell? ⟨w.heap.size, 1, none⟩ = some (.slice A l.length c) := (hbd.cell (p := ⟨w.heap.size, 1, none⟩) (by show w.heap.size < W.heap.size; omega)).trans A1W.out
        have b1 : wo.drew.cell? ⟨w.heap.size + 1, 1, none⟩ = some (.slice A2 k.length c2) := (hbd.cell (p := ⟨w.heap.size + 1, 1, none⟩) (by show w.heap.size + 1 < W.heap.size; omega)).trans B1W.out
        have g1 := hS4.out cs[j]
        have g2 := hT4.out cs[j]
        have hdl := difs_len cs[j] (rGet l cs[j]) (rGet k cs[j])
        have hps64 : ps.length ≤ 128 := by omega
        have hDf := fun (W' : World) u v base (hu : StrsV W' W'.heap.size u (rGet l cs[j])) (hw9 : CutS W' base v (rGet k cs[j])) hbase => differences_any cs[j] u v (rGet l cs[j]) (rGet k cs[j]) base W' hu hw9 hbase (by omega) (by omega)
        clear hinv hcell hown hownC N0 hown6 hdr
        generalize difs cs[j] (rGet l cs[j]) (rGet k cs[j]) = dd at *
        generalize rGet l cs[j] = ga at *
        generalize rGet k cs[j] = gb at *
        generalize B cs[j] = bx at *
        go_wp2_with fail
        go_region_law (first
          | (go_simp
             go_at_call 70
             with_reducible refine (kA _ (hbW.trans (hbd.mono hwW))).mono ?_
             rintro e wA ⟨AA, cA, rfl, hoA, hbA⟩
             have b1A := cell_later hbA b1
             have hbX : Below W.heap.size W wA := hbd.trans (hbA.mono hbd.size)
             have oA := hod.keep hbA
             have nA := own_below hcd hbA
             go_wp2_with fail)
          | (go_simp
             go_at_call 70
             with_reducible refine (kB _ (hbW.trans (hbX.mono hwW))).mono ?_
             rintro e wB ⟨AB, cB, rfl, hoB, hbb⟩
             have hbY : Below W.heap.size W wB := hbX.trans (hbb.mono hbX.size)
             have oB := oA.keep hbb
             have nB := own_below nA hbb
             have rA : CutS wB W.heap.size (.slice AA ga.length ga.length) ga := ⟨AA, cA, ga.length, rfl, Nat.le_refl _, own_base (own_below hoA hbb) hbd.size⟩
             have rB : CutS wB W.heap.size (.slice AB gb.length gb.length) gb := ⟨AB, cB, gb.length, rfl, Nat.le_refl _, own_base hoB hbX.size⟩
             go_wp2_with fail)
          | (go_simp
             go_at_call 69
             refine (hDf _ _ _ W.heap.size rA.read rB hbY.size).mono ?_
             rintro e wD ⟨vD, qs, rfl, hMD, hqs, hbD⟩
             obtain ⟨AD, cD, hvD⟩ := own_shape hMD.1
             subst hvD
             have oD := oB.keep hbD
             have nD := own_below nB hbD
             have hbZ : Below W.heap.size W wD := hbY.trans (hbD.mono hbY.size)
             have hql : qs.length ≤ 2 := by rw [← List.length_map (f := (·.1)), hqs]; exact hdl
             have HQS := Lib.hid hqs
             clear hqs
             go_wp2_with fail)
          | (refine step_appendM rfl _ _ rfl W.heap.size _ ps oD rfl _ qs hMD rfl (by omega) hbZ.size ?_
             intro v7 w7 hM7 hb7 hg7))
        all_goals
          have nF := own_kept nD hg7 fun x h1 h2 => own_apart2 oD.1 nD (by decide) x h2 h1
          have hbF := hbZ.trans hb7
          obtain ⟨A7, c7, hv7⟩ := own_shape hM7.1
          subst hv7
          simp only [List.length_append] at hM7 ⊢
          have HM7 := Lib.hid hM7
          clear oD nD oB nB oA nA rA rB hoA hoB hMD hod hcd hM7 a1 b1 b1A hDf kA kB
          go_wp2_with fail
          go_roundw
          case rel => exact ⟨j + 1, ps ++ qs, by omega, by go_num, HM7.out, nF, hbF, by show _ = _; rw [List.map_append, HQS.out, hstep.out], by rw [List.length_append]; omega⟩
          case measure => simp [intOf]; omega
      · have hltI : ¬ (j : Int) < (cs.length : Int) := by omega
        have HF : Hid (ps.map (·.1) = r) := by show _ = _; rw [hinv.out, HR2.out, List.take_of_length_le (by omega)]
        clear hinv HR2 hownC hown6 N0
        go_wp2_with fail
        go_ret
        exact ⟨_, ps, rfl, hown.base hwW, HF.out, hbW.trans (hb.mono hwW)⟩
end Go.Proofs.YtoopoglkeeoamaaGreatDoor
/- law08: the reference's Check; the small case. -/
namespace Go.Proofs.YtoopoglkeeoamaaGreatDoor
open Go.RowKit Go.Sort
open Idn (L B Bs drop_L take_L size_L)
theorem heapN8 (w : World) (o : Obj) (p : Nat) (hp : w.heap.size = p) : (w.alloc o).heap[p]? = some o := by subst hp; exact heap_alloc_new w o
theorem heapO8 {w : World} {o o' : Obj} {p : Nat} (h : w.heap[p]? = some o') : (w.alloc o).heap[p]? = some o' := by
 rw [Below.heap_alloc _ _ _ (Array.getElem?_eq_some_iff.1 h).1]; exact h
theorem heapB8 {w w' : World} {o' : Obj} {p : Nat} (hb : Below w.heap.size w w') (h : w.heap[p]? = some o') : w'.heap[p]? = some o' := (hb.block p (Array.getElem?_eq_some_iff.1 h).1).trans h
theorem strsAt8 {W : World} {p n c : Nat} {C : Array Value} {t : TypeId} {l : List Bs} (h : W.heap[p]? = some (.cells C t)) (hn : n = l.length) (hl : l.length ≤ c) (hc : ∀ (i : Nat) (x : Bs), l[i]? = some x → C[i]? = some (sv x)) : StrsV W W.heap.size (.slice (some ⟨p, 0, none⟩) n c) l := by
  subst hn
  refine ⟨_, _, rfl, hl, fun _ => ⟨p, 0, rfl, (Array.getElem?_eq_some_iff.1 h).1, fun i x hx => ⟨[sv x], rfl, rfl, fun j u hj => ?_⟩⟩⟩
  match j, hj with
  | 0, hj =>
    simp at hj; subst hj
    rw [Nat.zero_add, Nat.add_zero, Nat.mul_one, cell_of_row _ p i _ _ (0, 0) h]
    exact hc i x hx
theorem attsAt8 {W : World} {p n c : Nat} {C : Array Value} {t : TypeId} {l : List Idn.Att} (h : W.heap[p]? = some (.cells C t)) (hn : n = l.length) (hl : l.length ≤ c) (hc : ∀ (i : Nat) (x : Idn.Att), l[i]? = some x → ∃ v, C[i * 2]? = some (sv x.name) ∧ C[i * 2 + 1]? = some v ∧ StrsV W W.heap.size v x.vals) : AttsV W W.heap.size (.slice (some ⟨p, 0, none⟩) n c) l := by
  subst hn
  refine ⟨_, _, rfl, hl, fun _ => ⟨p, 0, rfl, (Array.getElem?_eq_some_iff.1 h).1, fun i x hx => ?_⟩⟩
  obtain ⟨v, h1, h2, h3⟩ := hc i x hx
  refine ⟨[sv x.name, v], rfl, ⟨v, rfl, h3⟩, fun j u hj => ?_⟩
  match j, hj with
  | 0, hj =>
    simp at hj; subst hj
    rw [Nat.zero_add, Nat.add_zero, cell_of_row _ p _ _ _ (0, 0) h]
    exact h1
  | 1, hj =>
    simp at hj; subst hj
    rw [Nat.zero_add, cell_of_row _ p _ _ _ (0, 0) h]
    exact h2
theorem modsAt8 {W : World} {p n c : Nat} {C : Array Value} {t : TypeId} {l : List Md} (h : W.heap[p]? = some (.cells C t)) (hn : n = l.length) (hl : l.length ≤ c) (hc : ∀ (i : Nat) (x : Md), l[i]? = some x → ∃ v, C[i * 3]? = some (.int .i64 x.op) ∧ C[i * 3 + 1]? = some (sv x.name) ∧ C[i * 3 + 2]? = some v ∧ StrsV W W.heap.size v x.vals) : ModsV W W.heap.size (.slice (some ⟨p, 0, none⟩) n c) l := by
  subst hn
  refine ⟨_, _, rfl, hl, fun _ => ⟨p, 0, rfl, (Array.getElem?_eq_some_iff.1 h).1, fun i x hx => ?_⟩⟩
  obtain ⟨v, h0, h1, h2, h3⟩ := hc i x hx
  refine ⟨[.int .i64 x.op, sv x.name, v], rfl, ⟨v, rfl, h3⟩, fun j u hj => ?_⟩
  match j, hj with
  | 0, hj =>
    simp at hj; subst hj
    rw [Nat.zero_add, Nat.add_zero, cell_of_row _ p _ _ _ (0, 0) h]
    exact h0
  | 1, hj =>
    simp at hj; subst hj
    rw [Nat.zero_add, cell_of_row _ p _ _ _ (0, 0) h]
    exact h1
  | 2, hj =>
    simp at hj; subst hj
    rw [Nat.zero_add, cell_of_row _ p _ _ _ (0, 0) h]
    exact h2
theorem att1At8 {W : World} {p q : Nat} {n x : Bs} {t t' : TypeId} (h1 : W.heap[p]? = some (.cells #[sv x] t)) (h2 : W.heap[q]? = some (.cells #[sv n, .slice (some ⟨p, 0, none⟩) 1 1] t')) : AttsV W W.heap.size (.slice (some ⟨q, 0, none⟩) 1 1) [⟨n, [x]⟩] :=
 attsAt8 h2 rfl (Nat.le_refl _) fun i y hy => by
  match i, hy with
  | 0, hy => injection hy with hy; subst hy; exact ⟨_, rfl, rfl, strsAt8 h1 rfl (Nat.le_refl _) fun j z hz => by match j, hz with | 0, hz => injection hz with hz; subst hz; rfl⟩
theorem att2At8 {W : World} {p q : Nat} {n x y : Bs} {t t' : TypeId} (h1 : W.heap[p]? = some (.cells #[sv x, sv y] t)) (h2 : W.heap[q]? = some (.cells #[sv n, .slice (some ⟨p, 0, none⟩) 2 2] t')) : AttsV W W.heap.size (.slice (some ⟨q, 0, none⟩) 1 1) [⟨n, [x, y]⟩] :=
  attsAt8 h2 rfl (Nat.le_refl _) fun i z hz => by
    match i, hz with
    | 0, hz => injection hz with hz; subst hz; exact ⟨_, rfl, rfl, strsAt8 h1 rfl (Nat.le_refl _) fun j z hz => by
      match j, hz with
      | 0, hz => injection hz with hz; subst hz; rfl
      | 1, hz => injection hz with hz; subst hz; rfl⟩
theorem box_at {X x : World} {p : Nat} {a b : Value} {t : TypeId} (h : Below X.heap.size X x) (e : X.heap[p]? = some (.cells #[a, b] t)) : x.cell? ⟨p, 0, none⟩ = some a ∧ x.cell? ⟨p, 1, none⟩ = some b ∧ x.frozen? ⟨p, 0, none⟩ = false ∧ x.frozen? ⟨p, 1, none⟩ = false := by
 have e2 := heapB8 h e
 exact ⟨cell_of_row _ p 0 _ _ (0, 0) e2, cell_of_row _ p 1 _ _ (0, 0) e2, Lib.frozen_of_heap e2 0, Lib.frozen_of_heap e2 1⟩
theorem heapD8 {w : World} {o' : Obj} {p : Nat} (h : w.heap[p]? = some o') : w.drew.heap[p]? = some o' := h
theorem box_later {x y : World} {p : Nat} {a b : Value} (h : x.cell? ⟨p, 0, none⟩ = some a ∧ x.cell? ⟨p, 1, none⟩ = some b ∧ x.frozen? ⟨p, 0, none⟩ = false ∧ x.frozen? ⟨p, 1, none⟩ = false) (hb : Below x.heap.size x y) : y.cell? ⟨p, 0, none⟩ = some a ∧ y.cell? ⟨p, 1, none⟩ = some b ∧ y.frozen? ⟨p, 0, none⟩ = false ∧ y.frozen? ⟨p, 1, none⟩ = false := by
 have hp : p < x.heap.size := World.block_lt_of_cell? _ _ h.1
 exact ⟨cell_later hb h.1, cell_later hb h.2.1, frozen_later hb h.2.2.1 hp, frozen_later hb h.2.2.2 hp⟩
theorem sch_at {x X : World} {u : Value} {s : Idn.Sch} (h : SchV x x.heap.size u s) (hb : Below x.heap.size x X) : SchV X X.heap.size u s := SchV.mono (SchV.keep h hb) hb.size
theorem atts_at {x X : World} {u : Value} {s : List Idn.Att} (h : AttsV x x.heap.size u s) (hb : Below x.heap.size x X) : AttsV X X.heap.size u s := AttsV.mono (AttsV.keep h hb) hb.size
theorem mod1At8 {W : World} {p q : Nat} {op : Int} {n x : Bs} {t t' : TypeId} (h2 : W.heap[q]? = some (.cells #[.int .i64 op, sv n, .slice (some ⟨p, 0, none⟩) 1 1] t')) (h1 : W.heap[p]? = some (.cells #[sv x] t)) : ModsV W W.heap.size (.slice (some ⟨q, 0, none⟩) 1 1) [⟨op, n, [x]⟩] :=
 modsAt8 h2 rfl (Nat.le_refl _) fun i y hy => by
  match i, hy with
  | 0, hy => injection hy with hy; subst hy; exact ⟨_, rfl, rfl, rfl, strsAt8 h1 rfl (Nat.le_refl _) fun j z hz => by match j, hz with | 0, hz => injection hz with hz; subst hz; rfl⟩
theorem box_set {w x : World} {p base c : Nat} {u a0 a1 : Value} {A : Option Addr} {ps : List (Idn.Att × Value)} {l : List Idn.Att} (hx : Below w.heap.size w x) (ho : AttOwn x base (.slice A ps.length c) ps) (hps : ps.map (·.1) = l) (h3 : ps.length = 3) (hp : w.heap.size ≤ p) (hpb : p < base) (c0 : x.cell? ⟨p, 0, none⟩ = some a0) (c1 : x.cell? ⟨p, 1, none⟩ = some a1) :
  ((x.setCell ⟨p, 0, none⟩ u).setCell ⟨p, 1, none⟩ (.slice A ps.length c)).cell? ⟨p, 1, none⟩ = some (.slice A 3 c) ∧ AttsV ((x.setCell ⟨p, 0, none⟩ u).setCell ⟨p, 1, none⟩ (.slice A ps.length c)) ((x.setCell ⟨p, 0, none⟩ u).setCell ⟨p, 1, none⟩ (.slice A ps.length c)).heap.size (.slice A 3 c) l ∧ Below w.heap.size w ((x.setCell ⟨p, 0, none⟩ u).setCell ⟨p, 1, none⟩ (.slice A ps.length c)) := by
 refine ⟨?_, ?_, (hx.setCell (p := ⟨p, 0, none⟩) hp _).setCell (p := ⟨p, 1, none⟩) hp _⟩
 ·rw [← h3]
  refine World.cell?_setCell_same _ _ _ (u := a1) ?_
  rw [World.cell?_setCell_other _ _ _ _ (by intro e; injection e with e1 e2; omega)]
  exact c1
 ·have := ((ho.apart_box p 0 u hpb).apart_box p 1 (.slice A ps.length c) hpb).atts hps
  rw [← h3]; exact this
theorem box_new {w x : World} {base c : Nat} {u : Value} {A : Option Addr} {t : TypeId} {ps : List (Idn.Att × Value)} {l : List Idn.Att} (hx : Below w.heap.size w x) (ho : AttOwn x base (.slice A ps.length c) ps) (hps : ps.map (·.1) = l) (h3 : ps.length = 3) :
  (x.alloc (.cells #[u, .slice A ps.length c] t)).cell? ⟨x.heap.size, 1, none⟩ = some (.slice A 3 c) ∧ AttsV (x.alloc (.cells #[u, .slice A ps.length c] t)) (x.alloc (.cells #[u, .slice A ps.length c] t)).heap.size (.slice A 3 c) l ∧ Below w.heap.size w (x.alloc (.cells #[u, .slice A ps.length c] t)) := by
 refine ⟨?_, ?_, hx.alloc hx.size _⟩
 ·rw [← h3]
  exact cell_of_row _ _ 1 _ _ (0, 0) (heapN8 _ _ _ rfl)
 ·have := (ho.keep ((Below.refl _ _).alloc (Nat.le_refl _) (.cells #[u, .slice A ps.length c] t))).atts hps
  rw [h3] at this ⊢; exact this
theorem asm_nil : ASm [] := ⟨by simp, by simp⟩
theorem asm_sn : ASm E8.snL := by unfold ASm Sm E8.snL; decide
theorem asm_one : ASm E8.oneL := by unfold ASm Sm E8.oneL; decide
theorem asm_two : ASm E8.twoL := by unfold ASm Sm E8.twoL; decide
theorem asm_raw : ASm E8.rawL ∧ ASm5 E8.rawL := by unfold ASm ASm5 Sm E8.rawL; decide
theorem asm_nor : ASm E8.norL ∧ ASm5 E8.norL := by unfold ASm ASm5 Sm E8.norL; decide
theorem example_any (w : World) (hE : Env w) (hU : EnvU w) : Calls Tryz.prog 13 #[] w fun e w' => e = .returned (.bool true) ∧ Below w.heap.size w w' := by
  have hC0 : ∀ W, Calls Tryz.prog 14 #[.agg #[.string ⟨#[99, 110, 61, 97, 110, 110]⟩, .slice none 0 0]] W fun e w' => e = .returned (.int .i64 0) ∧ Below W.heap.size W w' := fun W => by
    have h := eCheck_any ⟨#[99, 110, 61, 97, 110, 110]⟩ (.slice none 0 0) [] W (SlV.nil _ _ _ _) (by decide) asm_nil
    rw [show eCheck (L ⟨#[99, 110, 61, 97, 110, 110]⟩) [] = 0 from E8.ev_c1] at h
    exact h
  have hC1 : ∀ W, Calls Tryz.prog 14 #[.agg #[.string ⟨#[]⟩, .slice none 0 0]] W fun e w' => e = .returned (.int .i64 5) ∧ Below W.heap.size W w' := fun W => by
    have h := eCheck_any ⟨#[]⟩ (.slice none 0 0) [] W (SlV.nil _ _ _ _) (by decide) asm_nil
    rw [show eCheck (L ⟨#[]⟩) [] = 5 from E8.ev_c2] at h
    exact h
  have hTx : ∀ W v, AttsV W W.heap.size v E8.snL → Calls Tryz.prog 23 #[.agg #[.string ⟨#[99, 110, 61, 97, 110, 110]⟩, v]] W fun e w' => e = .returned (.tuple #[.string (B E8.textB), .int .i64 0]) ∧ Below W.heap.size W w' := fun W v hv => by
    have h := eText_any ⟨#[99, 110, 61, 97, 110, 110]⟩ v E8.snL W hv (by decide) asm_sn
    rw [show eText (L ⟨#[99, 110, 61, 97, 110, 110]⟩) E8.snL = (E8.textB, 0) from E8.ev_text] at h
    exact h
  have hDi : ∀ W v u, AttsV W W.heap.size v E8.oneL → AttsV W W.heap.size u E8.twoL → Calls Tryz.prog 25 #[.agg #[.string ⟨#[99, 110, 61, 97, 110, 110]⟩, v], .agg #[.string ⟨#[99, 110, 61, 97, 110, 110]⟩, u]] W (RetMd W [⟨2, E8.numN, [[49]]⟩, ⟨1, E8.numN, [[51]]⟩]) := fun W v u hv hu => by
    have h := diff_any ⟨#[99, 110, 61, 97, 110, 110]⟩ ⟨#[99, 110, 61, 97, 110, 110]⟩ v u E8.oneL E8.twoL W hv hu (by decide) (by decide) asm_one asm_two
    rw [show eDiff (L ⟨#[99, 110, 61, 97, 110, 110]⟩) E8.oneL (L ⟨#[99, 110, 61, 97, 110, 110]⟩) E8.twoL = _ from E8.ev_diff] at h
    exact h
  have hNm : ∀ W u v, Below w.heap.size w W → SchV W W.heap.size u E8.smallS → AttsV W W.heap.size v E8.rawL → Calls Tryz.prog 17 #[u, .agg #[.string ⟨#[67, 78, 61, 65, 110, 110]⟩, v]] W (RetE W ((E8.annN, E8.norL), 0)) := fun W u v hW hu hv => by
    have h := eNormal_any u E8.smallS ⟨#[67, 78, 61, 65, 110, 110]⟩ v E8.rawL W hu E8.small_ssm (hE.keep hW) (hU.keep hW) hv (by decide) asm_raw.1 asm_raw.2
    rw [show eNormal E8.smallS (L ⟨#[67, 78, 61, 65, 110, 110]⟩) E8.rawL = _ from E8.ev_n1] at h
    exact h
  have hAp : ∀ W u v ms, Below w.heap.size w W → SchV W W.heap.size u E8.smallS → AttsV W W.heap.size v E8.norL → ModsV W W.heap.size ms [⟨3, E8.cnN, [[66, 111, 98]]⟩] → Calls Tryz.prog 21 #[u, .agg #[.string (B E8.annN), v], ms] W (RetE W ((E8.annN, E8.bobL), 0)) := fun W u v ms hW hu hv hm => by
    have h := apply_any u E8.smallS (B E8.annN) v E8.norL ms [⟨3, E8.cnN, [[66, 111, 98]]⟩] W hu E8.small_ssm (hE.keep hW) (hU.keep hW) hv (by rw [Idn.size_B]; decide) asm_nor.1 asm_nor.2 (by decide) hm (by unfold MBig; decide)
    rw [Idn.L_B, E8.ev_apply] at h
    exact h
  have htx : (B E8.textB).toList = [101, 110, 116, 114, 121, 32, 99, 110, 37, 51, 68, 97, 110, 110, 10, 115, 110, 32, 97, 37, 50, 48, 98, 10] := by rw [toList_L, Idn.L_B]; rfl
  have hsm := fun W => small8_any W
  have hAn := fun W A n c => ann_any A n c W
  clear hE hU
  generalize B E8.textB = tx at *
  go_enter Tryz.func13, Tryz.ntmps13
  go_wp2_with fail
  refine (hAn w none 0 0).mono ?_
  rintro e w1 ⟨rfl, hb1⟩
  go_wp2_with fail
  refine (hC0 w1).mono ?_
  rintro e w2 ⟨rfl, hb⟩
  have hb2 := hb1.trans (hb.mono hb1.size)
  clear hb hb1 hC0
  go_wp2_with fail
  refine (hC1 w2).mono ?_
  rintro e w3 ⟨rfl, hb⟩
  have hb3 := hb2.trans (hb.mono hb2.size)
  clear hb hb2 hC1
  go_wp2_with fail
  with_reducible refine genW (R := fun W => Calls Tryz.prog 37 _ W _) (Q := fun W => Below w3.heap.size w3 W ∧ AttsV W W.heap.size (.slice (some ⟨w3.heap.size + 1, 0, none⟩) 1 1) E8.snL) ?_ ?_
  · refine ⟨Below.lay (Below.lay (Below.refl _ _) _) _, att1At8 (t := 9) (t' := 48) (n := E8.snN) (x := [97, 32, 98]) (p := w3.heap.size) ?_ ?_⟩
    · exact heapO8 (heapN8 _ _ _ rfl)
    · exact heapN8 _ _ _ (by simp)
  rintro W ⟨hbW, hat⟩
  refine (hAn W _ _ _).mono ?_
  rintro e w4 ⟨rfl, hb⟩
  have hb4 := hb3.trans ((hbW.trans (hb.mono hbW.size)).mono hb3.size)
  have hT := hTx w4 _ (AttsV.mono (AttsV.keep hat hb) hb.size)
  clear hb hb3 hbW hat hTx
  go_wp2_with fail
  refine hT.mono ?_
  rintro e w5 ⟨rfl, hb⟩
  have hb5 := hb4.trans (hb.mono hb4.size)
  clear hb hb4 hT
  go_wp2_with fail
  with_reducible refine genW (R := fun W => Calls Tryz.prog 37 _ W _) (Q := fun W => Below w5.heap.size w5 W ∧ AttsV W W.heap.size (.slice (some ⟨w5.heap.size + 1, 0, none⟩) 1 1) E8.oneL) ?_ ?_
  · refine ⟨Below.lay (Below.lay (Below.refl _ _) _) _, att2At8 (t := 9) (t' := 48) (n := E8.numN) (x := [49]) (y := [50]) (p := w5.heap.size) ?_ ?_⟩
    · exact heapO8 (heapN8 _ _ _ rfl)
    · exact heapN8 _ _ _ (by simp)
  rintro W ⟨hbW, hat⟩
  refine (hAn W _ _ _).mono ?_
  rintro e w6 ⟨rfl, hb⟩
  have hb6 := hb5.trans ((hbW.trans (hb.mono hbW.size)).mono hb5.size)
  have hat6 := AttsV.mono (AttsV.keep hat hb) hb.size
  clear hb hb5 hbW hat
  go_wp2_with fail
  with_reducible refine genW (R := fun W => Calls Tryz.prog 37 _ W _) (Q := fun W => Below w6.heap.size w6 W ∧ AttsV W W.heap.size (.slice (some ⟨w6.heap.size + 1, 0, none⟩) 1 1) E8.twoL) ?_ ?_
  · refine ⟨Below.lay (Below.lay (Below.refl _ _) _) _, att2At8 (t := 9) (t' := 48) (n := E8.numN) (x := [50]) (y := [51]) (p := w6.heap.size) ?_ ?_⟩
    · exact heapO8 (heapN8 _ _ _ rfl)
    · exact heapN8 _ _ _ (by simp)
  rintro W ⟨hbW, hat⟩
  refine (hAn W _ _ _).mono ?_
  rintro e w7 ⟨rfl, hb⟩
  have hb67 := hbW.trans (hb.mono hbW.size)
  have hb7 := hb6.trans (hb67.mono hb6.size)
  have hD := hDi w7 _ _ (AttsV.mono (AttsV.keep hat6 hb67) hb67.size) (AttsV.mono (AttsV.keep hat hb) hb.size)
  clear hb hb6 hbW hat hat6 hb67 hDi
  go_wp2_with fail
  refine hD.mono ?_
  rintro e w8 ⟨v8, ps8, rfl, hown8, hps8, hb⟩
  have hb8 := hb7.trans (hb.mono hb7.size)
  have hm8 := hown8.mods hps8
  obtain ⟨A8, c8, hv8⟩ := own_shape hown8.1
  subst hv8
  clear hb hb7 hD hown8
  go_upto_region 6 with fail
  with_reducible refine genW (R := fun W => Code.wp Tryz.prog _ _ _ W) (Q := fun W => Below w8.heap.size w8 W ∧ ModsV W W.heap.size (.slice (some ⟨w8.heap.size + 1 + 1, 0, none⟩) 2 2) [⟨2, E8.numN, [[49]]⟩, ⟨1, E8.numN, [[51]]⟩]) ?_ ?_
  · refine ⟨Below.lay (Below.lay (Below.lay (Below.refl _ _) _) _) _, modsAt8 (l := [⟨2, E8.numN, [[49]]⟩, ⟨1, E8.numN, [[51]]⟩]) (C := #[.int .i64 2, sv E8.numN, .slice (some ⟨w8.heap.size, 0, none⟩) 1 1, .int .i64 1, sv E8.numN, .slice (some ⟨w8.heap.size + 1, 0, none⟩) 1 1]) (t := 59) ?_ rfl (Nat.le_refl _) fun i x hx => ?_⟩
    · exact heapN8 _ _ _ (by simp)
    · match i, hx with
      | 0, hx => injection hx with hx; subst hx; exact ⟨_, rfl, rfl, rfl, strsAt8 (C := #[sv [49]]) (t := 9) (heapO8 (heapO8 (heapN8 _ _ _ rfl))) rfl (Nat.le_refl _) fun j z hz => by match j, hz with | 0, hz => injection hz with hz; subst hz; rfl⟩
      | 1, hx => injection hx with hx; subst hx; exact ⟨_, rfl, rfl, rfl, strsAt8 (C := #[sv [51]]) (t := 9) (heapO8 (heapN8 _ _ _ (by simp))) rfl (Nat.le_refl _) fun j z hz => by match j, hz with | 0, hz => injection hz with hz; subst hz; rfl⟩
  rintro W9 ⟨hb9, hm9⟩
  have hSM := sameMods_any _ _ _ _ true ⟨fun _ => rfl, fun _ => rfl⟩ W9 (ModsV.mono (ModsV.keep hm8 hb9) hb9.size) hm9 (by decide) (by decide) (by decide) (by decide)
  have hb89 := hb8.trans (hb9.mono hb8.size)
  have hl8 : ps8.length = 2 := by rw [← List.length_map (f := (·.1)), hps8]; rfl
  rw [hl8] at hSM
  clear hb8 hb9 hm8 hm9 hps8
  go_wp2_with fail
  refine hSM.mono ?_
  rintro e w10 ⟨rfl, hb⟩
  have hb10 := hb89.trans (hb.mono hb89.size)
  clear hb hb89 hSM hl8 htx
  go_wp2_with fail
  refine (hsm w10).mono ?_
  rintro e w11 ⟨u11, rfl, hS11, hb⟩
  have hb11 := hb10.trans (hb.mono hb10.size)
  obtain ⟨ua, ub, rfl, hT11, hC11⟩ := id hS11
  obtain ⟨A1, c1, rfl, _⟩ := SlV.shape hT11
  obtain ⟨A2, c2, rfl, _⟩ := SlV.shape hC11
  clear hb hb10 hT11 hC11
  go_wp2_with fail
  with_reducible refine genW (R := fun W => Calls Tryz.prog 17 _ W _) (Q := fun W => Below w11.heap.size w11 W ∧ AttsV W W.heap.size (.slice (some ⟨w11.heap.size + 1 + 1 + 1, 0, none⟩) 3 3) E8.rawL) ?_ ?_
  · refine ⟨Below.lay (Below.lay (Below.lay (Below.lay (Below.refl _ _) _) _) _) _, attsAt8 (l := E8.rawL) (C := #[sv E8.ClassN, .slice (some ⟨w11.heap.size, 0, none⟩) 1 1, sv E8.cnN, .slice (some ⟨w11.heap.size + 1, 0, none⟩) 1 1, sv E8.numN, .slice (some ⟨w11.heap.size + 1 + 1, 0, none⟩) 1 1]) (t := 48) ?_ rfl (Nat.le_refl _) fun i x hx => ?_⟩
    · exact heapN8 _ _ _ (by simp)
    · match i, hx with
      | 0, hx => injection hx with hx; subst hx; exact ⟨_, rfl, rfl, strsAt8 (C := #[sv E8.personN]) (t := 9) (heapO8 (heapO8 (heapO8 (heapN8 _ _ _ rfl)))) rfl (Nat.le_refl _) fun j z hz => by match j, hz with | 0, hz => injection hz with hz; subst hz; rfl⟩
      | 1, hx => injection hx with hx; subst hx; exact ⟨_, rfl, rfl, strsAt8 (C := #[sv [65, 110, 110]]) (t := 9) (heapO8 (heapO8 (heapN8 _ _ _ (by simp)))) rfl (Nat.le_refl _) fun j z hz => by match j, hz with | 0, hz => injection hz with hz; subst hz; rfl⟩
      | 2, hx => injection hx with hx; subst hx; exact ⟨_, rfl, rfl, strsAt8 (C := #[sv [55]]) (t := 9) (heapO8 (heapN8 _ _ _ (by simp))) rfl (Nat.le_refl _) fun j z hz => by match j, hz with | 0, hz => injection hz with hz; subst hz; rfl⟩
  rintro W12 ⟨hb12, hat⟩
  have hbw12 := hb11.trans (hb12.mono hb11.size)
  have hN := hNm W12 _ _ hbw12 (SchV.mono (SchV.keep hS11 hb12) hb12.size) hat
  clear hb12 hb11 hat hNm hS11
  refine hN.mono ?_
  rintro e w13 ⟨v13, ps13, rfl, hown13, hps13, hb⟩
  have hb13 := hbw12.trans (hb.mono hbw12.size)
  obtain ⟨A13, c13, hv13⟩ := own_shape hown13.1
  subst hv13
  have hat13 := hown13.atts hps13
  have hl13 : ps13.length = 3 := by rw [← List.length_map (f := (·.1)), hps13]; rfl
  rw [hl13] at hat13
  clear hb hbw12 hN hown13 hps13
  go_upto_region 9 with fail
  with_reducible refine gen1 (R := fun W => Code.wp Tryz.prog _ _ _ W) ?_
  intro W14 hb14 hsz14 hc14 _
  have p0 : W14.cell? ⟨w13.heap.size, 0, none⟩ = some (.string (B E8.annN)) := hc14 0 _ rfl
  have p1 : W14.cell? ⟨w13.heap.size, 1, none⟩ = some (.slice A13 3 c13) := hc14 1 _ rfl
  have hat14 := AttsV.mono (AttsV.keep hat13 hb14) hb14.size
  have hbw14 := hb13.trans (hb14.mono hb13.size)
  have hta : (B E8.annN).toList = [99, 110, 61, 97, 110, 110] := by rw [toList_L, Idn.L_B]; rfl
  clear hc14 hb13 hb14 hat13 hsz14 hl13
  generalize B E8.annN = an at *
  go_upto_region 11 with fail
  go_cut [2, 6] (fun t2 t6 wx => t2 = .int .i64 0 ∧ ∃ b A c, t6 = .pointer (some ⟨b, 0, none⟩) ∧ wx.cell? ⟨b, 1, none⟩ = some (.slice A 3 c) ∧ AttsV wx wx.heap.size (.slice A 3 c) E8.bobL ∧ Below w.heap.size w wx)
  case first =>
    have hS : ∀ W', Below W14.heap.size W14 W' → W'.cell? ⟨w13.heap.size, 0, none⟩ = some (.string an) ∧ W'.cell? ⟨w13.heap.size, 1, none⟩ = some (.slice A13 3 c13) ∧ Below W14.heap.size W14 W' := fun W' hW => ⟨cell_later hW p0, cell_later hW p1, hW⟩
    clear p0 p1
    go_region_held3 (fun W' => W'.cell? ⟨w13.heap.size, 0, none⟩ = some (.string an) ∧ W'.cell? ⟨w13.heap.size, 1, none⟩ = some (.slice A13 3 c13) ∧ Below W14.heap.size W14 W')
      (first | (refine hS _ ?_; repeat (first | with_reducible exact Below.refl _ _ | with_reducible apply Below.drew | with_reducible refine Below.lay ?_ _ | with_reducible refine Below.on ?_ hbs | with_reducible refine Below.on ?_ hba | with_reducible refine Below.setCell ?_ (by first | (simp; done) | ((have h1 := hba.size); (have h2 := hbs.size); simp at h1 h2 ⊢; omega)) _)))
      (first
        | (go_at_call 38
           refine (hsm _).mono ?_
           rintro e x1 ⟨u, rfl, hS1, hbs⟩
           (first | have bx := box_at (a := .string ⟨#[]⟩) (b := .slice none 0 0) (t := 24) hbs (by (repeat (first | exact heapN8 _ _ _ rfl | with_reducible apply heapD8 | with_reducible apply heapO8)); done) | skip)
           (try simp at bx))
        | (go_at_call 21
           refine (hAp _ _ _ _ ?_ ?_ ?_ ?_).mono ?_
           · refine hbw14.trans (Below.mono ?_ hbw14.size)
             repeat (first | with_reducible exact Below.refl _ _ | with_reducible apply Below.drew | with_reducible refine Below.lay ?_ _ | with_reducible refine Below.on ?_ hbs)
           · refine sch_at hS1 ?_
             repeat (first | with_reducible exact Below.refl _ _ | with_reducible refine Below.lay ?_ _)
           · refine atts_at hat14 ?_
             repeat (first | with_reducible exact Below.refl _ _ | with_reducible apply Below.drew | with_reducible refine Below.lay ?_ _ | with_reducible refine Below.on ?_ hbs)
           · exact mod1At8 (op := 3) (n := E8.cnN) (x := [66, 111, 98]) (t := 9) (t' := 59) (by repeat (first | exact heapN8 _ _ _ (by first | rfl | simp) | with_reducible apply heapD8 | with_reducible apply heapO8 | with_reducible apply heapB8 hbs)) (by repeat (first | exact heapN8 _ _ _ (by first | rfl | simp) | with_reducible apply heapD8 | with_reducible apply heapO8 | with_reducible apply heapB8 hbs))
           rintro e x2 ⟨va, psa, rfl, howna, hpsa, hba⟩
           (first
             | have by9 := box_later bx (Below.on (by (repeat (first | with_reducible exact Below.refl _ _ | with_reducible apply Below.drew | with_reducible refine Below.lay ?_ _)); done) hba)
             | have by9 := box_at (a := .string ⟨#[]⟩) (b := .slice none 0 0) (t := 24) hba (by (repeat (first | exact heapN8 _ _ _ rfl | with_reducible apply heapD8 | with_reducible apply heapO8)); done)
             | skip)
           (try simp at by9)
           (try obtain ⟨by1, by2, by3, by4⟩ := by9)
           obtain ⟨Ab, cb, hvb⟩ := own_shape howna.1
           subst hvb
           skip))
    all_goals
      have hp9 : psa.length = 3 := by rw [← List.length_map (f := (·.1)), hpsa]; rfl
      have hx2 : Below w.heap.size w x2 := by
        refine hbw14.trans (Below.mono ?_ hbw14.size)
        repeat (first | with_reducible exact Below.refl _ _ | with_reducible apply Below.drew | with_reducible refine Below.lay ?_ _ | with_reducible refine Below.on ?_ hbs | with_reducible refine Below.on ?_ hba)
      go_wp2_with fail
      go_meet
      first
        | exact ⟨rfl, _, Ab, cb, rfl, box_new hx2 howna hpsa hp9⟩
        | exact ⟨rfl, _, Ab, cb, rfl, box_set hx2 howna hpsa hp9 (by (have h1 := hbw14.size); (have h2 := hbs.size); (try simp at h2); omega) (by first | (simp; done) | ((have h2 := hbs.size); (try simp at h2 ⊢); omega)) by1 by2⟩
  case rest =>
    obtain ⟨rfl, b, A, c, rfl, hc, hat, hb⟩ := hcut
    rename World => wx
    obtain ⟨b', off, v, hA, hb', d0, d1, hvs⟩ := AttsV.cell hat (k := 1) (by decide)
    subst hA
    obtain ⟨Av, cv, rfl, _⟩ := hvs.shape
    have d1' : wx.cell? ⟨b', off + 2 + 1, none⟩ = some (.slice Av E8.bobL[1].vals.length cv) := d1
    go_wp2_with fail
    with_reducible refine genW (R := fun W => Calls Tryz.prog 39 _ W _) (Q := fun W => Below wx.heap.size wx W ∧ StrsV W W.heap.size (.slice (some ⟨wx.heap.size, 0, none⟩) 1 1) [[98, 111, 98]]) ?_ ?_
    · refine ⟨Below.lay (Below.refl _ _) _, strsAt8 (C := #[sv [98, 111, 98]]) (t := 9) (heapN8 _ _ _ rfl) rfl (Nat.le_refl _) fun j z hz => by match j, hz with | 0, hz => injection hz with hz; subst hz; rfl⟩
    rintro W ⟨hbW, hs⟩
    refine (sameS_any _ _ [[98, 111, 98]] [[98, 111, 98]] true ⟨fun _ => rfl, fun _ => rfl⟩ W (SlV.mono (SlV.keep hvs hbW) hbW.size) hs (by decide) (by decide)).mono ?_
    rintro e wz ⟨rfl, hbz⟩
    go_wp2_with fail
    go_ret
    exact ⟨rfl, hb.trans ((hbW.trans (hbz.mono hbW.size)).mono hb.size)⟩
end Go.Proofs.YtoopoglkeeoamaaGreatDoor
/- identityref08: SmallSchema returns. -/
namespace Go.Proofs.YtoopoglkeeoamaaGreatDoor
open Go.RowKit Go.Sort
open Idn (L B Bs drop_L take_L size_L)
theorem run_min (n : Nat) : ∃ m : Nat, m ≤ 1000 ∧ min (n : Int) 1000 = (m : Int) := ⟨min n 1000, Nat.min_le_right _ _, by omega⟩
theorem smallSch_any (u : Value) (s : Idn.Sch) (w : World) (hu : SchV w w.heap.size u s) (hs : SSm s) :
  Calls Tryz.prog 16 #[u] w (RetB True w) := by
 obtain ⟨au, bu, rfl, hT, hC⟩ := hu
 obtain ⟨AT, cT, rfl, _⟩ := SlV.shape hT
 obtain ⟨AC, cC, rfl, _⟩ := SlV.shape hC
 go_enter Tryz.func16, Tryz.ntmps16
 go_upto_region 1 with fail
 with_reducible refine gen1 (R := fun W => Code.wp Tryz.prog _ _ _ W) ?_
 intro W hbW hszW hc1 _
 have q0 : W.cell? ⟨w.heap.size, 0, none⟩ = some (.slice AT s.types.length cT) := hc1 0 _ rfl
 have q1 : W.cell? ⟨w.heap.size, 1, none⟩ = some (.slice AC s.classes.length cC) := hc1 1 _ rfl
 have hwW : w.heap.size < W.heap.size := by omega
 clear hc1 hszW
 by_cases h70 : 70 < s.types.length
 ·have hI : (70 : Int) < (s.types.length : Int) := by omega
  go_wp2_with fail
  go_ret
  exact ⟨_, rfl, fun _ => trivial, hbW⟩
 have hI : ¬ (70 : Int) < (s.types.length : Int) := by omega
 by_cases h40 : 40 < s.classes.length
 ·have hJ : (40 : Int) < (s.classes.length : Int) := by omega
  go_wp2_with fail
  go_ret
  exact ⟨_, rfl, fun _ => trivial, hbW⟩
 have hJ : ¬ (40 : Int) < (s.classes.length : Int) := by omega
 go_wp2_with fail
 go_loopw [3, 4] (fun n i wr => ∃ (k t : Nat), k ≤ s.types.length ∧ n = .int .i64 t ∧ i = .int .i64 k ∧ t ≤ k * 1000 ∧ Below W.heap.size W wr) (fun _ i _ => s.types.length - (intOf i).toNat)
 case atStart => exact ⟨0, 0, Nat.zero_le _, rfl, rfl, Nat.le_refl _, Below.refl _ _⟩
 case round =>
  obtain ⟨k, t, hk, rfl, rfl, ht, hbk0⟩ := hrel
  replace q0 := cell_later hbk0 q0
  replace q1 := cell_later hbk0 q1
  have hbk1 := hbW.trans (hbk0.mono hbW.size)
  by_cases hlt : k < s.types.length
  ·have hltI : (k : Int) < (s.types.length : Int) := by omega
   obtain ⟨b, off, hA, hbk, d0, _⟩ := TypesV.cell (SlV.keep hT hbk1) hlt
   subst hA
   obtain ⟨m, hm, hmin⟩ := run_min (B s.types[k].name).size
   have hwr : IntKind.i64.wrap ((t : Int) + (m : Int)) = (t : Int) + (m : Int) := IntWalk.i64_in _ ⟨by omega, by omega⟩
   generalize B s.types[k].name = bn at *
   go_wp2_with fail
   go_roundw
   case rel => exact ⟨k + 1, t + m, by omega, by congr 1, by go_num, by omega, hbk0⟩
   case measure => simp [intOf]; omega
  ·have hltI : ¬ (k : Int) < (s.types.length : Int) := by omega
   have ht7 : t ≤ 70000 := by omega
   clear hT
   go_wp2_with fail
   go_loopw [3, 5] (fun n i wx => ∃ (j t : Nat), j ≤ s.classes.length ∧ n = .int .i64 t ∧ i = .int .i64 j ∧ t ≤ 70000 + j * 100000 ∧ Below wr.heap.size wr wx) (fun _ i _ => s.classes.length - (intOf i).toNat)
   case atStart => exact ⟨0, t, Nat.zero_le _, rfl, rfl, by omega, Below.refl _ _⟩
   case round =>
    obtain ⟨j, t, hj, rfl, rfl, htj, hbx⟩ := hrel
    replace q0 := cell_later hbx q0
    replace q1 := cell_later hbx q1
    have hbwx := hbk1.trans (hbx.mono hbk1.size)
    obtain ⟨wo, hwo⟩ : ∃ wo : World, wo = wr := ⟨_, rfl⟩
    subst hwo
    by_cases hjl : j < s.classes.length
    ·have hjI : (j : Int) < (s.classes.length : Int) := by omega
     obtain ⟨b, off, v1, v2, hA, hbk, d0, d1, d2, d3, hm1, hm2⟩ := ClassesV.cell (ClassesV.keep hC hbwx) hjl
     subst hA
     obtain ⟨A3, c3, rfl, _⟩ := SlV.shape hm1
     obtain ⟨A4, c4, rfl, _⟩ := SlV.shape hm2
     obtain ⟨x1, hx1, hmin1⟩ := run_min (B s.classes[j].name).size
     obtain ⟨x2, hx2, hmin2⟩ := run_min (B s.classes[j].super).size
     generalize B s.classes[j].name = bn at *
     generalize B s.classes[j].super = bs at *
     go_upto_region 12 with fail
     with_reducible refine gen1 (R := fun W => Code.wp Tryz.prog _ _ _ W) ?_
     intro W3 hbW3 hszW3 hc3 _
     have r0 : W3.cell? ⟨wo.heap.size, 0, none⟩ = some (.string bn) := hc3 0 _ rfl
     have r1 : W3.cell? ⟨wo.heap.size, 1, none⟩ = some (.string bs) := hc3 1 _ rfl
     have r2 : W3.cell? ⟨wo.heap.size, 2, none⟩ = some (.slice A3 s.classes[j].must.length c3) := hc3 2 _ rfl
     have r3 : W3.cell? ⟨wo.heap.size, 3, none⟩ = some (.slice A4 s.classes[j].may.length c4) := hc3 3 _ rfl
     have hM1 := SlV.keep hm1 (hbW3.mono hbwx.size)
     have hM2 := SlV.keep hm2 (hbW3.mono hbwx.size)
     have hbx3 := hbx.trans (hbW3.mono hbx.size)
     clear hc3 hszW3 d0 d1 d2 d3 hm1 hm2 q0 q1 hbW3
     generalize s.classes[j].must = mu at *
     generalize s.classes[j].may = ma at *
     by_cases hmu : 40 < mu.length
     ·have hK : (40 : Int) < (mu.length : Int) := by omega
      go_wp2_with fail
      go_ret
      exact ⟨_, rfl, fun _ => trivial, hbk1.trans (hbx3.mono hbk1.size)⟩
     have hK : ¬ (40 : Int) < (mu.length : Int) := by omega
     by_cases hma : 40 < ma.length
     ·have hK2 : (40 : Int) < (ma.length : Int) := by omega
      go_wp2_with fail
      go_ret
      exact ⟨_, rfl, fun _ => trivial, hbk1.trans (hbx3.mono hbk1.size)⟩
     have hK2 : ¬ (40 : Int) < (ma.length : Int) := by omega
     have hj40 : j ≤ 40 := by omega
     have hw1 : IntKind.i64.wrap ((t : Int) + (x1 : Int)) = (t : Int) + (x1 : Int) := IntWalk.i64_in _ ⟨by omega, by omega⟩
     have hw2 : IntKind.i64.wrap ((t : Int) + (x1 : Int) + (x2 : Int)) = (t : Int) + (x1 : Int) + (x2 : Int) := IntWalk.i64_in _ ⟨by omega, by omega⟩
     go_wp2_with fail
     go_loop [3, 7] (fun n i => ∃ (y t' : Nat), y ≤ mu.length ∧ n = .int .i64 t' ∧ i = .int .i64 y ∧ t' ≤ t + 2000 + y * 1000) (fun _ i => mu.length - (intOf i).toNat)
     case atStart => exact ⟨0, t + x1 + x2, Nat.zero_le _, by congr 1, rfl, by omega⟩
     case round =>
      obtain ⟨y, t', hy, rfl, rfl, ht'⟩ := hrel
      by_cases hyl : y < mu.length
      ·have hyI : (y : Int) < (mu.length : Int) := by omega
       obtain ⟨b5, o5, hA5, hb5, e0⟩ := StrsV.cell hM1 hyl
       subst hA5
       obtain ⟨m, hm, hmin⟩ := run_min (B mu[y]).size
       have hwr : IntKind.i64.wrap ((t' : Int) + (m : Int)) = (t' : Int) + (m : Int) := IntWalk.i64_in _ ⟨by omega, by omega⟩
       generalize B mu[y] = bm at *
       go_wp2_with fail
       go_round
       case rel => exact ⟨y + 1, t' + m, by omega, by congr 1, by go_num, by omega⟩
       case measure => simp [intOf]; omega
      ·have hyI : ¬ (y : Int) < (mu.length : Int) := by omega
       have ht2 : t' ≤ t + 42000 := by omega
       clear hM1
       go_wp2_with fail
       go_loop [3, 8] (fun n i => ∃ (y t' : Nat), y ≤ ma.length ∧ n = .int .i64 t' ∧ i = .int .i64 y ∧ t' ≤ t + 42000 + y * 1000) (fun _ i => ma.length - (intOf i).toNat)
       case atStart => exact ⟨0, t', Nat.zero_le _, rfl, rfl, by omega⟩
       case round =>
        obtain ⟨y, t', hy, rfl, rfl, ht'⟩ := hrel
        by_cases hyl : y < ma.length
        ·have hyI : (y : Int) < (ma.length : Int) := by omega
         obtain ⟨b5, o5, hA5, hb5, e0⟩ := StrsV.cell hM2 hyl
         subst hA5
         obtain ⟨m, hm, hmin⟩ := run_min (B ma[y]).size
         have hwr : IntKind.i64.wrap ((t' : Int) + (m : Int)) = (t' : Int) + (m : Int) := IntWalk.i64_in _ ⟨by omega, by omega⟩
         generalize B ma[y] = bm at *
         go_wp2_with fail
         go_round
         case rel => exact ⟨y + 1, t' + m, by omega, by congr 1, by go_num, by omega⟩
         case measure => simp [intOf]; omega
        ·have hyI : ¬ (y : Int) < (ma.length : Int) := by omega
         go_wp2_with fail
         go_roundw
         case rel => exact ⟨j + 1, t', by omega, rfl, by go_num, by omega, hbx3⟩
         case measure => simp [intOf]; omega
    ·have hjI : ¬ (j : Int) < (s.classes.length : Int) := by omega
     go_wp2_with fail
     go_ret
     exact ⟨_, rfl, fun _ => trivial, hbwx⟩
end Go.Proofs.YtoopoglkeeoamaaGreatDoor
