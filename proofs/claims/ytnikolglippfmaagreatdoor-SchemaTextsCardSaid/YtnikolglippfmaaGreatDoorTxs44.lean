/- Part 44 of the proof that what Parse reads of a class's description is what the text says, and what it writes Parse reads back: the package variables hold what the program lays; nothing else is asked. -/
import Derived.Test.YtnikolglippfmaaGreatDoorTxs10
import Derived.Test.YtnikolglippfmaaGreatDoorTxs11
import Derived.Test.YtnikolglippfmaaGreatDoorTxs12
import Derived.Test.YtnikolglippfmaaGreatDoorTxs13
import Derived.Test.YtnikolglippfmaaGreatDoorTxs21
import Derived.Test.YtnikolglippfmaaGreatDoorTxs37
import Derived.Test.YtnikolglippfmaaGreatDoorTxs40
import Derived.Test.YtnikolglippfmaaGreatDoorTxs41
import Derived.Test.YtnikolglippfmaaGreatDoorTxs43
/- law07: alive, walked. -/
namespace Go.Proofs.YtnikolglippfmaaGreatDoor
open Go.RowKit Go.Sort
open Idn (L B Bs drop_L take_L size_L)
theorem heapN (w : World) (o : Obj) (p : Nat) (hp : w.heap.size = p) : (w.alloc o).heap[p]? = some o := by subst hp; exact heap_alloc_new w o
theorem heapO {w : World} {o o' : Obj} {p : Nat} (h : w.heap[p]? = some o') : (w.alloc o).heap[p]? = some o' := by
  rw [Below.heap_alloc _ _ _ (Array.getElem?_eq_some_iff.1 h).1]; exact h
theorem strsAt {W : World} {p n c : Nat} {C : Array Value} {t : TypeId} {l : List Bs} (h : W.heap[p]? = some (.cells C t)) (hn : n = l.length) (hl : l.length ≤ c) (hc : ∀ (i : Nat) (x : Bs), l[i]? = some x → C[i]? = some (sv x)) : StrsV W W.heap.size (.slice (some ⟨p, 0, none⟩) n c) l := by
  subst hn
  refine ⟨_, _, rfl, hl, fun _ => ⟨p, 0, rfl, (Array.getElem?_eq_some_iff.1 h).1, fun i x hx => ⟨[sv x], rfl, rfl, fun j u hj => ?_⟩⟩⟩
  match j, hj with
  | 0, hj =>
    simp at hj; subst hj
    rw [Nat.zero_add, Nat.add_zero, Nat.mul_one, cell_of_row _ p i _ _ (0, 0) h]
    exact hc i x hx
theorem attsAt {W : World} {p n c : Nat} {C : Array Value} {t : TypeId} {l : List Idn.Att} (h : W.heap[p]? = some (.cells C t)) (hn : n = l.length) (hl : l.length ≤ c) (hc : ∀ (i : Nat) (x : Idn.Att), l[i]? = some x → ∃ v, C[i * 2]? = some (sv x.name) ∧ C[i * 2 + 1]? = some v ∧ StrsV W W.heap.size v x.vals) : AttsV W W.heap.size (.slice (some ⟨p, 0, none⟩) n c) l := by
  subst hn
  refine ⟨_, _, rfl, hl, fun _ => ⟨p, 0, rfl, (Array.getElem?_eq_some_iff.1 h).1, fun i x hx => ?_⟩⟩
  obtain ⟨v, h1, h2, h3⟩ := hc i x hx
  refine ⟨[sv x.name, v], rfl, ⟨v, rfl, h3⟩, fun j u hj => ?_⟩
  match j, hj with
  | 0, hj =>
    simp at hj; subst hj
    rw [Nat.zero_add, Nat.add_zero, cell_of_row _ p _ _ _ (0, 0) h]
    exact h1
  | 1, hj =>
    simp at hj; subst hj
    rw [Nat.zero_add, cell_of_row _ p _ _ _ (0, 0) h]
    exact h2
theorem genL {R : World → Prop} {w : World} {C : Array Value} {t : TypeId} (l : List Bs) (hC : C = (l.map sv).toArray)
    (h : ∀ W, Below w.heap.size w W → StrsV W W.heap.size (.slice (some ⟨w.heap.size, 0, none⟩) l.length l.length) l → R W) : R (w.alloc (.cells C t)) := by
  subst hC
  exact h _ ((Below.refl _ _).alloc (Nat.le_refl _) _) (strsAt (heapN w _ _ rfl) rfl (Nat.le_refl _) fun i x hx => by simp [hx])
set_option maxHeartbeats 4000000 in
set_option maxRecDepth 100000 in
theorem alive_any (w : World) (hE : Env w) (hU : EnvU w) : Calls Tryz.prog 9 #[] w fun e w' => e = .returned (.bool true) ∧ Below w.heap.size w w' := by
  have hSm := small_any w
  go_enter Tryz.func9, Tryz.ntmps9
  go_wp2_with fail
  refine hSm.mono ?_
  rintro e w1 ⟨v, rfl, hS1, hb1⟩
  have h1 : Sm7 w1 v := ⟨hS1, hE.keep hb1, hU.keep hb1⟩
  obtain ⟨a, b, rfl, hT, hC⟩ := hS1
  obtain ⟨A, ca, rfl, hca⟩ := SlV.shape hT
  obtain ⟨A', cb, rfl, hcb⟩ := SlV.shape hC
  clear hT hC hSm
  go_wp2_with fail
  with_reducible refine gen1 (R := fun W => Calls Tryz.prog 33 _ W _) ?_
  intro W2 hbW2 hszW2 hc2 _
  have q0 : W2.cell? ⟨w1.heap.size, 0, none⟩ = some (.slice A smallS.types.length ca) := hc2 0 _ rfl
  have q1 : W2.cell? ⟨w1.heap.size, 1, none⟩ = some (.slice A' smallS.classes.length cb) := hc2 1 _ rfl
  have h2 := h1.keep hbW2
  have hb2 := hb1.trans (hbW2.mono hb1.size)
  clear hc2 hszW2 hbW2 h1 hb1 hca hcb
  refine (sm_type h2).mono ?_
  rintro e w3 ⟨rfl, hb3⟩
  have h3 := h2.keep hb3
  have hb13 := hb2.trans (hb3.mono hb2.size)
  replace q0 := cell_later hb3 q0
  replace q1 := cell_later hb3 q1
  have ba := (Below.refl w3.heap.size w3).alloc (Nat.le_refl _) (.cells #[.string ⟨#[97, 103, 101]⟩, .int .i64 3, .bool true] 58)
  have q0a := cell_later ba q0
  have q1a := cell_later ba q1
  clear hb3 h2 hb2 ba
  go_wp2_with fail
  with_reducible refine gen1 (R := fun W => Calls Tryz.prog 10 _ W _) ?_
  intro W4 hbW4 hszW4 hc4 _
  have g2 : W4.cell? ⟨w3.heap.size, 2, none⟩ = some (.bool true) := hc4 2 _ rfl
  have h4 := h3.keep hbW4
  have hb4 := hb13.trans (hbW4.mono hb13.size)
  replace q0 := cell_later hbW4 q0
  replace q1 := cell_later hbW4 q1
  clear hc4 hszW4 hbW4 h3 hb13 q0a q1a
  refine (sm_n1 h4).mono ?_
  rintro e w5 ⟨rfl, hb⟩
  have h5 := h4.keep hb
  have hb5 := hb4.trans (hb.mono hb4.size)
  replace q0 := cell_later hb q0
  replace q1 := cell_later hb q1
  replace g2 := cell_later hb g2
  clear hb h4 hb4
  go_wp2_with fail
  refine (sm_n2 h5).mono ?_
  rintro e w6 ⟨rfl, hb⟩
  have h6 := h5.keep hb
  have hb6 := hb5.trans (hb.mono hb5.size)
  replace q0 := cell_later hb q0
  replace q1 := cell_later hb q1
  replace g2 := cell_later hb g2
  clear hb h5 hb5
  go_wp2_with fail
  refine (sm_n3 h6).mono ?_
  rintro e w7 ⟨rfl, hb⟩
  have h7 := h6.keep hb
  have hb7 := hb6.trans (hb.mono hb6.size)
  replace q0 := cell_later hb q0
  replace q1 := cell_later hb q1
  replace g2 := cell_later hb g2
  clear hb h6 hb6
  go_wp2_with fail
  refine (sm_c h7).mono ?_
  rintro e w8 ⟨rfl, hb⟩
  have h8 := h7.keep hb
  have hb8 := hb7.trans (hb.mono hb7.size)
  replace q0 := cell_later hb q0
  replace q1 := cell_later hb q1
  replace g2 := cell_later hb g2
  clear hb h7 hb7
  go_wp2_with fail
  refine (sm_n4 h8).mono ?_
  rintro e w9 ⟨rfl, hb⟩
  have h9 := h8.keep hb
  have hb9 := hb8.trans (hb.mono hb8.size)
  replace q0 := cell_later hb q0
  replace q1 := cell_later hb q1
  replace g2 := cell_later hb g2
  clear hb h8 hb8
  go_wp2_with fail
  refine (sm_t h9).mono ?_
  rintro e w10 ⟨rfl, hb⟩
  have h10 := h9.keep hb
  have hb10 := hb9.trans (hb.mono hb9.size)
  replace q0 := cell_later hb q0
  replace q1 := cell_later hb q1
  clear hb h9 hb9 g2
  have htx : (B textB).toList = [116, 121, 112, 101, 32, 99, 108, 97, 115, 115, 32, 116, 101, 120, 116, 10, 116, 121, 112, 101, 32, 99, 110, 32, 116, 101, 120, 116, 10, 116, 121, 112, 101, 32, 97, 103, 101, 32, 105, 110, 116, 32, 115, 105, 110, 103, 108, 101, 10, 116, 121, 112, 101, 32, 97, 99, 116, 105, 118, 101, 32, 98, 111, 111, 108, 10, 99, 108, 97, 115, 115, 32, 112, 101, 114, 115, 111, 110, 32, 45, 32, 99, 110, 32, 97, 103, 101, 10, 99, 108, 97, 115, 115, 32, 115, 116, 97, 102, 102, 32, 112, 101, 114, 115, 111, 110, 32, 45, 32, 97, 99, 116, 105, 118, 101, 10] := by rw [toList_L, Idn.L_B]; rfl
  have hfit : ¬ (281474976710656 < Builtin.nextslicecap 3 1 * Tryz.t64.bytes) := by decide
  generalize B textB = tx at *
  go_wp2_with fail
  refine (parse_age w10 h10.2.1).mono ?_
  rintro e w11 ⟨rfl, hb⟩
  have h11 := h10.keep hb
  have hb11 := hb10.trans (hb.mono hb10.size)
  replace q0 := cell_later hb q0
  replace q1 := cell_later hb q1
  clear hb h10 hb10
  go_upto_region 16 with fail
  with_reducible refine genW (R := fun W => Code.wp Tryz.prog _ _ _ W) (Q := fun W => Below w11.heap.size w11 W ∧ W.heap[w11.heap.size + 1]? = some (.cells #[.string ⟨#[112, 101, 114, 115, 111, 110]⟩] 9) ∧ W.heap[w11.heap.size + 1 + 1]? = some (.cells #[.string ⟨#[65, 110, 110]⟩] 9) ∧
    W.heap[w11.heap.size + 1 + 1 + 1]? = some (.cells #[.string ⟨#[99, 108, 97, 115, 115]⟩, .slice (some ⟨w11.heap.size + 1, 0, none⟩) 1 1, .string ⟨#[99, 110]⟩, .slice (some ⟨w11.heap.size + 1 + 1, 0, none⟩) 1 1] 64) ∧
    W.heap[w11.heap.size + 1 + 1 + 1 + 1]? = some (.cells #[.string ⟨#[99, 110, 61, 97, 110, 110]⟩, .slice (some ⟨w11.heap.size + 1 + 1 + 1, 0, none⟩) 2 2] 38) ∧
    W.heap[w11.heap.size + 1 + 1 + 1 + 1 + 1]? = some (.cells #[.string ⟨#[55]⟩, .string ⟨#[56]⟩] 9) ∧
    (∃ z, W.heap[w11.heap.size + 1 + 1 + 1 + 1 + 1 + 1 + 1]? = some (.cells (#[.string ⟨#[97, 103, 101]⟩, .slice (some ⟨w11.heap.size + 1 + 1 + 1 + 1 + 1, 0, none⟩) 2 2] ++ (#[.string ⟨#[99, 108, 97, 115, 115]⟩, .slice (some ⟨w11.heap.size + 1, 0, none⟩) 1 1, .string ⟨#[99, 110]⟩, .slice (some ⟨w11.heap.size + 1 + 1, 0, none⟩) 1 1] ++ z)) 64)) ∧
    (∃ cap, 3 ≤ cap ∧ W.heap[w11.heap.size + 1 + 1 + 1 + 1 + 1 + 1 + 1 + 1]? = some (.cells #[.string ⟨#[]⟩, .slice (some ⟨w11.heap.size + 1 + 1 + 1 + 1 + 1 + 1 + 1, 0, none⟩) 3 cap] 38))) ?_ ?_
  · refine ⟨?_, ?_, ?_, ?_, ?_, ?_, ⟨Builtin.zeroCells #[.string ⟨#[]⟩, .slice none 0 0] (grownCap w11 3 1 64 - 3), ?_⟩, ⟨grownCap w11 3 1 64, grownCap_ge w11 3 1 64, ?_⟩⟩
    · repeat (first | with_reducible exact Below.refl _ _ | with_reducible apply Below.drew | with_reducible refine Below.lay ?_ _)
    all_goals
      show (World.heap (World.alloc _ _))[_]? = _
      repeat (first | exact heapN _ _ _ (by simp) | refine heapO ?_)
  · rintro W12 ⟨hb, e1, e2, e3, e4, e5, ⟨z, e7⟩, ⟨cap, hcap, e8⟩⟩
    have sB := fun (p : Nat) (C : Array Value) (t : TypeId) (i : Nat) (h : W12.heap[p]? = some (.cells C t)) => cell_of_row W12 p i C t (0, 0) h
    have hP := strsAt (l := [personN]) (n := 1) (c := 1) e1 rfl (Nat.le_refl _) (fun i x hx => by match i, hx with | 0, hx => (injection hx with hx; subst hx; rfl))
    have hA := strsAt (l := [[65, 110, 110]]) (n := 1) (c := 1) e2 rfl (Nat.le_refl _) (fun i x hx => by match i, hx with | 0, hx => (injection hx with hx; subst hx; rfl))
    have h78 := strsAt (l := [[55], [56]]) (n := 2) (c := 2) e5 rfl (Nat.le_refl _) (fun i x hx => by match i, hx with | 0, hx => (injection hx with hx; subst hx; rfl) | 1, hx => (injection hx with hx; subst hx; rfl))
    have hAnn : AttsV W12 W12.heap.size (.slice (some ⟨w11.heap.size + 1 + 1 + 1, 0, none⟩) 2 2) annA := attsAt e3 rfl (Nat.le_refl _) (fun i x hx => by
      match i, hx with
      | 0, hx => injection hx with hx; subst hx; exact ⟨_, rfl, rfl, hP⟩
      | 1, hx => injection hx with hx; subst hx; exact ⟨_, rfl, rfl, hA⟩)
    have hTwo : AttsV W12 W12.heap.size (.slice (some ⟨w11.heap.size + 1 + 1 + 1 + 1 + 1 + 1 + 1, 0, none⟩) 3 cap) twoL := attsAt e7 rfl hcap (fun i x hx => by
      match i, hx with
      | 0, hx => injection hx with hx; subst hx; exact ⟨_, by simp [Array.getElem?_append]; rfl, by simp [Array.getElem?_append], h78⟩
      | 1, hx => injection hx with hx; subst hx; exact ⟨_, by simp [Array.getElem?_append]; rfl, by simp [Array.getElem?_append], hP⟩
      | 2, hx => injection hx with hx; subst hx; exact ⟨_, by simp [Array.getElem?_append]; rfl, by simp [Array.getElem?_append], hA⟩)
    have a0 : W12.cell? ⟨w11.heap.size + 1 + 1 + 1 + 1, 0, none⟩ = some (.string ⟨#[99, 110, 61, 97, 110, 110]⟩) := sB _ _ _ 0 e4
    have a1 : W12.cell? ⟨w11.heap.size + 1 + 1 + 1 + 1, 1, none⟩ = some (.slice (some ⟨w11.heap.size + 1 + 1 + 1, 0, none⟩) 2 2) := sB _ _ _ 1 e4
    have b0 : W12.cell? ⟨w11.heap.size + 1 + 1 + 1 + 1 + 1 + 1 + 1 + 1, 0, none⟩ = some (.string ⟨#[]⟩) := sB _ _ _ 0 e8
    have b1 : W12.cell? ⟨w11.heap.size + 1 + 1 + 1 + 1 + 1 + 1 + 1 + 1, 1, none⟩ = some (.slice (some ⟨w11.heap.size + 1 + 1 + 1 + 1 + 1 + 1 + 1, 0, none⟩) 3 cap) := sB _ _ _ 1 e8
    have h12 := h11.keep hb
    have hb12 := hb11.trans (hb.mono hb11.size)
    replace q0 := cell_later hb q0
    replace q1 := cell_later hb q1
    clear sB hP hA h78 e1 e2 e3 e4 e5 e7 e8 hb h11 hb11 htx hfit
    go_wp2_with fail
    refine (sm_ck h12).mono ?_
    rintro e w13 ⟨rfl, hb⟩
    have h13 := h12.keep hb
    have hb13 := hb12.trans (hb.mono hb12.size)
    replace q0 := cell_later hb q0
    replace q1 := cell_later hb q1
    replace a0 := cell_later hb a0
    replace a1 := cell_later hb a1
    replace b0 := cell_later hb b0
    replace b1 := cell_later hb b1
    replace hAnn := AttsV.mono (AttsV.keep hAnn hb) hb.size
    replace hTwo := AttsV.mono (AttsV.keep hTwo hb) hb.size
    clear h12 hb12 hb
    go_wp2_with fail
    refine (sm_v1 h13 _ _ hAnn).mono ?_
    rintro e w14 ⟨rfl, hb⟩
    have h14 := h13.keep hb
    have hb14 := hb13.trans (hb.mono hb13.size)
    replace q0 := cell_later hb q0
    replace q1 := cell_later hb q1
    replace b0 := cell_later hb b0
    replace b1 := cell_later hb b1
    replace hTwo := AttsV.mono (AttsV.keep hTwo hb) hb.size
    clear h13 hb13 hb hAnn a0 a1
    go_wp2_with fail
    refine (sm_v2 h14 _ _ hTwo).mono ?_
    rintro e w15 ⟨rfl, hb⟩
    have h15 := h14.keep hb
    have hb15 := hb14.trans (hb.mono hb14.size)
    replace q0 := cell_later hb q0
    replace q1 := cell_later hb q1
    clear h14 hb14 hb hTwo b0 b1
    go_wp2_with fail
    refine (sm_lin h15).mono ?_
    rintro e w16 ⟨v16, rfl, hown, hb⟩
    have h16 := h15.keep hb
    have hb16 := hb15.trans (hb.mono hb15.size)
    replace q0 := cell_later hb q0
    replace q1 := cell_later hb q1
    have hr := StrsV.of_own (l := [staffN, personN]) hown
    obtain ⟨A16, c16, hv16⟩ := own_shape hown
    subst hv16
    clear h15 hb15 hb hown
    go_wp2_with fail
    have hcc : (#[.string ⟨#[115, 116, 97, 102, 102]⟩, .string ⟨#[112, 101, 114, 115, 111, 110]⟩] : Array Value) = ([staffN, personN].map sv).toArray := rfl
    with_reducible refine genL (R := fun W => Calls Tryz.prog 34 _ W _) [staffN, personN] hcc ?_
    clear hcc
    intro W17 hb hl
    have h17 := h16.keep hb
    have hb17 := hb16.trans (hb.mono hb16.size)
    replace q0 := cell_later hb q0
    replace q1 := cell_later hb q1
    refine (r_lists_any _ _ _ _ W17 (SlV.mono (SlV.keep hr hb) hb.size) hl (by decide) (by decide)).mono ?_
    clear h16 hb16 hb hr hl
    rw [show decide ([staffN, personN] = [staffN, personN]) = true from by decide]
    rintro e w18 ⟨rfl, hb⟩
    have h18 := h17.keep hb
    have hb18 := hb17.trans (hb.mono hb17.size)
    replace q0 := cell_later hb q0
    replace q1 := cell_later hb q1
    clear h17 hb17 hb
    go_wp2_with fail
    refine (sm_must h18).mono ?_
    rintro e w19 ⟨v19, rfl, hown, hb⟩
    have h19 := h18.keep hb
    have hb19 := hb18.trans (hb.mono hb18.size)
    replace q0 := cell_later hb q0
    replace q1 := cell_later hb q1
    have hr := StrsV.of_own (l := [cnN]) hown
    obtain ⟨A19, c19, hv19⟩ := own_shape hown
    subst hv19
    clear h18 hb18 hb hown
    go_wp2_with fail
    have hcc : (#[.string ⟨#[99, 110]⟩] : Array Value) = ([cnN].map sv).toArray := rfl
    with_reducible refine genL (R := fun W => Calls Tryz.prog 34 _ W _) [cnN] hcc ?_
    clear hcc
    intro W20 hb hl
    have h20 := h19.keep hb
    have hb20 := hb19.trans (hb.mono hb19.size)
    replace q0 := cell_later hb q0
    replace q1 := cell_later hb q1
    refine (r_lists_any _ _ _ _ W20 (SlV.mono (SlV.keep hr hb) hb.size) hl (by decide) (by decide)).mono ?_
    clear h19 hb19 hb hr hl
    rw [show decide ([cnN] = [cnN]) = true from by decide]
    rintro e w21 ⟨rfl, hb⟩
    have h21 := h20.keep hb
    have hb21 := hb20.trans (hb.mono hb20.size)
    replace q0 := cell_later hb q0
    replace q1 := cell_later hb q1
    clear h20 hb20 hb
    go_wp2_with fail
    refine (sm_may h21).mono ?_
    rintro e w22 ⟨v22, rfl, hown, hb⟩
    have h22 := h21.keep hb
    have hb22 := hb21.trans (hb.mono hb21.size)
    have hr := StrsV.of_own (l := [activeN, ageN, cnN]) hown
    obtain ⟨A22, c22, hv22⟩ := own_shape hown
    subst hv22
    clear h21 hb21 hb hown q0 q1 h22
    go_wp2_with fail
    have hcc : (#[.string ⟨#[97, 99, 116, 105, 118, 101]⟩, .string ⟨#[97, 103, 101]⟩, .string ⟨#[99, 110]⟩] : Array Value) = ([activeN, ageN, cnN].map sv).toArray := rfl
    with_reducible refine genL (R := fun W => Calls Tryz.prog 34 _ W _) [activeN, ageN, cnN] hcc ?_
    clear hcc
    intro W23 hb hl
    have hb23 := hb22.trans (hb.mono hb22.size)
    refine (r_lists_any _ _ _ _ W23 (SlV.mono (SlV.keep hr hb) hb.size) hl (by decide) (by decide)).mono ?_
    clear hb22 hb hr hl
    rw [show decide ([activeN, ageN, cnN] = [activeN, ageN, cnN]) = true from by decide]
    rintro e w24 ⟨rfl, hb⟩
    go_wp2_with fail
    go_ret
    exact ⟨rfl, hb23.trans (hb.mono hb23.size)⟩
end Go.Proofs.YtnikolglippfmaaGreatDoor
/- law07: SchemaChecks, walked. -/
namespace Go.Proofs.YtnikolglippfmaaGreatDoor
open Go.RowKit Go.Sort
open Idn (L B Bs drop_L take_L size_L)
/-- lengths that a slice or a string can have -/
def SLen (s : Idn.Sch) : Prop := s.types.length ≤ 9223372036854775807 ∧ s.classes.length ≤ 9223372036854775807 ∧ ∀ c ∈ s.classes, c.must.length ≤ 9223372036854775807 ∧ c.may.length ≤ 9223372036854775807
theorem short_sm {l : List Bs} (h : short l = true) : Sm l := by
  unfold short at h
  simp only [Bool.and_eq_true, List.all_eq_true, decide_eq_true_eq] at h
  exact ⟨by omega, fun x hx => by have := h.1 x hx; omega⟩
theorem few_ssm {s : Idn.Sch} (h : few s = true) : SSm s := by
  unfold few at h
  simp only [Bool.and_eq_true, List.all_eq_true, decide_eq_true_eq] at h
  obtain ⟨h1, h2, h3, h4⟩ := h
  refine ⟨⟨by omega, fun t ht => by have := h1 t ht; omega⟩, ⟨by omega, fun c hc => ?_⟩⟩
  have h5 := h2 c hc
  unfold fewC at h5
  simp only [Bool.and_eq_true, decide_eq_true_eq] at h5
  exact ⟨by omega, by omega, short_sm h5.2.2.1, short_sm h5.2.2.2⟩
end Go.Proofs.YtnikolglippfmaaGreatDoor
/- ref07: Same, of two values that read as one schema. -/
namespace Go.Proofs.YtnikolglippfmaaGreatDoor
open Go.RowKit Go.Sort
open Idn (L B Bs drop_L take_L size_L)
theorem gen2dw {R : World → Prop} {w : World} {C1 C2 : Array Value} {t1 t2 : TypeId}
    (h : ∀ W, Below w.heap.size w W → W.heap.size = w.heap.size + 2 → (∀ (i : Nat) (v : Value), C1[i]? = some v → W.cell? ⟨w.heap.size, i, none⟩ = some v) → (∀ (i : Nat) (v : Value), C2[i]? = some v → W.cell? ⟨w.heap.size + 1, i, none⟩ = some v) → R W) : R ((w.alloc (.cells C1 t1)).alloc (.cells C2 t2)).drew :=
  gen2 (R := fun W => R W.drew) fun W h1 h2 h3 h4 => h W.drew h1.drew h2 h3 h4
set_option maxHeartbeats 2000000 in
set_option maxRecDepth 100000 in
theorem r_Same_one (v u : Value) (s : Idn.Sch) (w : World) (hv : SchV w w.heap.size v s) (hu : SchV w w.heap.size u s) (hs : SSm s) :
    Calls Tryz.prog 21 #[v, u] w fun e w' => e = .returned (.bool true) ∧ Below w.heap.size w w' := by
  obtain ⟨a, b, rfl, hT, hC⟩ := hv
  obtain ⟨A, ca, rfl, hca⟩ := SlV.shape hT
  obtain ⟨A', cb, rfl, hcb⟩ := SlV.shape hC
  obtain ⟨a, b, rfl, hT2, hC2⟩ := hu
  obtain ⟨A2, ca2, rfl, hca2⟩ := SlV.shape hT2
  obtain ⟨A2', cb2, rfl, hcb2⟩ := SlV.shape hC2
  have hl1 : s.types.length ≤ 1000000000 := hs.1.1
  have hl2 : s.classes.length ≤ 1000000000 := hs.2.1
  have HSM := Lib.hid hs
  clear hs
  go_enter Tryz.func21, Tryz.ntmps21
  go_wp2
  with_reducible refine gen2 (R := fun W => Code.wp Tryz.prog _ _ _ W) ?_
  intro W hbW hszW hc1 hc2
  have a0 : W.cell? ⟨w.heap.size, 0, none⟩ = some (.slice A s.types.length ca) := hc1 0 _ rfl
  have a1 : W.cell? ⟨w.heap.size, 1, none⟩ = some (.slice A' s.classes.length cb) := hc1 1 _ rfl
  have b0 : W.cell? ⟨w.heap.size + 1, 0, none⟩ = some (.slice A2 s.types.length ca2) := hc2 0 _ rfl
  have b1 : W.cell? ⟨w.heap.size + 1, 1, none⟩ = some (.slice A2' s.classes.length cb2) := hc2 1 _ rfl
  clear hc1 hc2
  have hT' := SlV.mono (SlV.keep hT hbW) hbW.size
  have hT2' := SlV.mono (SlV.keep hT2 hbW) hbW.size
  have hC' := ClassesV.mono (ClassesV.keep hC hbW) hbW.size
  have hC2' := ClassesV.mono (ClassesV.keep hC2 hbW) hbW.size
  clear hT hT2 hC hC2
  go_loopw [5] (fun i wr => ∃ k : Nat, k ≤ s.types.length ∧ i = .int .i64 k ∧ Below W.heap.size W wr) (fun i _ => s.types.length - (intOf i).toNat)
  case atStart => exact ⟨0, Nat.zero_le _, rfl, Below.refl _ _⟩
  case round =>
    obtain ⟨k, hk, rfl, hb⟩ := hrel
    replace a0 := cell_later hb a0
    replace a1 := cell_later hb a1
    replace b0 := cell_later hb b0
    replace b1 := cell_later hb b1
    by_cases hlt : k < s.types.length
    · obtain ⟨p, off, rfl, hp, c0, c1, c2⟩ := TypesV.cell (SlV.keep hT' hb) hlt
      obtain ⟨p', off', rfl, hp', d0, d1, d2⟩ := TypesV.cell (SlV.keep hT2' hb) hlt
      have hltI : (k : Int) < (s.types.length : Int) := by omega
      go_wp2
      go_quiet (fail)
      go_wp2
      go_roundw
      case rel => exact ⟨k + 1, by omega, by go_num, below_drewN hb _⟩
      case measure => simp [intOf]; omega
    · have hltI : ¬ (k : Int) < (s.types.length : Int) := by omega
      replace hC' := ClassesV.keep hC' hb
      replace hC2' := ClassesV.keep hC2' hb
      have hbs := hb.size
      clear hT' hT2' hlt
      go_wp2
      go_loopw [6] (fun i wr2 => ∃ j : Nat, j ≤ s.classes.length ∧ i = .int .i64 j ∧ Below wr.heap.size wr wr2) (fun i _ => s.classes.length - (intOf i).toNat)
      case atStart => exact ⟨0, Nat.zero_le _, rfl, Below.refl _ _⟩
      case round =>
        obtain ⟨j, hj, rfl, hb2⟩ := hrel
        rename World => wr'
        replace a0 := cell_later hb2 a0
        replace a1 := cell_later hb2 a1
        replace b0 := cell_later hb2 b0
        replace b1 := cell_later hb2 b1
        by_cases hlt : j < s.classes.length
        · obtain ⟨p, off, x1, x2, rfl, hp, c0, c1, c2, c3, hm, hy⟩ := ClassesV.cell (ClassesV.keep hC' (hb2.mono hbs)) hlt
          obtain ⟨p', off', y1, y2, rfl, hp', d0, d1, d2, d3, hm2, hy2⟩ := ClassesV.cell (ClassesV.keep hC2' (hb2.mono hbs)) hlt
          have hltI : (j : Int) < (s.classes.length : Int) := by omega
          have hb2s := hb2.size
          have hp1 := Nat.lt_of_lt_of_le hp (Nat.le_trans hbs hb2s)
          have hp2 := Nat.lt_of_lt_of_le hp' (Nat.le_trans hbs hb2s)
          have hp3 : w.heap.size < wr'.heap.size := by omega
          have hp4 : w.heap.size + 1 < wr'.heap.size := by omega
          obtain ⟨m1, e1, rfl, _⟩ := SlV.shape hm
          obtain ⟨m2, e2, rfl, _⟩ := SlV.shape hy
          obtain ⟨m3, e3, rfl, _⟩ := SlV.shape hm2
          obtain ⟨m4, e4, rfl, _⟩ := SlV.shape hy2
          clear hp hp'
          go_wp2
          go_region
          all_goals
            go_upto_region 12 with fail
            with_reducible refine gen2dw (R := fun W => Code.wp Tryz.prog _ _ _ W) ?_
            intro W2 hbW2 _ hd1 hd2
            have g0 : W2.cell? ⟨wr'.heap.size, 0, none⟩ = some (.string (B s.classes[j].name)) := hd1 0 _ rfl
            have g1 : W2.cell? ⟨wr'.heap.size, 1, none⟩ = some (.string (B s.classes[j].super)) := hd1 1 _ rfl
            have g4 : W2.cell? ⟨wr'.heap.size + 1, 0, none⟩ = some (.string (B s.classes[j].name)) := hd2 0 _ rfl
            have g5 : W2.cell? ⟨wr'.heap.size + 1, 1, none⟩ = some (.string (B s.classes[j].super)) := hd2 1 _ rfl
            first
              | (have g2 : W2.cell? ⟨wr'.heap.size, 2, none⟩ = some (.slice m1 s.classes[j].must.length e1) := hd1 2 _ rfl; have g3 : W2.cell? ⟨wr'.heap.size, 3, none⟩ = some (.slice m2 s.classes[j].may.length e2) := hd1 3 _ rfl; have g6 : W2.cell? ⟨wr'.heap.size + 1, 2, none⟩ = some (.slice m3 s.classes[j].must.length e3) := hd2 2 _ rfl; have g7 : W2.cell? ⟨wr'.heap.size + 1, 3, none⟩ = some (.slice m4 s.classes[j].may.length e4) := hd2 3 _ rfl)
              | (have g2 : W2.cell? ⟨wr'.heap.size, 2, none⟩ = some (.slice m3 s.classes[j].must.length e3) := hd1 2 _ rfl; have g3 : W2.cell? ⟨wr'.heap.size, 3, none⟩ = some (.slice m4 s.classes[j].may.length e4) := hd1 3 _ rfl; have g6 : W2.cell? ⟨wr'.heap.size + 1, 2, none⟩ = some (.slice m1 s.classes[j].must.length e1) := hd2 2 _ rfl; have g7 : W2.cell? ⟨wr'.heap.size + 1, 3, none⟩ = some (.slice m2 s.classes[j].may.length e2) := hd2 3 _ rfl)
            have hm' := SlV.mono (SlV.keep hm (hbW2.mono (Nat.le_trans hbs hb2s))) (Nat.le_trans (Nat.le_trans hbs hb2s) hbW2.size)
            have hm2' := SlV.mono (SlV.keep hm2 (hbW2.mono (Nat.le_trans hbs hb2s))) (Nat.le_trans (Nat.le_trans hbs hb2s) hbW2.size)
            have hy' := SlV.mono (SlV.keep hy (hbW2.mono (Nat.le_trans hbs hb2s))) (Nat.le_trans (Nat.le_trans hbs hb2s) hbW2.size)
            have hy2' := SlV.mono (SlV.keep hy2 (hbW2.mono (Nat.le_trans hbs hb2s))) (Nat.le_trans (Nat.le_trans hbs hb2s) hbW2.size)
            have hb3 := hb2.trans (hbW2.mono hb2s)
            clear hd1 hd2 hbW2 hm hm2 hy hy2
            obtain ⟨l1, l2⟩ := HSM.out.2.2 _ (List.getElem_mem hlt) |>.2.2
            have k1 := r_lists_any _ _ _ _ W2 hm' hm2' (by have := l1.1; omega) (by have := l1.1; omega)
            have k2 := r_lists_any _ _ _ _ W2 hm2' hm' (by have := l1.1; omega) (by have := l1.1; omega)
            rw [decide_eq_true rfl] at k1 k2
            have t1 : ((B s.classes[j].name).toList == (B s.classes[j].name).toList) = true := str_is rfl
            have t2 : ((B s.classes[j].super).toList == (B s.classes[j].super).toList) = true := str_is rfl
            have k3 := fun (W : World) (hW : Below W2.heap.size W2 W) => r_lists_any _ _ _ _ W (SlV.mono (SlV.keep hy' hW) hW.size) (SlV.mono (SlV.keep hy2' hW) hW.size) (by have := l2.1; omega) (by have := l2.1; omega)
            have k4 := fun (W : World) (hW : Below W2.heap.size W2 W) => r_lists_any _ _ _ _ W (SlV.mono (SlV.keep hy2' hW) hW.size) (SlV.mono (SlV.keep hy' hW) hW.size) (by have := l2.1; omega) (by have := l2.1; omega)
            clear hm' hm2' hy' hy2'
            go_wp2_with fail
            first | (with_reducible refine k1.mono ?_) | (with_reducible refine k2.mono ?_)
            rintro e w4 ⟨rfl, hb4⟩
            replace g3 := cell_later hb4 g3
            replace g7 := cell_later hb4 g7
            replace g2 := cell_later hb4 g2
            replace g6 := cell_later hb4 g6
            replace k3 := k3 w4 hb4
            replace k4 := k4 w4 hb4
            clear k1 k2
            go_wp2_with fail
            first | (with_reducible refine k3.mono ?_) | (with_reducible refine k4.mono ?_)
            rintro e w5 ⟨rfl, hb5⟩
            have hb6 := hb3.trans (hb4.mono hb3.size)
            have hb7 := hb6.trans (hb5.mono hb6.size)
            clear k3 k4 hb4 hb5 hb3 hb6
            go_wp2
            go_roundw
            case rel => exact ⟨j + 1, by omega, by go_num, hb7⟩
            case measure => simp [intOf]; omega
        · have hltI : ¬ (j : Int) < (s.classes.length : Int) := by omega
          go_wp2
          go_ret
          exact ⟨rfl, hbW.trans ((hb.trans (hb2.mono hb.size)).mono hbW.size)⟩
end Go.Proofs.YtnikolglippfmaaGreatDoor
/- law07: SchemaTexts, walked. -/
namespace Go.Proofs.YtnikolglippfmaaGreatDoor
open Go.RowKit Go.Sort
open Idn (L B Bs drop_L take_L size_L)
theorem parse_ssm {t : Bs} : SSm (sParse t).1 := by
  by_cases h : (sParse t).2.2 = 0
  · exact ssm_of (text_parse h).2
  · rw [parse_err h]; exact ⟨⟨by simp, by simp⟩, ⟨by simp, by simp⟩⟩
set_option maxHeartbeats 4000000 in
set_option maxRecDepth 100000 in
theorem schemaTexts_any (v : Value) (s : Idn.Sch) (t : ByteArray) (w : World) (hv : SchV w w.heap.size v s) (hl : SLen s) (ht : t.size ≤ 9223372036854775807) (hE : Env w) (hU : EnvU w) :
    Calls Tryz.prog 5 #[v, .string t] w fun e w' => e = .returned (.bool true) ∧ Below w.heap.size w w' := by
  have hF := fun W (hW : Below w.heap.size w W) => few_any v s W (SchV.mono (SchV.keep hv hW) hW.size) hl.1 hl.2.1 hl.2.2
  have hAl := fun W (hW : Below w.heap.size w W) => alive_any W (hE.keep hW) (hU.keep hW)
  have hv0 := hv
  obtain ⟨a, b, rfl, hT, hCl⟩ := hv
  obtain ⟨A', ca, rfl, hca⟩ := SlV.shape hT
  obtain ⟨A'', cb, rfl, hcb⟩ := SlV.shape hCl
  clear hT hCl
  have hsplit : few s = false ∨ (few s = true ∧ (600 : Int) < (t.size : Int) ∧ (t.size : Int) ≤ (4096 : Int)) ∨ (few s = true ∧ (600 : Int) < (t.size : Int) ∧ ¬ (t.size : Int) ≤ (4096 : Int) ∧ (5000 : Int) < (t.size : Int)) ∨
      (few s = true ∧ (600 : Int) < (t.size : Int) ∧ ¬ (t.size : Int) ≤ (4096 : Int) ∧ ¬ (5000 : Int) < (t.size : Int)) ∨ (few s = true ∧ ¬ (600 : Int) < (t.size : Int) ∧ ¬ (5000 : Int) < (t.size : Int)) := by
    cases few s
    · exact .inl rfl
    · by_cases h1 : (600 : Int) < (t.size : Int)
      · by_cases h2 : (t.size : Int) ≤ (4096 : Int)
        · exact .inr (.inl ⟨rfl, h1, h2⟩)
        · by_cases h3 : (5000 : Int) < (t.size : Int)
          · exact .inr (.inr (.inl ⟨rfl, h1, h2, h3⟩))
          · exact .inr (.inr (.inr (.inl ⟨rfl, h1, h2, h3⟩)))
      · exact .inr (.inr (.inr (.inr ⟨rfl, h1, by omega⟩)))
  rcases hsplit with hf | ⟨hf, h1, h2⟩ | ⟨hf, h1, h2, h3⟩ | ⟨hf, h1, h2, h3⟩ | ⟨hf, h1, h3⟩
  iterate 3
    · rw [hf] at hF
      clear hf
      go_enter Tryz.func5, Tryz.ntmps5
      go_wp2_with fail
      with_reducible refine gen1 (R := fun W => Calls Tryz.prog 8 _ W _) ?_
      intro W hbW hszW hc0 _
      refine (hF W hbW).mono ?_
      rintro e w1 ⟨rfl, hb1⟩
      have hb := hbW.trans (hb1.mono hbW.size)
      clear hF hc0
      go_wp2_with fail
      refine (hAl w1 hb).mono ?_
      rintro e w2 ⟨rfl, hb2⟩
      go_wp2_with fail
      go_ret
      exact ⟨rfl, hb.trans (hb2.mono hb.size)⟩
  all_goals
    rw [hf] at hF
    have hs := few_ssm hf
    have hV := fun W (hW : Below w.heap.size w W) => SchV.mono (SchV.keep hv0 hW) hW.size
    have k1 := fun W (hW : Below w.heap.size w W) => schText_gen _ s W (hV W hW) hs ssm6_of
    have k2 := fun W (hW : Below w.heap.size w W) => r_Text_any _ s W (hV W hW) hs
    have k3 := fun W (hW : Below w.heap.size w W) => parse_any t W (hE.keep hW)
    have k4 := fun W => r_Parse_any t W
    rw [rParse_eq] at k4
    have hss := parse_ssm (t := L t)
    generalize sParse (L t) = r at *
    clear hf hl
    obtain ⟨s2, n2, e2⟩ := r
    generalize Idn.sText s = tx at *
    obtain ⟨x, ex⟩ := tx
    dsimp only at k1 k2 hss
    unfold RetPS at k3 k4
    have u1 : ((B x).toList == (B x).toList) = true := str_is rfl
    have u2 : (ex == ex) = true := by simp
    have u3 : (n2 == n2) = true := by simp
    have u4 : (e2 == e2) = true := by simp
    go_enter Tryz.func5, Tryz.ntmps5
    go_wp2_with fail
    with_reducible refine gen1 (R := fun W => Calls Tryz.prog 8 _ W _) ?_
    intro W hbW hszW hc0 _
    have a0 : W.cell? ⟨w.heap.size, 0, none⟩ = some (.slice A' s.types.length ca) := hc0 0 _ rfl
    have a1 : W.cell? ⟨w.heap.size, 1, none⟩ = some (.slice A'' s.classes.length cb) := hc0 1 _ rfl
    refine (hF W hbW).mono ?_
    rintro e w1 ⟨rfl, hb1⟩
    replace a0 := cell_later hb1 a0
    replace a1 := cell_later hb1 a1
    have hb := hbW.trans (hb1.mono hbW.size)
    clear hF hc0 hb1 hbW hszW
    go_wp2_with fail
    with_reducible refine (k1 w1 hb).mono ?_
    rintro e w2 ⟨rfl, hb2⟩
    replace a0 := cell_later hb2 a0
    replace a1 := cell_later hb2 a1
    replace hb := hb.trans (hb2.mono hb.size)
    clear k1 hb2
    go_wp2_with fail
    with_reducible refine (k2 w2 hb).mono ?_
    rintro e w3 ⟨rfl, hb3⟩
    replace a0 := cell_later hb3 a0
    replace a1 := cell_later hb3 a1
    replace hb := hb.trans (hb3.mono hb.size)
    clear k2 hb3
    go_wp2_with fail
    with_reducible refine (k3 w3 hb).mono ?_
    rintro e w4 ⟨vT, vC, ps, rfl, hT4, hC4, hps, hb4⟩
    obtain ⟨B1, d1, hx1⟩ := own_shape hT4
    subst hx1
    obtain ⟨B2, d2, hx2⟩ := own_shape hC4.1
    subst hx2
    replace hb := hb.trans (hb4.mono hb.size)
    have hS4 : SchV w4 w4.heap.size (.agg #[.slice B1 s2.types.length d1, .slice B2 ps.length d2]) s2 := ⟨_, _, rfl, hT4.types, hC4.classes hps⟩
    clear k3 hb4 hT4 hC4 hps a0 a1
    go_upto_region 6 with fail
    with_reducible refine gen1 (R := fun W => Code.wp Tryz.prog _ _ _ W) ?_
    intro W5 hbW5 hszW5 hc5 _
    have b0 : W5.cell? ⟨w4.heap.size, 0, none⟩ = some (.slice B1 s2.types.length d1) := hc5 0 _ rfl
    have b1 : W5.cell? ⟨w4.heap.size, 1, none⟩ = some (.slice B2 ps.length d2) := hc5 1 _ rfl
    replace hb := hb.trans (hbW5.mono hb.size)
    have hS5 := SchV.mono (SchV.keep hS4 hbW5) hbW5.size
    clear hc5 hszW5 hbW5 hS4
    go_wp2_with fail
    with_reducible refine (k4 W5).mono ?_
    rintro e w6 ⟨vT, vC, qs, rfl, hT6, hC6, hqs, hb6⟩
    obtain ⟨B3, d3, hx3⟩ := own_shape hT6
    subst hx3
    obtain ⟨B4, d4, hx4⟩ := own_shape hC6.1
    subst hx4
    replace b0 := cell_later hb6 b0
    replace b1 := cell_later hb6 b1
    replace hb := hb.trans (hb6.mono hb.size)
    have hS6 := SchV.mono (SchV.keep hS5 hb6) hb6.size
    have hZ6 : SchV w6 w6.heap.size (.agg #[.slice B3 s2.types.length d3, .slice B4 qs.length d4]) s2 := ⟨_, _, rfl, hT6.types, hC6.classes hqs⟩
    clear k4 hb6 hT6 hC6 hqs hS5
    go_upto_region 7 with fail
    with_reducible refine gen1 (R := fun W => Code.wp Tryz.prog _ _ _ W) ?_
    intro W7 hbW7 hszW7 hc7 _
    have c0 : W7.cell? ⟨w6.heap.size, 0, none⟩ = some (.slice B3 s2.types.length d3) := hc7 0 _ rfl
    have c1 : W7.cell? ⟨w6.heap.size, 1, none⟩ = some (.slice B4 qs.length d4) := hc7 1 _ rfl
    replace b0 := cell_later hbW7 b0
    replace b1 := cell_later hbW7 b1
    replace hb := hb.trans (hbW7.mono hb.size)
    have hS7 := SchV.mono (SchV.keep hS6 hbW7) hbW7.size
    have hZ7 := SchV.mono (SchV.keep hZ6 hbW7) hbW7.size
    clear hc7 hszW7 hbW7 hS6 hZ6
    go_wp2_with fail
    with_reducible refine (r_Same_one _ _ s2 W7 hS7 hZ7 hss).mono ?_
    rintro e w8 ⟨rfl, hb8⟩
    replace hb := hb.trans (hb8.mono hb.size)
    clear hS7 hZ7 hb8 b0 b1 c0 c1
    go_wp2_with fail
    refine (hAl w8 hb).mono ?_
    rintro e w9 ⟨rfl, hb9⟩
    go_wp2_with fail
    go_ret
    exact ⟨rfl, hb.trans (hb9.mono hb.size)⟩
end Go.Proofs.YtnikolglippfmaaGreatDoor
