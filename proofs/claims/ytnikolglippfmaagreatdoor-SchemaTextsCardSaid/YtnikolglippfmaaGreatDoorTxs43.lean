/- Part 43 of the proof that what Parse reads of a class's description is what the text says, and what it writes Parse reads back: the package variables hold what the program lays; nothing else is asked. -/
import Derived.Test.YtnikolglippfmaaGreatDoorTxs11
import Derived.Test.YtnikolglippfmaaGreatDoorTxs33
import Derived.Test.YtnikolglippfmaaGreatDoorTxs36
import Derived.Test.YtnikolglippfmaaGreatDoorTxs40
import Derived.Test.YtnikolglippfmaaGreatDoorTxs41
import Derived.Test.YtnikolglippfmaaGreatDoorTxs42
/- identityref07: classLine. -/
namespace Go.Proofs.YtnikolglippfmaaGreatDoor
open Go.RowKit Go.Sort
open Idn (L B Bs drop_L take_L size_L)
set_option maxHeartbeats 2000000 in
set_option maxRecDepth 100000 in
theorem r_classLine_any (v : Value) (ws : List Bs) (w : World) (hv : StrsV w w.heap.size v ws) (hws : ∀ x ∈ ws, x.length ≤ 100000000) (hwl : ws.length ≤ 1000000000) :
    Calls Tryz.prog 68 #[v] w (RetCl w (cl5 ws)) := by
  generalize hr : cl5 ws = r
  have HR := Lib.hid hr
  clear hr
  obtain ⟨A, c, rfl, hc⟩ := SlV.shape hv
  by_cases h5 : ws.length = 5
  case neg =>
    have HF : Hid (r = (⟨[], [], [], []⟩, false)) := by show _ = _; rw [← HR.out, cl5, if_neg (fun h => by have := h.2; simp [badCl, h5] at this)]
    have h5I : ((ws.length : Int) == 5) = false := by rw [beq_eq_false_iff_ne]; omega
    have h5J : ((ws.length : Int) != 5) = true := by rw [bne_iff_ne]; omega
    clear h5 hws hv HR
    generalize ws.length = n at *
    go_enter Tryz.func68, Tryz.ntmps68
    go_wp2
    exact bodyPost_ret (v := .tuple #[.agg #[.string ⟨#[]⟩, .string ⟨#[]⟩, .slice none 0 0, .slice none 0 0], .bool false]) (by simp [results, Tryz.results68, go_sem]) rfl ⟨.slice none 0 0, .slice none 0 0, by rw [HF.out]; rfl, by rw [HF.out]; exact World.ownsRow_nil _ _ _ _, by rw [HF.out]; exact World.ownsRow_nil _ _ _ _, (Below.refl _ _).alloc (Nat.le_refl _) _⟩
  have x0h : ws[0]? = some (ws.headD []) := by
    cases ws with
    | nil => simp at h5
    | cons x y => rfl
  obtain ⟨b, off, rfl, hbl, c0⟩ := strs_at hv x0h
  rw [Nat.add_zero] at c0
  by_cases hh : ws.headD [] = wClass
  case neg =>
    have HF : Hid (r = (⟨[], [], [], []⟩, false)) := by show _ = _; rw [← HR.out]; exact cl5_no hh
    have h5J : ((ws.length : Int) != 5) = false := by rw [h5]; rfl
    have h0I : (0 : Int) < (ws.length : Int) := by omega
    have t0 : ((B (ws.headD [])).toList == [99, 108, 97, 115, 115]) = false := by rw [toList_L, Idn.L_B, beq_eq_false_iff_ne]; exact hh
    generalize ws.headD [] = x0 at *
    clear h5 hws hv HR hh x0h
    generalize ws.length = n at *
    go_enter Tryz.func68, Tryz.ntmps68
    go_wp2
    exact bodyPost_ret (v := .tuple #[.agg #[.string ⟨#[]⟩, .string ⟨#[]⟩, .slice none 0 0, .slice none 0 0], .bool false]) (by simp [results, Tryz.results68, go_sem]) rfl ⟨.slice none 0 0, .slice none 0 0, by rw [HF.out]; rfl, by rw [HF.out]; exact World.ownsRow_nil _ _ _ _, by rw [HF.out]; exact World.ownsRow_nil _ _ _ _, (Below.refl _ _).alloc (Nat.le_refl _) _⟩
  have x1h : ws[1]? = some (ws.getD 1 []) := by simp [List.getD, show 1 < ws.length by omega]
  have x2h : ws[2]? = some (ws.getD 2 []) := by simp [List.getD, show 2 < ws.length by omega]
  have x3h : ws[3]? = some (ws.getD 3 []) := by simp [List.getD, show 3 < ws.length by omega]
  have x4h : ws[4]? = some (ws.getD 4 []) := by simp [List.getD, show 4 < ws.length by omega]
  have hm1 := hws _ (List.mem_of_getElem? x1h)
  have hm2 := hws _ (List.mem_of_getElem? x2h)
  have hm3 := hws _ (List.mem_of_getElem? x3h)
  have hm4 := hws _ (List.mem_of_getElem? x4h)
  have HQ : Hid (r = if (!Idn.name (ws.getD 1 []) || (!decide (ws.getD 2 [] = [45]) && !Idn.name (ws.getD 2 []))) then (⟨[], [], [], []⟩, false)
      else (⟨ws.getD 1 [], if ws.getD 2 [] = [45] then [] else ws.getD 2 [], (rNames (ws.getD 3 [])).1, (rNames (ws.getD 4 [])).1⟩, (rNames (ws.getD 3 [])).2 && (rNames (ws.getD 4 [])).2)) := by
    show _ = _
    have hbd : badCl ws = (!Idn.name (ws.getD 1 []) || (!decide (ws.getD 2 [] = [45]) && !Idn.name (ws.getD 2 []))) := by unfold badCl; rw [h5]; rfl
    rw [← HR.out, cl5, hbd]
    by_cases hq : (!Idn.name (ws.getD 1 []) || (!decide (ws.getD 2 [] = [45]) && !Idn.name (ws.getD 2 []))) = true
    · rw [if_neg (c := ws.headD [] = wClass ∧ _) (fun h => by rw [hq] at h; exact absurd h.2 (by decide)), if_pos hq]
    · rw [if_pos (c := ws.headD [] = wClass ∧ _) ⟨hh, by simpa using hq⟩, if_neg hq]
  generalize ws.getD 1 [] = x1 at *
  generalize ws.getD 2 [] = x2 at *
  generalize ws.getD 3 [] = x3 at *
  generalize ws.getD 4 [] = x4 at *
  have c1 := strs_one hv x1h
  have t0 : ((B (ws.headD [])).toList == [99, 108, 97, 115, 115]) = true := by rw [toList_L, Idn.L_B, hh]; rfl
  generalize ws.headD [] = x0 at *
  have c2 := strs_one hv x2h
  have c3 := strs_one hv x3h
  have c4 := strs_one hv x4h
  have hN1 := fun W => r_name_any (B x1) W (by rw [Idn.size_B]; omega)
  have hN2 := fun W => r_name_any (B x2) W (by rw [Idn.size_B]; omega)
  have hR3 := fun W (hW : Below w.heap.size w W) => r_names_any (B x3) W (by rw [Idn.size_B]; omega)
  have hR4 := fun W (hW : Below w.heap.size w W) => r_names_any (B x4) W (by rw [Idn.size_B]; omega)
  simp only [Idn.L_B] at hN1 hN2 hR3 hR4
  have t2 : ((B x2).toList == [45]) = decide (x2 = [45]) := by rw [toList_L, Idn.L_B, list_beq]
  have t2n : ((B x2).toList != [45]) = !decide (x2 = [45]) := by rw [bne, t2]
  clear hws hv HR x1h x2h x3h x4h x0h hh
  generalize ws.length = n at *
  subst h5
  generalize rNames x3 = q3 at *
  generalize rNames x4 = q4 at *
  obtain ⟨ll3, k3⟩ := q3
  obtain ⟨ll4, k4⟩ := q4
  cases n1 : Idn.name x1
  · have HF : Hid (r = (⟨[], [], [], []⟩, false)) := by show _ = _; rw [HQ.out, n1]; rfl
    rw [n1] at hN1
    clear HQ n1 hR3 hR4 hN2
    go_enter Tryz.func68, Tryz.ntmps68
    go_wp2_with (go_at_call 100; refine (hN1 _).mono ?_; rintro e w' ⟨rfl, rfl⟩)
    exact bodyPost_ret (v := .tuple #[.agg #[.string ⟨#[]⟩, .string ⟨#[]⟩, .slice none 0 0, .slice none 0 0], .bool false]) (by simp [results, Tryz.results68, go_sem]) rfl ⟨.slice none 0 0, .slice none 0 0, by rw [HF.out]; rfl, by rw [HF.out]; exact World.ownsRow_nil _ _ _ _, by rw [HF.out]; exact World.ownsRow_nil _ _ _ _, (Below.refl _ _).alloc (Nat.le_refl _) _⟩
  rw [n1] at hN1
  by_cases h2 : x2 = [45]
  · have HF : Hid (r = (⟨x1, [], ll3, ll4⟩, k3 && k4)) := by show _ = _; rw [HQ.out, n1, if_neg (by simp [h2]), if_pos h2]
    rw [decide_eq_true h2] at t2 t2n
    clear HQ n1 hN2 h2
    go_enter Tryz.func68, Tryz.ntmps68
    go_wp2_with fail
    with_reducible refine gen1 (R := fun W => Calls Tryz.prog 100 _ W _) ?_
    intro W hbW hszW hc1 hf1
    have r0 := hc1 0 _ rfl
    have r1 := hc1 1 _ rfl
    have r2 := hc1 2 _ rfl
    have r3 := hc1 3 _ rfl
    have f0 := hf1 0
    have f1 := hf1 1
    have f2 := hf1 2
    have f3 := hf1 3
    clear hc1 hf1
    replace c0 := cell_later hbW c0
    replace c1 := cell_later hbW c1
    replace c2 := cell_later hbW c2
    replace c3 := cell_later hbW c3
    replace c4 := cell_later hbW c4
    have hlt : w.heap.size < W.heap.size := by omega
    clear hszW
    refine (hN1 W).mono ?_
    rintro e w' ⟨rfl, rfl⟩
    clear hN1
    go_wp2_with fail
    refine (hR3 W hbW).mono ?_
    rintro e w1 ⟨v3, rfl, o3, hb1⟩
    obtain ⟨A3, d3, hv3⟩ := own_shape o3
    subst hv3
    dsimp only at *
    have hbw1 := hbW.trans (hb1.mono hbW.size)
    replace r0 := cell_later hb1 r0
    replace r1 := cell_later hb1 r1
    replace r2 := cell_later hb1 r2
    replace r3 := cell_later hb1 r3
    replace f0 := frozen_later hb1 f0 hlt
    replace f1 := frozen_later hb1 f1 hlt
    replace f2 := frozen_later hb1 f2 hlt
    replace f3 := frozen_later hb1 f3 hlt
    replace c1 := cell_later hb1 c1
    replace c2 := cell_later hb1 c2
    replace c4 := cell_later hb1 c4
    have hlt1 : w.heap.size < w1.heap.size := Nat.lt_of_lt_of_le hlt hb1.size
    clear hR3 c3
    go_wp2_with fail
    refine (hR4 w1 hbw1).mono ?_
    rintro e w2 ⟨v4, rfl, o4, hb2⟩
    obtain ⟨A4, d4, hv4⟩ := own_shape o4
    subst hv4
    dsimp only at *
    have hbw2 := hbw1.trans (hb2.mono hbw1.size)
    have l3 := fun g => own_lt o3 (g := g)
    replace o3 := own_below o3 hb2
    have l4 := fun g => own_lt o4 (g := g)
    replace r0 := cell_later hb2 r0
    replace r1 := cell_later hb2 r1
    replace r2 := cell_later hb2 r2
    replace r3 := cell_later hb2 r3
    replace f0 := frozen_later hb2 f0 hlt1
    replace f1 := frozen_later hb2 f1 hlt1
    replace f2 := frozen_later hb2 f2 hlt1
    replace f3 := frozen_later hb2 f3 hlt1
    replace c1 := cell_later hb2 c1
    replace c2 := cell_later hb2 c2
    have hlt2 : w.heap.size < w2.heap.size := Nat.lt_of_lt_of_le hlt1 hb2.size
    have s12 := hb2.size
    clear hR4 c4
    go_upto_region 6 with fail
    with_reducible refine gen1 (R := fun W => Code.wp Tryz.prog _ _ _ W) ?_
    intro W3 hbW3 hszW3 hc3 hf3
    have p0 := hc3 0 _ rfl
    have p1 := hc3 1 _ rfl
    have p2 := hc3 2 _ rfl
    have p3 := hc3 3 _ rfl
    have g1 := hf3 1
    clear hc3 hf3
    have hbw3 := hbw2.trans (hbW3.mono hbw2.size)
    have m3 := fun g => (o3.lt g · |>.1)
    have m4 := fun g => (o4.lt g · |>.1)
    replace o3 := own_below o3 hbW3
    replace o4 := own_below o4 hbW3
    have sa3 : (Value.slice A3 ll3.length d3).ownBlock ≠ some w.heap.size := fun hg => by have h1 := l3 _ hg; have h2 := m3 _ hg; omega
    have sb3 : (Value.slice A3 ll3.length d3).ownBlock ≠ some w2.heap.size := fun hg => by have h1 := l3 _ hg; have h2 := m3 _ hg; omega
    have sa4 : (Value.slice A4 ll4.length d4).ownBlock ≠ some w.heap.size := fun hg => by have h1 := l4 _ hg; have h2 := m4 _ hg; omega
    have sb4 : (Value.slice A4 ll4.length d4).ownBlock ≠ some w2.heap.size := fun hg => by have h1 := l4 _ hg; have h2 := m4 _ hg; omega
    replace r0 := cell_later hbW3 r0
    replace r1 := cell_later hbW3 r1
    replace r2 := cell_later hbW3 r2
    replace r3 := cell_later hbW3 r3
    replace f0 := frozen_later hbW3 f0 hlt2
    replace f1 := frozen_later hbW3 f1 hlt2
    replace f2 := frozen_later hbW3 f2 hlt2
    replace f3 := frozen_later hbW3 f3 hlt2
    replace c1 := cell_later hbW3 c1
    replace c2 := cell_later hbW3 c2
    have hne : w2.heap.size ≠ w.heap.size := by omega
    have hne' : w.heap.size ≠ w2.heap.size := by omega
    clear l3 l4 m3 m4
    cases k3
    · go_wp2
      refine bodyPost_ret (v := .tuple #[.agg #[.string (B x1), .string ⟨#[]⟩, .slice A3 ll3.length d3, .slice A4 ll4.length d4], .bool false]) (by simp [results, Tryz.results68, go_sem, r0, r1, r2, r3, f0, f1, f2, f3, p0, p1, p2, p3]) rfl ⟨_, _, by rw [HF.out]; first | rfl | simp, ?_, ?_, ?_⟩
      · rw [HF.out]
        exact own_base (by repeat (first | with_reducible exact o3 | with_reducible refine own_setp ?_ _ sa3 | with_reducible refine own_setp ?_ _ sb3)) hbW.size
      · rw [HF.out]
        exact own_base (by repeat (first | with_reducible exact o4 | with_reducible refine own_setp ?_ _ sa4 | with_reducible refine own_setp ?_ _ sb4)) hbw1.size
      · repeat (first | with_reducible exact hbw3 | refine Below.setCell ?_ (by simp; try omega) _)
    · go_wp2
      refine bodyPost_ret (v := .tuple #[.agg #[.string (B x1), .string ⟨#[]⟩, .slice A3 ll3.length d3, .slice A4 ll4.length d4], .bool k4]) (by simp [results, Tryz.results68, go_sem, r0, r1, r2, r3, f0, f1, f2, f3, p0, p1, p2, p3]) rfl ⟨_, _, by rw [HF.out]; first | rfl | simp, ?_, ?_, ?_⟩
      · rw [HF.out]
        exact own_base (by repeat (first | with_reducible exact o3 | with_reducible refine own_setp ?_ _ sa3 | with_reducible refine own_setp ?_ _ sb3)) hbW.size
      · rw [HF.out]
        exact own_base (by repeat (first | with_reducible exact o4 | with_reducible refine own_setp ?_ _ sa4 | with_reducible refine own_setp ?_ _ sb4)) hbw1.size
      · repeat (first | with_reducible exact hbw3 | refine Below.setCell ?_ (by simp; try omega) _)
  · rw [decide_eq_false h2] at t2 t2n
    cases n2 : Idn.name x2
    · have HF : Hid (r = (⟨[], [], [], []⟩, false)) := by show _ = _; rw [HQ.out, n1, n2, decide_eq_false h2]; rfl
      rw [n2] at hN2
      clear HQ n1 n2 hR3 hR4 h2
      go_enter Tryz.func68, Tryz.ntmps68
      go_wp2_with (first | (go_at_call 100; with_reducible refine (hN1 _).mono ?_; rintro e w' ⟨rfl, rfl⟩) | (go_at_call 100; with_reducible refine (hN2 _).mono ?_; rintro e w' ⟨rfl, rfl⟩))
      exact bodyPost_ret (v := .tuple #[.agg #[.string ⟨#[]⟩, .string ⟨#[]⟩, .slice none 0 0, .slice none 0 0], .bool false]) (by simp [results, Tryz.results68, go_sem]) rfl ⟨.slice none 0 0, .slice none 0 0, by rw [HF.out]; rfl, by rw [HF.out]; exact World.ownsRow_nil _ _ _ _, by rw [HF.out]; exact World.ownsRow_nil _ _ _ _, (Below.refl _ _).alloc (Nat.le_refl _) _⟩
    have HF : Hid (r = (⟨x1, x2, ll3, ll4⟩, k3 && k4)) := by show _ = _; rw [HQ.out, n1, n2, if_neg (by simp), if_neg h2]
    rw [n2] at hN2
    clear HQ n1 n2 h2
    go_enter Tryz.func68, Tryz.ntmps68
    go_wp2_with fail
    with_reducible refine gen1 (R := fun W => Calls Tryz.prog 100 _ W _) ?_
    intro W hbW hszW hc1 hf1
    have r0 := hc1 0 _ rfl
    have r1 := hc1 1 _ rfl
    have r2 := hc1 2 _ rfl
    have r3 := hc1 3 _ rfl
    have f0 := hf1 0
    have f1 := hf1 1
    have f2 := hf1 2
    have f3 := hf1 3
    clear hc1 hf1
    replace c0 := cell_later hbW c0
    replace c1 := cell_later hbW c1
    replace c2 := cell_later hbW c2
    replace c3 := cell_later hbW c3
    replace c4 := cell_later hbW c4
    have hlt : w.heap.size < W.heap.size := by omega
    clear hszW
    refine (hN1 W).mono ?_
    rintro e w' ⟨rfl, rfl⟩
    clear hN1
    go_wp2_with fail
    refine (hN2 W).mono ?_
    rintro e w' ⟨rfl, rfl⟩
    clear hN2
    go_wp2_with fail
    refine (hR3 W hbW).mono ?_
    rintro e w1 ⟨v3, rfl, o3, hb1⟩
    obtain ⟨A3, d3, hv3⟩ := own_shape o3
    subst hv3
    dsimp only at *
    have hbw1 := hbW.trans (hb1.mono hbW.size)
    replace r0 := cell_later hb1 r0
    replace r1 := cell_later hb1 r1
    replace r2 := cell_later hb1 r2
    replace r3 := cell_later hb1 r3
    replace f0 := frozen_later hb1 f0 hlt
    replace f1 := frozen_later hb1 f1 hlt
    replace f2 := frozen_later hb1 f2 hlt
    replace f3 := frozen_later hb1 f3 hlt
    replace c1 := cell_later hb1 c1
    replace c2 := cell_later hb1 c2
    replace c4 := cell_later hb1 c4
    have hlt1 : w.heap.size < w1.heap.size := Nat.lt_of_lt_of_le hlt hb1.size
    clear hR3 c3
    go_wp2_with fail
    refine (hR4 w1 hbw1).mono ?_
    rintro e w2 ⟨v4, rfl, o4, hb2⟩
    obtain ⟨A4, d4, hv4⟩ := own_shape o4
    subst hv4
    dsimp only at *
    have hbw2 := hbw1.trans (hb2.mono hbw1.size)
    have l3 := fun g => own_lt o3 (g := g)
    replace o3 := own_below o3 hb2
    have l4 := fun g => own_lt o4 (g := g)
    replace r0 := cell_later hb2 r0
    replace r1 := cell_later hb2 r1
    replace r2 := cell_later hb2 r2
    replace r3 := cell_later hb2 r3
    replace f0 := frozen_later hb2 f0 hlt1
    replace f1 := frozen_later hb2 f1 hlt1
    replace f2 := frozen_later hb2 f2 hlt1
    replace f3 := frozen_later hb2 f3 hlt1
    replace c1 := cell_later hb2 c1
    replace c2 := cell_later hb2 c2
    have hlt2 : w.heap.size < w2.heap.size := Nat.lt_of_lt_of_le hlt1 hb2.size
    have s12 := hb2.size
    clear hR4 c4
    go_upto_region 6 with fail
    with_reducible refine gen1 (R := fun W => Code.wp Tryz.prog _ _ _ W) ?_
    intro W3 hbW3 hszW3 hc3 hf3
    have p0 := hc3 0 _ rfl
    have p1 := hc3 1 _ rfl
    have p2 := hc3 2 _ rfl
    have p3 := hc3 3 _ rfl
    have g1 := hf3 1
    clear hc3 hf3
    have hbw3 := hbw2.trans (hbW3.mono hbw2.size)
    have m3 := fun g => (o3.lt g · |>.1)
    have m4 := fun g => (o4.lt g · |>.1)
    replace o3 := own_below o3 hbW3
    replace o4 := own_below o4 hbW3
    have sa3 : (Value.slice A3 ll3.length d3).ownBlock ≠ some w.heap.size := fun hg => by have h1 := l3 _ hg; have h2 := m3 _ hg; omega
    have sb3 : (Value.slice A3 ll3.length d3).ownBlock ≠ some w2.heap.size := fun hg => by have h1 := l3 _ hg; have h2 := m3 _ hg; omega
    have sa4 : (Value.slice A4 ll4.length d4).ownBlock ≠ some w.heap.size := fun hg => by have h1 := l4 _ hg; have h2 := m4 _ hg; omega
    have sb4 : (Value.slice A4 ll4.length d4).ownBlock ≠ some w2.heap.size := fun hg => by have h1 := l4 _ hg; have h2 := m4 _ hg; omega
    replace r0 := cell_later hbW3 r0
    replace r1 := cell_later hbW3 r1
    replace r2 := cell_later hbW3 r2
    replace r3 := cell_later hbW3 r3
    replace f0 := frozen_later hbW3 f0 hlt2
    replace f1 := frozen_later hbW3 f1 hlt2
    replace f2 := frozen_later hbW3 f2 hlt2
    replace f3 := frozen_later hbW3 f3 hlt2
    replace c1 := cell_later hbW3 c1
    replace c2 := cell_later hbW3 c2
    have hne : w2.heap.size ≠ w.heap.size := by omega
    have hne' : w.heap.size ≠ w2.heap.size := by omega
    clear l3 l4 m3 m4
    cases k3
    · go_wp2
      refine bodyPost_ret (v := .tuple #[.agg #[.string (B x1), .string (B x2), .slice A3 ll3.length d3, .slice A4 ll4.length d4], .bool false]) (by simp [results, Tryz.results68, go_sem, r0, r1, r2, r3, f0, f1, f2, f3, p0, p1, p2, p3]) rfl ⟨_, _, by rw [HF.out]; first | rfl | simp, ?_, ?_, ?_⟩
      · rw [HF.out]
        exact own_base (by repeat (first | with_reducible exact o3 | with_reducible refine own_setp ?_ _ sa3 | with_reducible refine own_setp ?_ _ sb3)) hbW.size
      · rw [HF.out]
        exact own_base (by repeat (first | with_reducible exact o4 | with_reducible refine own_setp ?_ _ sa4 | with_reducible refine own_setp ?_ _ sb4)) hbw1.size
      · repeat (first | with_reducible exact hbw3 | refine Below.setCell ?_ (by simp; try omega) _)
    · go_wp2
      refine bodyPost_ret (v := .tuple #[.agg #[.string (B x1), .string (B x2), .slice A3 ll3.length d3, .slice A4 ll4.length d4], .bool k4]) (by simp [results, Tryz.results68, go_sem, r0, r1, r2, r3, f0, f1, f2, f3, p0, p1, p2, p3]) rfl ⟨_, _, by rw [HF.out]; first | rfl | simp, ?_, ?_, ?_⟩
      · rw [HF.out]
        exact own_base (by repeat (first | with_reducible exact o3 | with_reducible refine own_setp ?_ _ sa3 | with_reducible refine own_setp ?_ _ sb3)) hbW.size
      · rw [HF.out]
        exact own_base (by repeat (first | with_reducible exact o4 | with_reducible refine own_setp ?_ _ sa4 | with_reducible refine own_setp ?_ _ sb4)) hbw1.size
      · repeat (first | with_reducible exact hbw3 | refine Below.setCell ?_ (by simp; try omega) _)
end Go.Proofs.YtnikolglippfmaaGreatDoor
/- identityref07: Parse. -/
namespace Go.Proofs.YtnikolglippfmaaGreatDoor
open Go.RowKit Go.Sort
open Idn (L B Bs drop_L take_L size_L)
theorem PairAt.put0 {X : World} {p : Nat} {a b : Value} (h : PairAt X p a b) (c : Value) : PairAt (X.setCell ⟨p, 0, none⟩ c) p c b := by
  obtain ⟨⟨h0, h1⟩, ⟨g0, g1⟩, hl⟩ := h
  exact ⟨⟨by simp [go_sem, h0, h1], by simp [go_sem, h0, h1]⟩, ⟨by simp [g0], by simp [g1]⟩, by simpa using hl⟩
theorem PairAt.other {X : World} {p : Nat} {a b : Value} (h : PairAt X p a b) {q : Nat} (hq : q ≠ p) (i : Nat) (c : Value) : PairAt (X.setCell ⟨q, i, none⟩ c) p a b := by
  obtain ⟨⟨h0, h1⟩, ⟨g0, g1⟩, hl⟩ := h
  exact ⟨⟨by rw [World.cell?_setCell_far _ _ _ _ hq]; exact h0, by rw [World.cell?_setCell_far _ _ _ _ hq]; exact h1⟩, ⟨by simp [g0], by simp [g1]⟩, by simpa using hl⟩
theorem PairAt.grownP {w w' : World} {p : Nat} {a b : Value} {row : Option Nat} (h : PairAt w p a b) (hg : w.grownBy w' row) (hne : some p ≠ row) (hs : w.heap.size ≤ w'.heap.size) : PairAt w' p a b := by
  obtain ⟨⟨h0, h1⟩, ⟨g0, g1⟩, hl⟩ := h
  exact ⟨⟨grown_cell hg h0 hne, grown_cell hg h1 hne⟩, ⟨grown_frozen hg hl g0 hne, grown_frozen hg hl g1 hne⟩, Nat.lt_of_lt_of_le hl hs⟩
theorem rd_ty {s : Idn.Sch} {x : Bs} (h : (tl5 (Idn.cutC 32 x)).2 = true) (hc : s.classes.isEmpty = true) : rdLine s x = (⟨s.types ++ [(tl5 (Idn.cutC 32 x)).1], s.classes⟩, true) := by
  have hh : (Idn.cutC 32 x).headD [] = wType := by
    refine Decidable.byContradiction fun hn => ?_
    rw [tl5_no hn] at h
    cases h
  rw [tl5_yes hh] at h ⊢
  unfold rdLine
  rw [if_pos (c := (Idn.cutC 32 x).headD [] = [116, 121, 112, 101]) hh, h, hc]
  rfl
theorem rd_cl {s : Idn.Sch} {x : Bs} (h : (cl5 (Idn.cutC 32 x)).2 = true) : rdLine s x = (⟨s.types, s.classes ++ [(cl5 (Idn.cutC 32 x)).1]⟩, true) := by
  have hh : (Idn.cutC 32 x).headD [] = wClass := by
    refine Decidable.byContradiction fun hn => ?_
    rw [cl5_no hn] at h
    cases h
  obtain ⟨e1, e2⟩ := cl5_eq hh
  rw [e1] at h
  unfold rdLine
  rw [if_neg (c := (Idn.cutC 32 x).headD [] = [116, 121, 112, 101]) (by rw [hh]; decide), if_pos (c := (Idn.cutC 32 x).headD [] = [99, 108, 97, 115, 115]) hh, h, e2 h]
theorem info_at9 : (Tryz.prog.info? 58).map (fun i => (i.zero, i.size, i.bytes)) = some (some (.agg #[.string ⟨#[]⟩, .int .i64 0, .bool false]), 3, 32) := by kernel_rfl
theorem info_cls9 : (Tryz.prog.info? 50).map (fun i => (i.zero, i.size, i.bytes)) = some (some (.agg #[.string ⟨#[]⟩, .string ⟨#[]⟩, .slice none 0 0, .slice none 0 0]), 4, 80) := by kernel_rfl
set_option maxHeartbeats 8000000 in
set_option maxRecDepth 100000 in
theorem r_Parse_any (t : ByteArray) (w : World) :
    Calls Tryz.prog 20 #[.string t] w (RetPS w (rParse (L t))) := by
  generalize hr : rParse (L t) = R
  have HR := Lib.hid hr.symm
  have hxs := size_L t
  clear hr
  by_cases hbig : (4096 : Int) < (t.size : Int)
  · have HF : Hid (R = (⟨[], []⟩, 0, 3)) := by show _ = _; rw [HR.out, rParse, if_pos (by omega)]
    clear HR
    go_enter Tryz.func20, Tryz.ntmps20
    go_wp2
    refine bodyPost_ret (v := .tuple #[.agg #[.slice none 0 0, .slice none 0 0], .int .i64 0, .int .i64 3]) (by simp [results, Tryz.results20, go_sem]) rfl ⟨.slice none 0 0, .slice none 0 0, [], by rw [HF.out], by rw [HF.out]; exact TyOwn.nil _ _, ClOwn.nil _ _, by rw [HF.out]; rfl, ?_⟩
    repeat (first | with_reducible exact Below.refl _ _ | refine Below.setCell ?_ (by simp) _ | refine Below.alloc ?_ (by simp) _)
  · have HF : Hid (R = rLines ⟨[], []⟩ 1 (Idn.cutC 10 (L t))) := by show _ = _; rw [HR.out, rParse, if_neg (by omega)]
    have ht4 : t.size ≤ 4096 := by omega
    obtain ⟨cl1, cl2⟩ := Idn.cutC_len 10 (L t)
    rw [← hxs] at cl1 cl2
    have hne := Idn.cutC_ne 10 (L t)
    have hC := fun W => r_Cut_any t 10 W (by omega)
    generalize Idn.cutC 10 (L t) = ls at *
    have hl0 : 0 < ls.length := List.length_pos_iff.2 hne
    clear HR hxs hne
    go_enter Tryz.func20, Tryz.ntmps20
    go_upto_region 1 with fail
    with_reducible refine gen1 (R := fun W => Code.wp Tryz.prog _ _ _ W) ?_
    intro W0 hbW0 hszW0 hc0 hf0
    have hR0 : PairAt W0 w.heap.size (.slice none 0 0) (.slice none 0 0) := ⟨⟨hc0 0 _ rfl, hc0 1 _ rfl⟩, ⟨hf0 0, hf0 1⟩, by omega⟩
    clear hc0 hf0
    go_upto_region 4 with fail
    with_reducible refine gen1 (R := fun W => Code.wp Tryz.prog _ _ _ W) ?_
    intro W1 hbW1 hszW1 hc1 hf1
    have hO1 : PairAt W1 W0.heap.size (.slice none 0 0) (.slice none 0 0) := ⟨⟨hc1 0 _ rfl, hc1 1 _ rfl⟩, ⟨hf1 0, hf1 1⟩, by omega⟩
    have hR1 := PairAt.keep hR0 hbW1 hR0.2.2
    rw [hszW0] at hO1 hszW1
    have hbw1 := hbW0.trans (hbW1.mono hbW0.size)
    have HSZ : Hid (W1.heap.size = w.heap.size + 2) := by show _ = _; omega
    clear hc1 hf1 hR0 hbig hbW0 hbW1 hszW0 hszW1
    go_wp2_with fail
    refine (hC W1).mono ?_
    rintro e w2 ⟨vl, rfl, ol, hb2⟩
    have hs12 : w.heap.size + 2 ≤ w2.heap.size := by have := hb2.size; have := HSZ.out; omega
    obtain ⟨Al, cl, hvl⟩ := own_shape ol
    subst hvl
    replace ol : w2.ownsRow (w.heap.size + 2) 9 1 (.slice Al ls.length cl) ls.length (ls.map sv) := by have := HSZ.out; exact own_base ol (by omega)
    have hO2 := PairAt.keep hO1 hb2 hO1.2.2
    have hR2 := PairAt.keep hR1 hb2 hR1.2.2
    have hbw2 := hbw1.trans (hb2.mono hbw1.size)
    clear hC hO1 hR1 hb2 hbw1
    go_wp2
    go_loopw [7] (fun i wr => ∃ (k : Nat) (sc : Idn.Sch) (AT : Option Addr) (dT : Nat) (AC : Option Addr) (dC : Nat) (ps : List ClP), k < ls.length ∧ i = .int .i64 k ∧ PairAt wr w.heap.size (.slice none 0 0) (.slice none 0 0) ∧ PairAt wr (w.heap.size + 1) (.slice AT sc.types.length dT) (.slice AC ps.length dC) ∧
      TyOwn wr (w.heap.size + 2) (.slice AT sc.types.length dT) sc.types ∧ ClOwn wr (w.heap.size + 2) (.slice AC ps.length dC) ps ∧ Hid (ps.map (·.1) = sc.classes) ∧ wr.ownsRow (w.heap.size + 2) 9 1 (.slice Al ls.length cl) ls.length (ls.map sv) ∧ w.heap.size + 2 ≤ wr.heap.size ∧ Below w.heap.size w wr ∧
      Hid (R = rLines sc (k + 1) (ls.drop k)) ∧ Hid (SLim sc) ∧ sc.types.length + ps.length ≤ k) (fun i _ => ls.length - (intOf i).toNat)
    case atStart => exact ⟨0, ⟨[], []⟩, none, 0, none, 0, [], hl0, rfl, hR2, hO2, TyOwn.nil _ _, ClOwn.nil _ _, rfl, ol, hs12, hbw2, HF.out, ⟨by simp, by simp⟩, by simp⟩
    case round =>
      obtain ⟨k, sc, AT, dT, AC, dC, ps, hk, rfl, hRR, hO, hT, hCC, hps, ol, hws, hbw, hinv, hlim, hcnt⟩ := hrel
      clear hR2 hO2 hs12 hbw2 HF
      have hk4 : k ≤ 4096 := by omega
      have hkI : (k : Int) < (ls.length : Int) := by omega
      by_cases hlt : k + 1 < ls.length
      · have hltI : (k : Int) + 1 < (ls.length : Int) := by omega
        obtain ⟨g, o, hAl, hgl, c0⟩ := StrsV.cell (StrsV.of_own ol) hk
        subst hAl
        have hx4 := cl2 _ (List.getElem_mem hk)
        have HST : Hid (R = if ((tl5 (Idn.cutC 32 ls[k])).2 && sc.classes.isEmpty) = true then rLines ⟨sc.types ++ [(tl5 (Idn.cutC 32 ls[k])).1], sc.classes⟩ (k + 1 + 1) (ls.drop (k + 1))
            else if (cl5 (Idn.cutC 32 ls[k])).2 = true then rLines ⟨sc.types, sc.classes ++ [(cl5 (Idn.cutC 32 ls[k])).1]⟩ (k + 1 + 1) (ls.drop (k + 1))
            else (⟨[], []⟩, ((k + 1 : Nat) : Int), 4)) := by
          show _ = _
          rw [hinv.out, List.drop_eq_getElem_cons hk, List.drop_eq_getElem_cons hlt, rLines]
        have hlT := fun (h1 : (tl5 (Idn.cutC 32 ls[k])).2 = true) (h2 : sc.classes.isEmpty = true) => by
          have := (rdLine_lim hlim.out ls[k] (by omega)).1
          rw [rd_ty h1 h2] at this
          exact this
        have hlC := fun (h1 : (cl5 (Idn.cutC 32 ls[k])).2 = true) => by
          have := (rdLine_lim hlim.out ls[k] (by omega)).1
          rw [rd_cl h1] at this
          exact this
        obtain ⟨wl1, wl2⟩ := Idn.cutC_len 32 ls[k]
        have hCx := r_Cut_any (B ls[k]) 32 wr (by rw [Idn.size_B]; omega)
        rw [Idn.L_B] at hCx
        have hce : sc.classes.isEmpty = decide (ps.length = 0) := by rw [← hps.out]; cases ps <;> simp
        rw [hce] at HST hlT
        have HLT := Lib.hid hlT
        have HLC := Lib.hid hlC
        generalize ls[k] = x at *
        generalize Idn.cutC 32 x = ws at *
        clear hinv hlim hlT hlC hce
        go_wp2_with fail
        refine hCx.mono ?_
        rintro e w3 ⟨v3, rfl, o3, hb3⟩
        replace hRR := PairAt.keep hRR hb3 hRR.2.2
        replace hO := PairAt.keep hO hb3 hO.2.2
        replace hT := TyOwn.keep hT hb3
        replace hCC := ClOwn.keep hCC hb3
        replace ol := own_below ol hb3
        replace hbw := hbw.trans (hb3.mono hbw.size)
        replace hws := Nat.le_trans hws hb3.size
        obtain ⟨A3, d3, hv3⟩ := own_shape o3
        subst hv3
        have hTL := r_typeLine_any _ ws w3 (StrsV.of_own o3) (fun y hy => by have := wl2 y hy; omega) (by omega)
        have hCL := fun W (hW : Below w3.heap.size w3 W) => r_classLine_any _ ws W (SlV.mono (SlV.keep (StrsV.of_own o3) hW) hW.size) (fun y hy => by have := wl2 y hy; omega) (by omega)
        unfold tyV sv at hTL
        generalize tl5 ws = tl at *
        generalize cl5 ws = cq9 at *
        obtain ⟨⟨tn, ty, ts⟩, ok1⟩ := tl
        obtain ⟨⟨cn, cs, cmu, cma⟩, ok2⟩ := cq9
        dsimp only at hTL HST
        clear hCx c0 o3 hb3
        go_wp2_with fail
        refine hTL.mono ?_
        rintro e w4 ⟨rfl, hb4⟩
        replace hRR := PairAt.keep hRR hb4 hRR.2.2
        replace hO := PairAt.keep hO hb4 hO.2.2
        replace hT := TyOwn.keep hT hb4
        replace hCC := ClOwn.keep hCC hb4
        replace ol := own_below ol hb4
        replace hbw := hbw.trans (hb4.mono hbw.size)
        replace hws := Nat.le_trans hws hb4.size
        clear hTL
        go_upto_region 10 with fail
        with_reducible refine gen1 (R := fun W => Code.wp Tryz.prog _ _ _ W) ?_
        intro W5 hb5 hszW5 hc5 _
        have t0 : W5.cell? ⟨w4.heap.size, 0, none⟩ = some (.string (B tn)) := hc5 0 _ rfl
        have t1 : W5.cell? ⟨w4.heap.size, 1, none⟩ = some (.int .i64 ty) := hc5 1 _ rfl
        have t2 : W5.cell? ⟨w4.heap.size, 2, none⟩ = some (.bool ts) := hc5 2 _ rfl
        replace hRR := PairAt.keep hRR hb5 hRR.2.2
        replace hO := PairAt.keep hO hb5 hO.2.2
        replace hT := TyOwn.keep hT hb5
        replace hCC := ClOwn.keep hCC hb5
        replace ol := own_below ol hb5
        replace hbw := hbw.trans (hb5.mono hbw.size)
        replace hws := Nat.le_trans hws hb5.size
        have hCL5 := hCL W5 (hb4.trans (hb5.mono hb4.size))
        clear hc5 hszW5 hb4 hb5 hCL
        go_wp2_with fail
        refine hCL5.mono ?_
        rintro e w6 ⟨vm, vn, rfl, om, on, hb6⟩
        have hs5 := hws
        replace hRR := PairAt.keep hRR hb6 hRR.2.2
        replace hO := PairAt.keep hO hb6 hO.2.2
        replace hT := TyOwn.keep hT hb6
        replace hCC := ClOwn.keep hCC hb6
        replace ol := own_below ol hb6
        replace hbw := hbw.trans (hb6.mono hbw.size)
        replace hws := Nat.le_trans hws hb6.size
        replace t0 := cell_later hb6 t0
        replace t1 := cell_later hb6 t1
        replace t2 := cell_later hb6 t2
        dsimp only at om on
        replace om := own_base om hs5
        replace on := own_base on hs5
        obtain ⟨Am, dm, hvm⟩ := own_shape om
        subst hvm
        obtain ⟨An, dn, hvn⟩ := own_shape on
        subst hvn
        clear hCL5 hb6
        go_upto_region 12 with fail
        with_reducible refine gen1 (R := fun W => Code.wp Tryz.prog _ _ _ W) ?_
        intro W7 hb7 hszW7 hc7 _
        have p0 : W7.cell? ⟨w6.heap.size, 0, none⟩ = some (.string (B cn)) := hc7 0 _ rfl
        have p1 : W7.cell? ⟨w6.heap.size, 1, none⟩ = some (.string (B cs)) := hc7 1 _ rfl
        have p2 : W7.cell? ⟨w6.heap.size, 2, none⟩ = some (.slice Am cmu.length dm) := hc7 2 _ rfl
        have p3 : W7.cell? ⟨w6.heap.size, 3, none⟩ = some (.slice An cma.length dn) := hc7 3 _ rfl
        replace hRR := PairAt.keep hRR hb7 hRR.2.2
        replace hO := PairAt.keep hO hb7 hO.2.2
        replace hT := TyOwn.keep hT hb7
        replace hCC := ClOwn.keep hCC hb7
        replace ol := own_below ol hb7
        replace hbw := hbw.trans (hb7.mono hbw.size)
        replace hws := Nat.le_trans hws hb7.size
        replace t0 := cell_later hb7 t0
        replace t1 := cell_later hb7 t1
        replace t2 := cell_later hb7 t2
        replace om := own_below om hb7
        replace on := own_below on hb7
        clear hc7 hszW7 hb7 hs5
        obtain ⟨⟨z0, z1⟩, ⟨y0, y1⟩, hOl⟩ := id hO
        have hpc : ps.length ≤ 4096 := by omega
        have htc : sc.types.length ≤ 4096 := by omega
        have hneT : (Value.slice AT sc.types.length dT).ownBlock ≠ some (w.heap.size + 1) := fun e => absurd (hT.lt' e) (by omega)
        have hneC : (Value.slice AC ps.length dC).ownBlock ≠ some (w.heap.size + 1) := fun e => absurd (hCC.1.lt _ e).1 (by omega)
        have hneL : (Value.slice (some ⟨g, o, none⟩) ls.length cl).ownBlock ≠ some (w.heap.size + 1) := fun e => absurd (ol.lt _ e).1 (by omega)
        have hneT0 : (Value.slice AT sc.types.length dT).ownBlock ≠ some w.heap.size := fun e => absurd (hT.lt' e) (by omega)
        have hneC0 : (Value.slice AC ps.length dC).ownBlock ≠ some w.heap.size := fun e => absurd (hCC.1.lt _ e).1 (by omega)
        by_cases hA : ok1 = true ∧ ps.length = 0
        · obtain ⟨rfl, hp0⟩ := hA
          have hI0 : ((ps.length : Int) == 0) = true := by rw [hp0]; rfl
          have HG : Hid (R = rLines ⟨sc.types ++ [⟨tn, ty, ts⟩], sc.classes⟩ (k + 1 + 1) (ls.drop (k + 1))) := by show _ = _; rw [HST.out, decide_eq_true hp0]; rfl
          have HL2 : Hid (SLim ⟨sc.types ++ [⟨tn, ty, ts⟩], sc.classes⟩) := HLT.out rfl (decide_eq_true hp0)
          have HP0 := Lib.hid hp0
          clear HST HLT HLC hp0 p0 p1 p2 p3 om on
          go_wp2_with (at_builtin; refine wpList_push W7 rfl _ _ 22 rfl (w.heap.size + 2) 58 (.agg #[.string ⟨#[]⟩, .int .i64 0, .bool false]) 3 32 Tryz.underlying22 info_at9 rfl (by decide) _ sc.types.length _ hT rfl [.string (B tn), .int .i64 ty, .bool ts] rfl rfl (by intro u hu; simp at hu; rcases hu with rfl | rfl | rfl <;> rfl) (by omega) hws ?_ rfl)
          intro v8 w8 hown' hg' _ hb8 _
          obtain ⟨A8, d8, hv8⟩ := own_shape hown'
          subst hv8
          have hO8 := PairAt.grownP hO hg' (fun e => hneT e.symm) hg'.size
          have hR8 := PairAt.grownP hRR hg' (fun e => hneT0 e.symm) hg'.size
          have hT8 : TyOwn w8 (w.heap.size + 2) (.slice A8 (sc.types.length + 1) d8) (sc.types ++ [⟨tn, ty, ts⟩]) := by
            unfold TyOwn
            rw [List.length_append, rowT_snoc]
            exact hown'
          have hC8 := hCC.kept hT hg'
          have ol8 := own_kept ol hg' fun g9 h1 h2 => own_apart hT ol (by decide) g9 h2 h1
          have hneT8 : (Value.slice A8 (sc.types.length + 1) d8).ownBlock ≠ some (w.heap.size + 1) := fun e => absurd (hT8.lt' e) (by omega)
          have hs8 : w.heap.size + 2 ≤ w8.heap.size := Nat.le_trans hws hg'.size
          have hbw8 : Below w.heap.size w w8 := hbw.grown hg' (by omega) (fun g9 e => by have := hT.lt' e; omega)
          obtain ⟨⟨z8, z9⟩, ⟨y8, y9⟩, _⟩ := id hO8
          clear hO hRR hT hCC ol z0 z1 y0 y1 hown'
          go_wp2
          go_roundw
          case rel =>
            refine ⟨k + 1, ⟨sc.types ++ [⟨tn, ty, ts⟩], sc.classes⟩, A8, d8, AC, dC, ps, hlt, by go_num, PairAt.other hR8 (by omega) _ _, ?_, ?_, ?_, hps, ownsRow_setCell_other (a := ⟨w.heap.size + 1, 0, none⟩) ol8 hneL _, by simpa using hs8, hbw8.setCell (by show w.heap.size ≤ w.heap.size + 1; omega) _, HG, HL2, by simp; omega⟩
            · have := PairAt.put0 hO8 (.slice A8 (sc.types.length + 1) d8)
              rw [List.length_append]
              exact this
            · have := hT8.set (i := 0) (.slice A8 (sc.types.length + 1) d8) hneT8
              rw [List.length_append]
              exact this
            · exact hC8.set _ hneC (fun q hq => ⟨fun e => absurd ((hC8.2 q hq).1.lt _ e).1 (by omega), fun e => absurd ((hC8.2 q hq).2.lt _ e).1 (by omega)⟩)
          case measure => simp [intOf]; omega
        · have hI : (ok1 = false) ∨ (ok1 = true ∧ ((ps.length : Int) == 0) = false) := by
            cases ok1
            · exact .inl rfl
            · refine .inr ⟨rfl, ?_⟩
              rw [beq_eq_false_iff_ne]
              intro e
              exact hA ⟨rfl, by omega⟩
          have HST2 : Hid (R = if ok2 = true then rLines ⟨sc.types, sc.classes ++ [⟨cn, cs, cmu, cma⟩]⟩ (k + 1 + 1) (ls.drop (k + 1)) else (⟨[], []⟩, ((k + 1 : Nat) : Int), 4)) := by
            show _ = _
            rw [HST.out, if_neg]
            intro e
            rw [Bool.and_eq_true, decide_eq_true_eq] at e
            exact hA e
          clear HST HLT hA
          cases ok2
          · have HG : Hid (R = (⟨[], []⟩, ((k + 1 : Nat) : Int), 4)) := HST2.out
            clear HST2 HLC p0 p1 p2 p3 om on t0 t1 t2
            obtain ⟨⟨x0, x1⟩, ⟨u0, u1⟩, _⟩ := hRR
            rcases hI with rfl | ⟨rfl, hI⟩
            all_goals
              go_wp2
              refine bodyPost_ret (v := .tuple #[.agg #[.slice none 0 0, .slice none 0 0], .int .i64 ((k : Int) + 1), .int .i64 4]) (by simp [results, Tryz.results20, go_sem, x0, x1, u0, u1]) rfl ⟨.slice none 0 0, .slice none 0 0, [], by rw [HG.out] <;> rfl, by rw [HG.out]; exact TyOwn.nil _ _, ClOwn.nil _ _, by rw [HG.out] <;> rfl, ?_⟩
              exact (hbw.setCell (Nat.le_refl _) _).setCell (Nat.le_refl _) _
          · have HG : Hid (R = rLines ⟨sc.types, sc.classes ++ [⟨cn, cs, cmu, cma⟩]⟩ (k + 1 + 1) (ls.drop (k + 1))) := HST2.out
            have HL2 : Hid (SLim ⟨sc.types, sc.classes ++ [⟨cn, cs, cmu, cma⟩]⟩) := HLC.out rfl
            clear HST2 HLC t0 t1 t2
            rcases hI with rfl | ⟨rfl, hI⟩
            all_goals
              go_wp2_with (at_builtin; refine wpList_push W7 rfl _ _ 23 rfl (w.heap.size + 2) 50 (.agg #[.string ⟨#[]⟩, .string ⟨#[]⟩, .slice none 0 0, .slice none 0 0]) 4 80 Tryz.underlying23 info_cls9 rfl (by decide) _ ps.length _ hCC.1 rfl [.string (B cn), .string (B cs), .slice Am cmu.length dm, .slice An cma.length dn] rfl rfl (by intro u hu; simp at hu; rcases hu with rfl | rfl | rfl | rfl <;> rfl) (by omega) hws ?_ rfl)
              intro v8 w8 hown' hg' _ hb8 _
              obtain ⟨A8, d8, hv8⟩ := own_shape hown'
              subst hv8
              have hO8 := PairAt.grownP hO hg' (fun e => hneC e.symm) hg'.size
              have hR8 := PairAt.grownP hRR hg' (fun e => hneC0 e.symm) hg'.size
              have hC8 : ClOwn w8 (w.heap.size + 2) (.slice A8 (ps.length + 1) d8) (ps ++ [(⟨cn, cs, cmu, cma⟩, (.slice Am cmu.length dm, .slice An cma.length dn))]) := hCC.push (c := ⟨cn, cs, cmu, cma⟩) om on hown' hg'
              have hT8 := hT.kept hCC hg'
              have ol8 := own_kept ol hg' fun g9 h1 h2 => own_apart hCC.1 ol (by decide) g9 h2 h1
              have hneC8 : (Value.slice A8 (ps.length + 1) d8).ownBlock ≠ some (w.heap.size + 1) := fun e => absurd (hC8.1.lt _ e).1 (by omega)
              have hs8 : w.heap.size + 2 ≤ w8.heap.size := Nat.le_trans hws hg'.size
              have hbw8 : Below w.heap.size w w8 := hbw.grown hg' (by omega) (fun g9 e => by have := (hCC.1.lt _ e).1; omega)
              obtain ⟨⟨z8, z9⟩, ⟨y8, y9⟩, _⟩ := id hO8
              clear hO hRR hT hCC ol z0 z1 y0 y1 hown' om on
              go_wp2
              go_roundw
              case rel =>
                refine ⟨k + 1, ⟨sc.types, sc.classes ++ [⟨cn, cs, cmu, cma⟩]⟩, AT, dT, A8, d8, ps ++ [(⟨cn, cs, cmu, cma⟩, (.slice Am cmu.length dm, .slice An cma.length dn))], hlt, by go_num, PairAt.other hR8 (by omega) _ _, ?_, hT8.set _ hneT, ?_, ?_, ownsRow_setCell_other (a := ⟨w.heap.size + 1, 1, none⟩) ol8 hneL _, by simpa using hs8, hbw8.setCell (by show w.heap.size ≤ w.heap.size + 1; omega) _, HG, HL2, by simp; omega⟩
                · have := PairAt.put hO8 (.slice A8 (ps.length + 1) d8)
                  rw [List.length_append]
                  exact this
                · have := hC8.set (i := 1) (.slice A8 (ps.length + 1) d8) hneC8 (fun q hq => ⟨fun e => absurd ((hC8.2 q hq).1.lt _ e).1 (by omega), fun e => absurd ((hC8.2 q hq).2.lt _ e).1 (by omega)⟩)
                  rw [List.length_append]
                  exact this
                · show _ = _
                  rw [List.map_append, hps.out]; rfl
              case measure => simp [intOf]; omega
      · have hltI : ¬ (k : Int) + 1 < (ls.length : Int) := by omega
        have hkl : ls.length = k + 1 := by omega
        obtain ⟨g, o, hAl, hgl, c0⟩ := StrsV.cell (StrsV.of_own ol) hk
        subst hAl
        have HST : Hid (R = if ls[k] = [] then fin sc else (⟨[], []⟩, ((k + 1 : Nat) : Int), 4)) := by
          show _ = _
          rw [hinv.out, List.drop_eq_getElem_cons hk, List.drop_eq_nil_of_le (by omega), rLines]
        generalize ls[k] = x at *
        have hSC : SchV wr wr.heap.size (.agg #[.slice AT sc.types.length dT, .slice AC ps.length dC]) sc := ⟨_, _, rfl, hT.types, hCC.classes hps.out⟩
        have hCk := r_check_any _ sc wr hSC (hlim.out.ssm (by rw [← hps.out, List.length_map]; omega))
        have hneT0 : (Value.slice AT sc.types.length dT).ownBlock ≠ some w.heap.size := fun e => absurd (hT.lt' e) (by omega)
        have hneC0 : (Value.slice AC ps.length dC).ownBlock ≠ some w.heap.size := fun e => absurd (hCC.1.lt _ e).1 (by omega)
        have hneP : ∀ q ∈ ps, q.2.1.ownBlock ≠ some w.heap.size ∧ q.2.2.ownBlock ≠ some w.heap.size := fun q hq => ⟨fun e => absurd ((hCC.2 q hq).1.lt _ e).1 (by omega), fun e => absurd ((hCC.2 q hq).2.lt _ e).1 (by omega)⟩
        clear hinv hlim hSC ol cl1 cl2 hl0 hk hkI hltI hlt hgl
        generalize ls.length = n9 at *
        subst hkl
        obtain ⟨⟨z0, z1⟩, ⟨y0, y1⟩, hOl⟩ := id hO
        obtain ⟨⟨x0, x1⟩, ⟨u0, u1⟩, hRl⟩ := id hRR
        by_cases hx : x = []
        · have tx : (B x).toList.isEmpty = true := by rw [toList_L, Idn.L_B, hx]; rfl
          have HG : Hid (R = fin sc) := by show _ = _; rw [HST.out, if_pos hx]
          clear HST hx
          unfold fin at HG
          generalize Idn.sCheck sc = er at *
          go_wp2_with fail
          refine hCk.mono ?_
          rintro e w5 ⟨rfl, hb5⟩
          replace x0 := cell_later hb5 x0
          replace x1 := cell_later hb5 x1
          replace u0 := frozen_later hb5 u0 hRl
          replace u1 := frozen_later hb5 u1 hRl
          replace z0 := cell_later hb5 z0
          replace z1 := cell_later hb5 z1
          have hT5 := TyOwn.keep hT hb5
          have hC5 := ClOwn.keep hCC hb5
          have hbw5 := hbw.trans (hb5.mono hbw.size)
          clear hCk c0
          by_cases he : er = 0
          · subst he
            have HG2 : Hid (R = (sc, 0, 0)) := by show _ = _; rw [HG.out, if_pos rfl]
            clear HG
            go_wp2
            refine bodyPost_ret (v := .tuple #[.agg #[.slice AT sc.types.length dT, .slice AC ps.length dC], .int .i64 0, .int .i64 0]) (by simp [results, Tryz.results20, go_sem, x0, x1, u0, u1]) rfl ⟨_, _, ps, by rw [HG2.out] <;> rfl, ?_, ?_, ?_, (hbw5.setCell (Nat.le_refl _) _).setCell (Nat.le_refl _) _⟩
            · rw [HG2.out]
              exact TyOwn.low ((hT5.set _ hneT0).set _ hneT0) (by omega)
            · exact ClOwn.low ((hC5.set _ hneC0 hneP).set _ hneC0 hneP) (by omega)
            · rw [HG2.out]; exact hps.out
          · have ez : (er != 0) = true := by rw [bne_iff_ne]; exact he
            have HG2 : Hid (R = (⟨[], []⟩, 0, er)) := by show _ = _; rw [HG.out, if_neg he]
            clear HG he
            go_wp2
            refine bodyPost_ret (v := .tuple #[.agg #[.slice none 0 0, .slice none 0 0], .int .i64 0, .int .i64 er]) (by simp [results, Tryz.results20, go_sem, x0, x1, u0, u1]) rfl ⟨.slice none 0 0, .slice none 0 0, [], by rw [HG2.out] <;> rfl, by rw [HG2.out]; exact TyOwn.nil _ _, ClOwn.nil _ _, by rw [HG2.out] <;> rfl, ?_⟩
            exact (hbw5.setCell (Nat.le_refl _) _).setCell (Nat.le_refl _) _
        · have tx : (B x).toList.isEmpty = false := by
            rw [toList_L, Idn.L_B]
            cases x with
            | nil => exact absurd rfl hx
            | cons a b => rfl
          have HG : Hid (R = (⟨[], []⟩, ((k + 1 : Nat) : Int), 4)) := by show _ = _; rw [HST.out, if_neg hx]
          clear HST hx hCk z0 z1 y0 y1
          go_wp2
          refine bodyPost_ret (v := .tuple #[.agg #[.slice none 0 0, .slice none 0 0], .int .i64 ((k : Int) + 1), .int .i64 4]) (by simp [results, Tryz.results20, go_sem, x0, x1, u0, u1]) rfl ⟨.slice none 0 0, .slice none 0 0, [], by rw [HG.out] <;> rfl, by rw [HG.out]; exact TyOwn.nil _ _, ClOwn.nil _ _, by rw [HG.out] <;> rfl, ?_⟩
          exact (hbw.setCell (Nat.le_refl _) _).setCell (Nat.le_refl _) _
end Go.Proofs.YtnikolglippfmaaGreatDoor
