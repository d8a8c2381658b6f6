/- Part 40 of the proof that Parse of the text form of a schema is the schema, and Text of what Parse returns is the string: the package variables hold what the program lays; nothing else is asked. -/
import Derived.Test.YtnikolglippfmaaGreatDoorRtn31
import Derived.Test.YtnikolglippfmaaGreatDoorRtn36
/- schema: readNames, readClass. -/
namespace Go.Proofs.YtnikolglippfmaaGreatDoor
open Go.RowKit Go.Sort
open Idn (L B Bs drop_L take_L size_L)
theorem split_any (s : ByteArray) (c : UInt8) (w : World) (hE : Env w) (hs : s.size ≤ 1000000000) : Calls Tryz.prog 112 #[.string s, .string ⟨#[c]⟩] w (RetS w (Idn.cutC c (L s))) := by
  obtain ⟨⟨m, hm⟩, _⟩ := hE
  refine (Tryz.strings_Split s ⟨#[c]⟩ m w (by omega) hm (Nat.le_refl 1)).mono ?_
  rintro e w' ⟨rfl, rfl⟩
  have hc := Idn.count_cut c s
  have hl : (List.map Value.string (Lib.splitB ⟨#[c]⟩ 0 (Lib.countB s ⟨#[c]⟩) s)).toArray = ((Idn.cutC c (L s)).map sv).toArray := by
    rw [Idn.split_cut, List.map_map]; rfl
  rw [hl, hc]
  have hw := World.ownsRow_lit (base := w.heap.size) (e := 9) (size := 1) w ((Idn.cutC c (L s)).map sv).toArray (Idn.cutC c (L s)).length (Nat.le_refl _) (by have := (Idn.cutC_len c (L s)).1; rw [← size_L] at this; unfold maxLen; omega) (by simp)
  exact ⟨_, rfl, by simpa using hw, (Below.refl _ _).alloc (Nat.le_refl _) _⟩
/-- names between commas, and whether they are -/
def rdNames (s : Bs) : List Bs × Bool := if s = [45] then ([], true) else (Idn.cutC 44 s, (Idn.cutC 44 s).all Idn.name)
def RetSB (w : World) (r : List Bs × Bool) (e : Ending) (w' : World) : Prop :=
  ∃ v, e = .returned (.tuple #[v, .bool r.2]) ∧ w'.ownsRow w.heap.size 9 1 v r.1.length (r.1.map sv) ∧ Below w.heap.size w w'
theorem fn_readNames1 : FnB 192 := by intro a w; kernel_rfl
theorem readNames1_any (x : ByteArray) (w : World) (hx : x.size ≤ 1000000000) : Calls Tryz.prog 192 #[.string x] w fun e w' => e = .returned (.bool (!Idn.name (L x))) ∧ w = w' := by
  have hN := name_any x w (by omega)
  generalize Idn.name (L x) = b at *
  go_enter Tryz.func192, Tryz.ntmps192
  go_wp2_with fail
  refine hN.mono ?_
  rintro e w1 ⟨rfl, rfl⟩
  go_wp2
  go_ret
  exact ⟨rfl, rfl⟩
set_option maxHeartbeats 1000000 in
set_option maxRecDepth 100000 in
theorem readNames_any (s : ByteArray) (w : World) (hE : Env w) (hs : s.size ≤ 100000000) : Calls Tryz.prog 153 #[.string s] w (RetSB w (rdNames (L s))) := by
  generalize hr : rdNames (L s) = r
  have HR := Lib.hid hr
  clear hr
  by_cases h0 : L s = [45]
  · have e0 : (s.toList == [45]) = true := by rw [toList_L, h0]; rfl
    have HF : Hid (r = ([], true)) := by show _ = _; rw [← HR.out, rdNames, if_pos h0]
    clear h0
    go_enter Tryz.func153, Tryz.ntmps153
    go_wp2
    go_ret2
    exact ⟨.slice none 0 0, by rw [HF.out]; rfl, by rw [HF.out]; exact World.ownsRow_nil _ _ _ _, Below.refl _ _⟩
  · have e0 : (s.toList == [45]) = false := by rw [toList_L]; simpa using h0
    have HF : Hid (r = (Idn.cutC 44 (L s), (Idn.cutC 44 (L s)).all Idn.name)) := by show _ = _; rw [← HR.out, rdNames, if_neg h0]
    have hS := split_any s 44 w hE (by omega)
    obtain ⟨hl1, hl2⟩ := Idn.cutC_len 44 (L s)
    rw [← size_L] at hl1 hl2
    generalize Idn.cutC 44 (L s) = l at *
    have hb : (!l.any fun x => !Idn.name x) = l.all Idn.name := by
      clear HF hS hl1 hl2
      induction l with
      | nil => rfl
      | cons x l ih => simp only [List.any_cons, List.all_cons, ← ih]; cases Idn.name x <;> simp
    have hA := fun (v : Value) W (hv : StrsV W W.heap.size v l) => hasF_any 192 #[] fn_readNames1 (fun x => !Idn.name x) v l W hv (by omega) (fun W' x hx _ => by
      have h := hl2 x hx
      have := readNames1_any (B x) W' (by rw [Idn.size_B]; omega)
      rw [Idn.L_B] at this
      exact this.mono fun e w' ⟨h1, h2⟩ => ⟨h1, h2 ▸ Below.refl _ _⟩)
    clear HR h0
    go_enter Tryz.func153, Tryz.ntmps153
    go_wp2_with fail
    refine hS.mono ?_
    rintro e w1 ⟨v1, rfl, hown, hb1⟩
    obtain ⟨A, c, hv⟩ := own_shape hown
    subst hv
    have hA1 := hA _ w1 (StrsV.of_own hown)
    clear hS hA
    go_wp2_with fail
    refine hA1.mono ?_
    rintro e w2 ⟨rfl, hb2⟩
    have hown2 := own_below hown hb2
    clear hA1 hown
    go_wp2
    go_ret2
    refine ⟨.slice A l.length c, ?_, by rw [HF.out]; exact hown2, hb1.trans (hb2.mono hb1.size)⟩
    rw [HF.out, ← hb]; rfl
/-- a class, and whether the words are one -/
theorem own_setp {w : World} {base : Nat} {e : TypeId} {size : Nat} {v : Value} {n : Nat} {xs : List Value} (h : w.ownsRow base e size v n xs) {p i : Nat} (u : Value) (hp : v.ownBlock ≠ some p) : (w.setCell ⟨p, i, none⟩ u).ownsRow base e size v n xs := ownsRow_setCell_other h hp u
def badCl (ws : List Bs) : Bool := decide (ws.length ≠ 5) || (!Idn.name (ws.getD 1 []) || (!decide (ws.getD 2 [] = [45]) && !Idn.name (ws.getD 2 [])))
def rdClass (ws : List Bs) : Idn.Cl × Bool :=
  if badCl ws then (⟨[], [], [], []⟩, false)
  else (⟨ws.getD 1 [], if ws.getD 2 [] = [45] then [] else ws.getD 2 [], (rdNames (ws.getD 3 [])).1, (rdNames (ws.getD 4 [])).1⟩, (rdNames (ws.getD 3 [])).2 && (rdNames (ws.getD 4 [])).2)
def RetCl (w : World) (r : Idn.Cl × Bool) (e : Ending) (w' : World) : Prop :=
  ∃ v u, e = .returned (.tuple #[.agg #[.string (B r.1.name), .string (B r.1.super), v, u], .bool r.2]) ∧ w'.ownsRow w.heap.size 9 1 v r.1.must.length (r.1.must.map sv) ∧ w'.ownsRow w.heap.size 9 1 u r.1.may.length (r.1.may.map sv) ∧ Below w.heap.size w w'
theorem strs_one {w : World} {hi : Nat} {b off n c : Nat} {l : List Bs} (h : StrsV w hi (.slice (some ⟨b, off, none⟩) n c) l) {k : Nat} {x : Bs} (hk : l[k]? = some x) : w.cell? ⟨b, off + k, none⟩ = some (.string (B x)) := by
  obtain ⟨b', off', hA, _, c3⟩ := strs_at h hk
  injection hA with hA
  injection hA with e1 e2
  subst e1 e2
  exact c3
set_option maxHeartbeats 2000000 in
set_option maxRecDepth 100000 in
theorem readClass_any (v : Value) (ws : List Bs) (w : World) (hv : StrsV w w.heap.size v ws) (hE : Env w) (hws : ∀ x ∈ ws, x.length ≤ 100000000) (hwl : ws.length ≤ 1000000000) :
    Calls Tryz.prog 114 #[v] w (RetCl w (rdClass ws)) := by
  generalize hr : rdClass ws = r
  have HR := Lib.hid hr
  clear hr
  obtain ⟨A, c, rfl, hc⟩ := SlV.shape hv
  by_cases h5 : ws.length = 5
  case neg =>
    have HF : Hid (r = (⟨[], [], [], []⟩, false)) := by show _ = _; rw [← HR.out, rdClass, if_pos (by simp [badCl, h5])]
    have h5I : ((ws.length : Int) == 5) = false := by rw [beq_eq_false_iff_ne]; omega
    have h5J : ((ws.length : Int) != 5) = true := by rw [bne_iff_ne]; omega
    clear h5 hws hv HR
    generalize ws.length = n at *
    go_enter Tryz.func114, Tryz.ntmps114
    go_wp2
    exact bodyPost_ret (v := .tuple #[.agg #[.string ⟨#[]⟩, .string ⟨#[]⟩, .slice none 0 0, .slice none 0 0], .bool false]) (by simp [results, Tryz.results114, go_sem]) rfl ⟨.slice none 0 0, .slice none 0 0, by rw [HF.out]; rfl, by rw [HF.out]; exact World.ownsRow_nil _ _ _ _, by rw [HF.out]; exact World.ownsRow_nil _ _ _ _, (Below.refl _ _).alloc (Nat.le_refl _) _⟩
  have x1h : ws[1]? = some (ws.getD 1 []) := by simp [List.getD, show 1 < ws.length by omega]
  have x2h : ws[2]? = some (ws.getD 2 []) := by simp [List.getD, show 2 < ws.length by omega]
  have x3h : ws[3]? = some (ws.getD 3 []) := by simp [List.getD, show 3 < ws.length by omega]
  have x4h : ws[4]? = some (ws.getD 4 []) := by simp [List.getD, show 4 < ws.length by omega]
  have hm1 := hws _ (List.mem_of_getElem? x1h)
  have hm2 := hws _ (List.mem_of_getElem? x2h)
  have hm3 := hws _ (List.mem_of_getElem? x3h)
  have hm4 := hws _ (List.mem_of_getElem? x4h)
  have HQ : Hid (r = if (!Idn.name (ws.getD 1 []) || (!decide (ws.getD 2 [] = [45]) && !Idn.name (ws.getD 2 []))) then (⟨[], [], [], []⟩, false)
      else (⟨ws.getD 1 [], if ws.getD 2 [] = [45] then [] else ws.getD 2 [], (rdNames (ws.getD 3 [])).1, (rdNames (ws.getD 4 [])).1⟩, (rdNames (ws.getD 3 [])).2 && (rdNames (ws.getD 4 [])).2)) := by
    show _ = _; rw [← HR.out, rdClass, badCl, h5]; rfl
  generalize ws.getD 1 [] = x1 at *
  generalize ws.getD 2 [] = x2 at *
  generalize ws.getD 3 [] = x3 at *
  generalize ws.getD 4 [] = x4 at *
  obtain ⟨b, off, rfl, hbl, c1⟩ := strs_at hv x1h
  have c2 := strs_one hv x2h
  have c3 := strs_one hv x3h
  have c4 := strs_one hv x4h
  have hN1 := fun W => name_any (B x1) W (by rw [Idn.size_B]; omega)
  have hN2 := fun W => name_any (B x2) W (by rw [Idn.size_B]; omega)
  have hR3 := fun W (hW : Below w.heap.size w W) => readNames_any (B x3) W (hE.keep hW) (by rw [Idn.size_B]; omega)
  have hR4 := fun W (hW : Below w.heap.size w W) => readNames_any (B x4) W (hE.keep hW) (by rw [Idn.size_B]; omega)
  simp only [Idn.L_B] at hN1 hN2 hR3 hR4
  have t2 : ((B x2).toList == [45]) = decide (x2 = [45]) := by rw [toList_L, Idn.L_B, list_beq]
  clear hws hv HR x1h x2h x3h x4h hE
  generalize ws.length = n at *
  subst h5
  generalize rdNames x3 = q3 at *
  generalize rdNames x4 = q4 at *
  obtain ⟨ll3, k3⟩ := q3
  obtain ⟨ll4, k4⟩ := q4
  cases n1 : Idn.name x1
  · have HF : Hid (r = (⟨[], [], [], []⟩, false)) := by show _ = _; rw [HQ.out, n1]; rfl
    rw [n1] at hN1
    clear HQ n1 hR3 hR4 hN2
    go_enter Tryz.func114, Tryz.ntmps114
    go_wp2_with (go_at_call 92; refine (hN1 _).mono ?_; rintro e w' ⟨rfl, rfl⟩)
    exact bodyPost_ret (v := .tuple #[.agg #[.string ⟨#[]⟩, .string ⟨#[]⟩, .slice none 0 0, .slice none 0 0], .bool false]) (by simp [results, Tryz.results114, go_sem]) rfl ⟨.slice none 0 0, .slice none 0 0, by rw [HF.out]; rfl, by rw [HF.out]; exact World.ownsRow_nil _ _ _ _, by rw [HF.out]; exact World.ownsRow_nil _ _ _ _, (Below.refl _ _).alloc (Nat.le_refl _) _⟩
  rw [n1] at hN1
  by_cases h2 : x2 = [45]
  · have HF : Hid (r = (⟨x1, [], ll3, ll4⟩, k3 && k4)) := by show _ = _; rw [HQ.out, n1, if_neg (by simp [h2]), if_pos h2]
    rw [decide_eq_true h2] at t2
    clear HQ n1 hN2 h2
    go_enter Tryz.func114, Tryz.ntmps114
    go_wp2_with fail
    with_reducible refine gen1 (R := fun W => Calls Tryz.prog 92 _ W _) ?_
    intro W hbW hszW hc1 hf1
    have r0 := hc1 0 _ rfl
    have r1 := hc1 1 _ rfl
    have r2 := hc1 2 _ rfl
    have r3 := hc1 3 _ rfl
    have f0 := hf1 0
    have f1 := hf1 1
    have f2 := hf1 2
    have f3 := hf1 3
    clear hc1 hf1
    replace c1 := cell_later hbW c1
    replace c2 := cell_later hbW c2
    replace c3 := cell_later hbW c3
    replace c4 := cell_later hbW c4
    have hlt : w.heap.size < W.heap.size := by omega
    clear hszW
    refine (hN1 W).mono ?_
    rintro e w' ⟨rfl, rfl⟩
    clear hN1
    go_wp2_with fail
    refine (hR3 W hbW).mono ?_
    rintro e w1 ⟨v3, rfl, o3, hb1⟩
    obtain ⟨A3, d3, hv3⟩ := own_shape o3
    subst hv3
    dsimp only at *
    have hbw1 := hbW.trans (hb1.mono hbW.size)
    replace r0 := cell_later hb1 r0
    replace r1 := cell_later hb1 r1
    replace r2 := cell_later hb1 r2
    replace r3 := cell_later hb1 r3
    replace f0 := frozen_later hb1 f0 hlt
    replace f1 := frozen_later hb1 f1 hlt
    replace f2 := frozen_later hb1 f2 hlt
    replace f3 := frozen_later hb1 f3 hlt
    replace c1 := cell_later hb1 c1
    replace c2 := cell_later hb1 c2
    replace c4 := cell_later hb1 c4
    have hlt1 : w.heap.size < w1.heap.size := Nat.lt_of_lt_of_le hlt hb1.size
    clear hR3 c3
    go_wp2_with fail
    refine (hR4 w1 hbw1).mono ?_
    rintro e w2 ⟨v4, rfl, o4, hb2⟩
    obtain ⟨A4, d4, hv4⟩ := own_shape o4
    subst hv4
    dsimp only at *
    have hbw2 := hbw1.trans (hb2.mono hbw1.size)
    have l3 := fun g => own_lt o3 (g := g)
    replace o3 := own_below o3 hb2
    have l4 := fun g => own_lt o4 (g := g)
    replace r0 := cell_later hb2 r0
    replace r1 := cell_later hb2 r1
    replace r2 := cell_later hb2 r2
    replace r3 := cell_later hb2 r3
    replace f0 := frozen_later hb2 f0 hlt1
    replace f1 := frozen_later hb2 f1 hlt1
    replace f2 := frozen_later hb2 f2 hlt1
    replace f3 := frozen_later hb2 f3 hlt1
    replace c1 := cell_later hb2 c1
    replace c2 := cell_later hb2 c2
    have hlt2 : w.heap.size < w2.heap.size := Nat.lt_of_lt_of_le hlt1 hb2.size
    have s12 := hb2.size
    clear hR4 c4
    go_upto_region 6 with fail
    with_reducible refine gen1 (R := fun W => Code.wp Tryz.prog _ _ _ W) ?_
    intro W3 hbW3 hszW3 hc3 hf3
    have p0 := hc3 0 _ rfl
    have p1 := hc3 1 _ rfl
    have p2 := hc3 2 _ rfl
    have p3 := hc3 3 _ rfl
    have g1 := hf3 1
    clear hc3 hf3
    have hbw3 := hbw2.trans (hbW3.mono hbw2.size)
    have m3 := fun g => (o3.lt g · |>.1)
    have m4 := fun g => (o4.lt g · |>.1)
    replace o3 := own_below o3 hbW3
    replace o4 := own_below o4 hbW3
    have sa3 : (Value.slice A3 ll3.length d3).ownBlock ≠ some w.heap.size := fun hg => by have h1 := l3 _ hg; have h2 := m3 _ hg; omega
    have sb3 : (Value.slice A3 ll3.length d3).ownBlock ≠ some w2.heap.size := fun hg => by have h1 := l3 _ hg; have h2 := m3 _ hg; omega
    have sa4 : (Value.slice A4 ll4.length d4).ownBlock ≠ some w.heap.size := fun hg => by have h1 := l4 _ hg; have h2 := m4 _ hg; omega
    have sb4 : (Value.slice A4 ll4.length d4).ownBlock ≠ some w2.heap.size := fun hg => by have h1 := l4 _ hg; have h2 := m4 _ hg; omega
    replace r0 := cell_later hbW3 r0
    replace r1 := cell_later hbW3 r1
    replace r2 := cell_later hbW3 r2
    replace r3 := cell_later hbW3 r3
    replace f0 := frozen_later hbW3 f0 hlt2
    replace f1 := frozen_later hbW3 f1 hlt2
    replace f2 := frozen_later hbW3 f2 hlt2
    replace f3 := frozen_later hbW3 f3 hlt2
    replace c1 := cell_later hbW3 c1
    replace c2 := cell_later hbW3 c2
    have hne : w2.heap.size ≠ w.heap.size := by omega
    have hne' : w.heap.size ≠ w2.heap.size := by omega
    clear l3 l4 m3 m4
    cases k3
    · go_wp2
      refine bodyPost_ret (v := .tuple #[.agg #[.string (B x1), .string ⟨#[]⟩, .slice A3 ll3.length d3, .slice A4 ll4.length d4], .bool false]) (by simp [results, Tryz.results114, go_sem, r0, r1, r2, r3, f0, f1, f2, f3, p0, p1, p2, p3]) rfl ⟨_, _, by rw [HF.out]; first | rfl | simp, ?_, ?_, ?_⟩
      · rw [HF.out]
        exact own_base (by repeat (first | with_reducible exact o3 | with_reducible refine own_setp ?_ _ sa3 | with_reducible refine own_setp ?_ _ sb3)) hbW.size
      · rw [HF.out]
        exact own_base (by repeat (first | with_reducible exact o4 | with_reducible refine own_setp ?_ _ sa4 | with_reducible refine own_setp ?_ _ sb4)) hbw1.size
      · repeat (first | with_reducible exact hbw3 | refine Below.setCell ?_ (by simp; try omega) _)
    · go_wp2
      refine bodyPost_ret (v := .tuple #[.agg #[.string (B x1), .string ⟨#[]⟩, .slice A3 ll3.length d3, .slice A4 ll4.length d4], .bool k4]) (by simp [results, Tryz.results114, go_sem, r0, r1, r2, r3, f0, f1, f2, f3, p0, p1, p2, p3]) rfl ⟨_, _, by rw [HF.out]; first | rfl | simp, ?_, ?_, ?_⟩
      · rw [HF.out]
        exact own_base (by repeat (first | with_reducible exact o3 | with_reducible refine own_setp ?_ _ sa3 | with_reducible refine own_setp ?_ _ sb3)) hbW.size
      · rw [HF.out]
        exact own_base (by repeat (first | with_reducible exact o4 | with_reducible refine own_setp ?_ _ sa4 | with_reducible refine own_setp ?_ _ sb4)) hbw1.size
      · repeat (first | with_reducible exact hbw3 | refine Below.setCell ?_ (by simp; try omega) _)
  · rw [decide_eq_false h2] at t2
    cases n2 : Idn.name x2
    · have HF : Hid (r = (⟨[], [], [], []⟩, false)) := by show _ = _; rw [HQ.out, n1, n2, decide_eq_false h2]; rfl
      rw [n2] at hN2
      clear HQ n1 n2 hR3 hR4 h2
      go_enter Tryz.func114, Tryz.ntmps114
      go_wp2_with (first | (go_at_call 92; with_reducible refine (hN1 _).mono ?_; rintro e w' ⟨rfl, rfl⟩) | (go_at_call 92; with_reducible refine (hN2 _).mono ?_; rintro e w' ⟨rfl, rfl⟩))
      exact bodyPost_ret (v := .tuple #[.agg #[.string ⟨#[]⟩, .string ⟨#[]⟩, .slice none 0 0, .slice none 0 0], .bool false]) (by simp [results, Tryz.results114, go_sem]) rfl ⟨.slice none 0 0, .slice none 0 0, by rw [HF.out]; rfl, by rw [HF.out]; exact World.ownsRow_nil _ _ _ _, by rw [HF.out]; exact World.ownsRow_nil _ _ _ _, (Below.refl _ _).alloc (Nat.le_refl _) _⟩
    have HF : Hid (r = (⟨x1, x2, ll3, ll4⟩, k3 && k4)) := by show _ = _; rw [HQ.out, n1, n2, if_neg (by simp), if_neg h2]
    rw [n2] at hN2
    clear HQ n1 n2 h2
    go_enter Tryz.func114, Tryz.ntmps114
    go_wp2_with fail
    with_reducible refine gen1 (R := fun W => Calls Tryz.prog 92 _ W _) ?_
    intro W hbW hszW hc1 hf1
    have r0 := hc1 0 _ rfl
    have r1 := hc1 1 _ rfl
    have r2 := hc1 2 _ rfl
    have r3 := hc1 3 _ rfl
    have f0 := hf1 0
    have f1 := hf1 1
    have f2 := hf1 2
    have f3 := hf1 3
    clear hc1 hf1
    replace c1 := cell_later hbW c1
    replace c2 := cell_later hbW c2
    replace c3 := cell_later hbW c3
    replace c4 := cell_later hbW c4
    have hlt : w.heap.size < W.heap.size := by omega
    clear hszW
    refine (hN1 W).mono ?_
    rintro e w' ⟨rfl, rfl⟩
    clear hN1
    go_wp2_with fail
    refine (hN2 W).mono ?_
    rintro e w' ⟨rfl, rfl⟩
    clear hN2
    go_wp2_with fail
    refine (hR3 W hbW).mono ?_
    rintro e w1 ⟨v3, rfl, o3, hb1⟩
    obtain ⟨A3, d3, hv3⟩ := own_shape o3
    subst hv3
    dsimp only at *
    have hbw1 := hbW.trans (hb1.mono hbW.size)
    replace r0 := cell_later hb1 r0
    replace r1 := cell_later hb1 r1
    replace r2 := cell_later hb1 r2
    replace r3 := cell_later hb1 r3
    replace f0 := frozen_later hb1 f0 hlt
    replace f1 := frozen_later hb1 f1 hlt
    replace f2 := frozen_later hb1 f2 hlt
    replace f3 := frozen_later hb1 f3 hlt
    replace c1 := cell_later hb1 c1
    replace c2 := cell_later hb1 c2
    replace c4 := cell_later hb1 c4
    have hlt1 : w.heap.size < w1.heap.size := Nat.lt_of_lt_of_le hlt hb1.size
    clear hR3 c3
    go_wp2_with fail
    refine (hR4 w1 hbw1).mono ?_
    rintro e w2 ⟨v4, rfl, o4, hb2⟩
    obtain ⟨A4, d4, hv4⟩ := own_shape o4
    subst hv4
    dsimp only at *
    have hbw2 := hbw1.trans (hb2.mono hbw1.size)
    have l3 := fun g => own_lt o3 (g := g)
    replace o3 := own_below o3 hb2
    have l4 := fun g => own_lt o4 (g := g)
    replace r0 := cell_later hb2 r0
    replace r1 := cell_later hb2 r1
    replace r2 := cell_later hb2 r2
    replace r3 := cell_later hb2 r3
    replace f0 := frozen_later hb2 f0 hlt1
    replace f1 := frozen_later hb2 f1 hlt1
    replace f2 := frozen_later hb2 f2 hlt1
    replace f3 := frozen_later hb2 f3 hlt1
    replace c1 := cell_later hb2 c1
    replace c2 := cell_later hb2 c2
    have hlt2 : w.heap.size < w2.heap.size := Nat.lt_of_lt_of_le hlt1 hb2.size
    have s12 := hb2.size
    clear hR4 c4
    go_upto_region 6 with fail
    with_reducible refine gen1 (R := fun W => Code.wp Tryz.prog _ _ _ W) ?_
    intro W3 hbW3 hszW3 hc3 hf3
    have p0 := hc3 0 _ rfl
    have p1 := hc3 1 _ rfl
    have p2 := hc3 2 _ rfl
    have p3 := hc3 3 _ rfl
    have g1 := hf3 1
    clear hc3 hf3
    have hbw3 := hbw2.trans (hbW3.mono hbw2.size)
    have m3 := fun g => (o3.lt g · |>.1)
    have m4 := fun g => (o4.lt g · |>.1)
    replace o3 := own_below o3 hbW3
    replace o4 := own_below o4 hbW3
    have sa3 : (Value.slice A3 ll3.length d3).ownBlock ≠ some w.heap.size := fun hg => by have h1 := l3 _ hg; have h2 := m3 _ hg; omega
    have sb3 : (Value.slice A3 ll3.length d3).ownBlock ≠ some w2.heap.size := fun hg => by have h1 := l3 _ hg; have h2 := m3 _ hg; omega
    have sa4 : (Value.slice A4 ll4.length d4).ownBlock ≠ some w.heap.size := fun hg => by have h1 := l4 _ hg; have h2 := m4 _ hg; omega
    have sb4 : (Value.slice A4 ll4.length d4).ownBlock ≠ some w2.heap.size := fun hg => by have h1 := l4 _ hg; have h2 := m4 _ hg; omega
    replace r0 := cell_later hbW3 r0
    replace r1 := cell_later hbW3 r1
    replace r2 := cell_later hbW3 r2
    replace r3 := cell_later hbW3 r3
    replace f0 := frozen_later hbW3 f0 hlt2
    replace f1 := frozen_later hbW3 f1 hlt2
    replace f2 := frozen_later hbW3 f2 hlt2
    replace f3 := frozen_later hbW3 f3 hlt2
    replace c1 := cell_later hbW3 c1
    replace c2 := cell_later hbW3 c2
    have hne : w2.heap.size ≠ w.heap.size := by omega
    have hne' : w.heap.size ≠ w2.heap.size := by omega
    clear l3 l4 m3 m4
    cases k3
    · go_wp2
      refine bodyPost_ret (v := .tuple #[.agg #[.string (B x1), .string (B x2), .slice A3 ll3.length d3, .slice A4 ll4.length d4], .bool false]) (by simp [results, Tryz.results114, go_sem, r0, r1, r2, r3, f0, f1, f2, f3, p0, p1, p2, p3]) rfl ⟨_, _, by rw [HF.out]; first | rfl | simp, ?_, ?_, ?_⟩
      · rw [HF.out]
        exact own_base (by repeat (first | with_reducible exact o3 | with_reducible refine own_setp ?_ _ sa3 | with_reducible refine own_setp ?_ _ sb3)) hbW.size
      · rw [HF.out]
        exact own_base (by repeat (first | with_reducible exact o4 | with_reducible refine own_setp ?_ _ sa4 | with_reducible refine own_setp ?_ _ sb4)) hbw1.size
      · repeat (first | with_reducible exact hbw3 | refine Below.setCell ?_ (by simp; try omega) _)
    · go_wp2
      refine bodyPost_ret (v := .tuple #[.agg #[.string (B x1), .string (B x2), .slice A3 ll3.length d3, .slice A4 ll4.length d4], .bool k4]) (by simp [results, Tryz.results114, go_sem, r0, r1, r2, r3, f0, f1, f2, f3, p0, p1, p2, p3]) rfl ⟨_, _, by rw [HF.out]; first | rfl | simp, ?_, ?_, ?_⟩
      · rw [HF.out]
        exact own_base (by repeat (first | with_reducible exact o3 | with_reducible refine own_setp ?_ _ sa3 | with_reducible refine own_setp ?_ _ sb3)) hbW.size
      · rw [HF.out]
        exact own_base (by repeat (first | with_reducible exact o4 | with_reducible refine own_setp ?_ _ sa4 | with_reducible refine own_setp ?_ _ sb4)) hbw1.size
      · repeat (first | with_reducible exact hbw3 | refine Below.setCell ?_ (by simp; try omega) _)
end Go.Proofs.YtnikolglippfmaaGreatDoor
