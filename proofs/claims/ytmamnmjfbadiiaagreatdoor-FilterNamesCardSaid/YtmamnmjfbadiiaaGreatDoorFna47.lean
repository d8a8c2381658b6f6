/- Part 47 of the proof that identitylaw09.FilterNames returns true at all filters: the package variables hold what the program lays; nothing else is asked. -/
import Derived.Test.YtmamnmjfbadiiaaGreatDoorFna42
import Derived.Test.YtmamnmjfbadiiaaGreatDoorFna43
import Derived.Test.YtmamnmjfbadiiaaGreatDoorFna44
import Derived.Test.YtmamnmjfbadiiaaGreatDoorFna45
import Derived.Deep.CutBlock
set_option linter.unusedVariables false
set_option linter.unusedSimpArgs false
/- filter: the reader: comparison, kids, filter. -/
namespace Go.Proofs.YtmamnmjfbadiiaaGreatDoor
open Go.RowKit Go.Sort
open Idn (L B Bs drop_L take_L size_L)
section
variable {X Y : World} {p : Nat} {a b c d e u u' : Value}
theorem gen_put2 {R : World → Prop} (hB : Box5 X p a b c d e) (h : ∀ W, But p X W → Box5 W p a b u d e → W.heap.size = X.heap.size → R W) : R (X.setCell ⟨p, 2, none⟩ u) :=
  h _ ((But.refl p X).put u) ⟨by simp [go_sem, hB.c0], by simp [go_sem, hB.c1], by simp [go_sem, hB.c2], by simp [go_sem, hB.c3], by simp [go_sem, hB.c4], fun i => by simp [hB.fz i], by simpa [World.setCell] using hB.lt⟩ (by simp [World.setCell])
theorem gen_put02 {R : World → Prop} (hB : Box5 X p a b c d e) (h : ∀ W, But p X W → Box5 W p u b u' d e → W.heap.size = X.heap.size → R W) : R ((X.setCell ⟨p, 0, none⟩ u).setCell ⟨p, 2, none⟩ u') :=
  gen_put0 (R := fun Z => R (Z.setCell ⟨p, 2, none⟩ u')) hB fun _ h1 h2 h3 => gen_put2 h2 fun W k1 k2 k3 => h W (h1.trans k1) k2 (k3.trans h3)
theorem gen_drew {R : World → Prop} {a' b' c' d' e' : Value} {Z : World} (h1 : But p X Z) (h2 : Box5 Z p a' b' c' d' e') (h3 : Z.heap.size = X.heap.size) (h : ∀ W, But p X W → Box5 W p a' b' c' d' e' → W.heap.size = X.heap.size → R W) : R Z.drew :=
  h Z.drew ⟨h1.os, h1.tape, h1.output, h1.size, h1.block⟩ ⟨h2.c0, h2.c1, h2.c2, h2.c3, h2.c4, h2.fz, h2.lt⟩ h3
theorem gen_put02d {R : World → Prop} (hB : Box5 X p a b c d e) (h : ∀ W, But p X W → Box5 W p u b u' d e → W.heap.size = X.heap.size → R W) : R ((X.setCell ⟨p, 0, none⟩ u).setCell ⟨p, 2, none⟩ u').drew :=
  gen_put02 (R := fun Z => R Z.drew) hB fun _ h1 h2 h3 => gen_drew h1 h2 h3 h
theorem gen_put03 {R : World → Prop} (hB : Box5 X p a b c d e) (h : ∀ W, But p X W → Box5 W p u b c u' e → W.heap.size = X.heap.size → R W) : R ((X.setCell ⟨p, 0, none⟩ u).setCell ⟨p, 3, none⟩ u') :=
  gen_put0 (R := fun Z => R (Z.setCell ⟨p, 3, none⟩ u')) hB fun _ h1 h2 h3 => gen_put3 h2 fun W k1 k2 k3 => h W (h1.trans k1) k2 (k3.trans h3)
theorem gen_put04 {R : World → Prop} (hB : Box5 X p a b c d e) (h : ∀ W, But p X W → Box5 W p u b c d u' → W.heap.size = X.heap.size → R W) : R ((X.setCell ⟨p, 0, none⟩ u).setCell ⟨p, 4, none⟩ u') :=
  gen_put0 (R := fun Z => R (Z.setCell ⟨p, 4, none⟩ u')) hB fun _ h1 h2 h3 => gen_put4 h2 fun W k1 k2 k3 => h W (h1.trans k1) k2 (k3.trans h3)
theorem gen_put5 {R : World → Prop} {a' b' c' d' e' : Value} (hB : Box5 X p a b c d e) (h : ∀ W, But p X W → Box5 W p a' b' c' d' e' → W.heap.size = X.heap.size → R W) : R (((((X.setCell ⟨p, 0, none⟩ a').setCell ⟨p, 1, none⟩ b').setCell ⟨p, 2, none⟩ c').setCell ⟨p, 3, none⟩ d').setCell ⟨p, 4, none⟩ e') :=
  h _ (put5 p X a' b' c' d' e') ⟨by simp [go_sem, hB.c0], by simp [go_sem, hB.c1], by simp [go_sem, hB.c2], by simp [go_sem, hB.c3], by simp [go_sem, hB.c4], fun i => by simp [hB.fz i], by simpa [World.setCell] using hB.lt⟩ (by simp [World.setCell])
theorem gen_rd {R : World → Prop} {w : World} {b : Nat} {rest t : Bs} (h : RdAt w b rest) (hh : ∀ W, But b w W → RdAt W b t → W.heap.size = w.heap.size → R W) : R (w.setCell ⟨b, 0, none⟩ (.string (B t))) :=
  hh _ ((But.refl _ _).put _) (h.put t) (by simp [World.setCell])
theorem genRow1 {R : World → Prop} {w : World} {x : ByteArray} (h : ∀ W, Below w.heap.size w W → W.heap.size = w.heap.size + 1 → W.ownsRow w.heap.size 9 1 (.slice (some ⟨w.heap.size, 0, none⟩) 1 1) 1 [.string x] → R W) : R (w.alloc (.cells #[.string x] 9)) :=
  h _ ((Below.refl _ _).alloc (Nat.le_refl _) _) (by simp) (World.ownsRow_lit (base := w.heap.size) (e := 9) (size := 1) w #[.string x] 1 (Nat.le_refl _) (by decide) rfl)
end
theorem But.at_ {p lo : Nat} {w W V : World} (h : But p w W) (hb : Below lo W V) (hl : w.heap.size ≤ lo) : But p w V := h.own (hb.mono hl)
/-- a filter handed back in memory of its own, what is left to read, and nothing else turned -/
def RetQ (b d : Nat) (f : Flt) (rest : Bs) (w : World) (e : Ending) (w' : World) : Prop := ∃ r, e = .returned r ∧ FltN (fun k => k < w.heap.size) w' d r f ∧ RdAt w' b rest ∧ But b w w'
theorem escF_ge (v : Bs) : v.length ≤ (escF v).length := by
  induction v with
  | nil => simp
  | cons c v ih =>
    have e : escF (c :: v) = escF1 c ++ escF v := by unfold escF; rw [List.flatMap_cons]
    have h : 1 ≤ (escF1 c).length := by unfold escF1; split <;> (try split) <;> (try split) <;> (try split) <;> simp
    rw [e, List.length_append, List.length_cons]; omega
theorem tail_stop (k : Int) (v : Bs) (ps : List Bs) (t : Bs) : ∃ c r, tailF k v ps ++ 41 :: t = c :: r ∧ nStop c = true := by
  unfold tailF
  split
  · exact ⟨61, _, rfl, rfl⟩
  · split
    · exact ⟨62, _, rfl, rfl⟩
    · split
      · exact ⟨60, _, rfl, rfl⟩
      · split
        · exact ⟨61, _, rfl, rfl⟩
        · exact ⟨61, _, rfl, rfl⟩
set_option maxHeartbeats 8000000 in
set_option maxRecDepth 100000 in
theorem rcomp_any (b d : Nat) (k : Int) (n v : Bs) (ps : List Bs) (t : Bs) (w : World) (hn : rdName n = true) (hk : ((k = 4 ∨ k = 5 ∨ k = 6) ∧ ps = []) ∨ (k = 7 ∧ v = [] ∧ ps = []) ∨ (k = 8 ∧ v = [] ∧ 2 ≤ ps.length ∧ ps ≠ [[], []]))
    (h : RdAt w b (n ++ (tailF k v ps ++ 41 :: t))) (hlen : (n ++ (tailF k v ps ++ 41 :: t)).length ≤ 100000) :
    Calls Tryz.prog 77 #[.pointer (some ⟨b, 0, none⟩)] w (RetQ b d (.mk k n v ps []) (41 :: t) w) := by
  have hna : n.all (fun c => !nStop c) = true := by unfold rdName at hn; rw [Bool.and_eq_true] at hn; exact hn.1
  obtain ⟨c0, rest0, hc0, hs0⟩ := tail_stop k v ps t
  obtain ⟨hr1, hr2⟩ := name_run hna c0 rest0 hs0
  rw [← hc0] at hr1 hr2
  have hbl := h.lt
  have hlen2 : (tailF k v ps ++ 41 :: t).length ≤ 100000 := by rw [List.length_append] at hlen; omega
  clear hc0 hs0 hna hn
  go_enter Tryz.func77, Tryz.ntmps77
  go_upto_region 1 with fail
  with_reducible refine gen1 (R := fun W => Code.wp Tryz.prog _ _ _ W) ?_
  intro W hbW hszW hc hf
  have B2 : Box5 W w.heap.size (.int .i64 0) (.string ⟨#[]⟩) (.string ⟨#[]⟩) (.slice none 0 0) (.slice none 0 0) := ⟨hc 0 _ rfl, hc 1 _ rfl, hc 2 _ rfl, hc 3 _ rfl, hc 4 _ rfl, hf, by omega⟩
  have hU := until_any b (B (n ++ (tailF k v ps ++ 41 :: t))) [40, 41, 42, 92, 61, 60, 62] W (h.later hbW) (by rw [Idn.size_B]; exact Nat.le_trans hlen (by decide))
  rw [Idn.L_B] at hU
  rw [show (fun c : UInt8 => !([40, 41, 42, 92, 61, 60, 62] : Bs).contains c) = fun c => !nStop c from rfl, hr1, hr2] at hU
  have hbt := But.of_below hbW b
  clear hc hf hr1 hr2 h hbW
  go_wp2_with fail
  refine hU.mono ?_
  rintro e w1 ⟨rfl, hR, hb1⟩
  replace B2 := B2.but hb1 (by omega)
  replace hbt := hbt.trans hb1
  have hs1 : w.heap.size + 1 ≤ w1.heap.size := by have := hb1.size; omega
  clear hU hb1 hszW
  go_upto_block 0 with fail
  with_reducible refine gen1 (R := fun W => Code.wp Tryz.prog _ _ _ W) ?_
  intro W2 hbW2 hszW2 hc2 hf2
  have G : Box5 W2 w1.heap.size (.int .i64 0) (.string (B n)) (.string ⟨#[]⟩) (.slice none 0 0) (.slice none 0 0) := ⟨hc2 0 _ rfl, hc2 1 _ rfl, hc2 2 _ rfl, hc2 3 _ rfl, hc2 4 _ rfl, hf2, by omega⟩
  replace B2 := B2.later hbW2
  replace hR := hR.later hbW2
  replace hbt := hbt.at_ hbW2 (by omega)
  have hs2 : w1.heap.size + 1 ≤ W2.heap.size := by omega
  clear hc2 hf2 hbW2 hszW2
  rcases hk with ⟨rfl | rfl | rfl, rfl⟩ | ⟨rfl, rfl, rfl⟩ | ⟨rfl, rfl, hp2, hpn⟩
  · rw [show tailF 4 v [] ++ 41 :: t = 61 :: (escF v ++ (partsT [] ++ 41 :: t)) from rfl] at hR hlen2
    have hno : [61, 42, 41].isPrefixOf (61 :: (escF v ++ (partsT [] ++ 41 :: t))) = false := by
      cases v with
      | nil => rfl
      | cons c v =>
        have h1 := esc_no_end (c :: v) (41 :: t) ⟨41, t, rfl, .inl rfl⟩ (.inl (by simp))
        show [42, 41].isPrefixOf (escF (c :: v) ++ (41 :: t)) = false
        cases hx : escF (c :: v) ++ (41 :: t) with
        | nil => rfl
        | cons y ys =>
          rw [hx] at h1
          simp [List.isPrefixOf] at h1 ⊢
          intro e
          exact absurd e h1
    have hT : Calls Tryz.prog 75 #[.pointer (some ⟨b, 0, none⟩), .string ⟨#[62, 61]⟩] W2 _ := take_no hR rfl
    go_wp2_with fail
    refine hT.mono ?_
    rintro e v0 ⟨rfl, hRv0, hbq⟩
    replace B2 := B2.but hbq (by omega)
    replace G := G.but hbq (by omega)
    replace hbt := hbt.trans hbq
    replace hs2 : w1.heap.size + 1 ≤ v0.heap.size := Nat.le_trans hs2 hbq.size
    clear hT hbq
    have hT : Calls Tryz.prog 75 #[.pointer (some ⟨b, 0, none⟩), .string ⟨#[60, 61]⟩] v0 _ := take_no hRv0 rfl
    go_wp2_with fail
    refine hT.mono ?_
    rintro e v1 ⟨rfl, hRv1, hbq⟩
    replace B2 := B2.but hbq (by omega)
    replace G := G.but hbq (by omega)
    replace hbt := hbt.trans hbq
    replace hs2 : w1.heap.size + 1 ≤ v1.heap.size := Nat.le_trans hs2 hbq.size
    clear hT hbq
    have hT : Calls Tryz.prog 75 #[.pointer (some ⟨b, 0, none⟩), .string ⟨#[61, 42, 41]⟩] v1 _ := take_no hRv1 hno
    go_wp2_with fail
    refine hT.mono ?_
    rintro e v2 ⟨rfl, hRv2, hbq⟩
    replace B2 := B2.but hbq (by omega)
    replace G := G.but hbq (by omega)
    replace hbt := hbt.trans hbq
    replace hs2 : w1.heap.size + 1 ≤ v2.heap.size := Nat.le_trans hs2 hbq.size
    clear hT hbq
    have hN : Calls Tryz.prog 74 #[.pointer (some ⟨b, 0, none⟩), .string ⟨#[61]⟩] v2 _ := need_any (pre := [61]) (t := escF v ++ (partsT ([] : List Bs) ++ 41 :: t)) hRv2
    go_wp2_with fail
    refine hN.mono ?_
    rintro e v3 ⟨rfl, hRv3, hbq⟩
    replace B2 := B2.but hbq (by omega)
    replace G := G.but hbq (by omega)
    replace hbt := hbt.trans hbq
    replace hs2 : w1.heap.size + 1 ≤ v3.heap.size := Nat.le_trans hs2 hbq.size
    clear hN hbq hR hRv0 hRv1 hRv2 hno
    have hl3 : (escF v ++ (partsT ([] : List Bs) ++ 41 :: t)).length ≤ 100000 := by simp at hlen2 ⊢; omega
    have hV := value_any b v (partsT ([] : List Bs) ++ 41 :: t) v3 (partsT_end ([] : List Bs) t) hRv3 (by have := escF_ge v; rw [List.length_append] at hl3; omega) (Nat.le_trans hl3 (by decide))
    go_wp2_with fail
    refine hV.mono ?_
    rintro e v4 ⟨rfl, hRv4, hbq⟩
    replace B2 := B2.but hbq (by omega)
    replace G := G.but hbq (by omega)
    replace hbt := hbt.trans hbq
    replace hs2 : w1.heap.size + 1 ≤ v4.heap.size := Nat.le_trans hs2 hbq.size
    clear hV hbq hRv3
    go_upto_block 1 with fail
    with_reducible refine genRow1 (R := fun W => Code.wp Tryz.prog _ _ _ W) ?_
    intro W5 hbW5 hszW5 hown5
    have hRv5 := hRv4.later hbW5
    have hbt5 := But.of_below hbW5 b
    have hl5 : (partsT ([] : List Bs) ++ 41 :: t).length ≤ 100000 := by rw [List.length_append] at hl3; omega
    have hql : ([] : List Bs).length ≤ 100000 := by
      have : ([] : List Bs).length ≤ (partsT ([] : List Bs)).length := by
        have : ∀ l : List Bs, l.length ≤ (partsT l).length := fun l => by
          induction l with
          | nil => exact Nat.zero_le _
          | cons x l ih => rw [partsT_cons, List.length_cons, List.length_cons, List.length_append]; omega
        exact this ([] : List Bs)
      rw [List.length_append] at hl5; omega
    clear hbW5 hszW5 hRv4 hlen2 hlen
    go_wp2_with fail
    go_loopw [4] (fun u wr => ∃ (xs ys : List Bs), wr.ownsRow v4.heap.size 9 1 u xs.length (xs.map sv) ∧ RdAt wr b (partsT ys ++ 41 :: t) ∧ But b v4 wr ∧ Hid (v :: ([] : List Bs) = xs ++ ys) ∧ Hid (0 < xs.length) ∧ Hid ((partsT ys ++ 41 :: t).length ≤ 100000)) (fun u _ => (v :: ([] : List Bs)).length - lenOf u)
    case atStart => exact ⟨[v], ([] : List Bs), hown5, hRv5, hbt5, rfl, Nat.one_pos, hl5⟩
    case round =>
      obtain ⟨xs, ys, hown, hRr, hbr, hxy, hx0, hll⟩ := hrel
      clear hown5 hRv5 hbt5
      obtain ⟨A, c, rfl⟩ := own_shape hown
      obtain ⟨wz, hwz⟩ : ∃ wz : World, wz = wr := ⟨_, rfl⟩
      subst hwz
      have r1 := hRr.r1
      cases ys with
      | cons q ys =>
        have hxl : xs.length ≤ 100000 := by have := congrArg List.length hxy.out; simp at this; omega
        have hrest : partsT (q :: ys) ++ 41 :: t = 42 :: (escF q ++ (partsT ys ++ 41 :: t)) := by rw [partsT_cons, List.cons_append, List.append_assoc]
        rw [hrest] at hRr hll
        have hl7 : (escF q ++ (partsT ys ++ 41 :: t)).length ≤ 100000 := by have := hll.out; rw [List.length_cons] at this; omega
        have hT : Calls Tryz.prog 75 #[.pointer (some ⟨b, 0, none⟩), .string ⟨#[42]⟩] wz _ := take_yes hRr rfl (t := escF q ++ (partsT ys ++ 41 :: t)) rfl
        go_wp2_with fail
        refine hT.mono ?_
        rintro e w6 ⟨rfl, hR6, hb6⟩
        have hown6 := own_but hown hb6 (by omega)
        replace hbr := hbr.trans hb6
        clear hT hRr r1 hown hb6 hrest
        have hV := value_any b q (partsT ys ++ 41 :: t) w6 (partsT_end ys t) hR6 (by have := escF_ge q; rw [List.length_append] at hl7; omega) (Nat.le_trans hl7 (by decide))
        go_wp2_with fail
        refine hV.mono ?_
        rintro e w7 ⟨rfl, hR7, hb7⟩
        have hown7 := own_but hown6 hb7 (by omega)
        replace hbr := hbr.trans hb7
        have hs7 : v4.heap.size ≤ w7.heap.size := hbr.size
        clear hV hR6 hown6 hb7
        go_wp2_with (at_builtin; refine wpList_push w7 rfl _ _ 23 rfl v4.heap.size 9 (.string ⟨#[]⟩) 1 16 Tryz.underlying23 info_str rfl (by decide) _ _ _ hown7 rfl [.string (B q)] rfl rfl (by intro u hu; simp at hu; subst hu; rfl) (by omega) hs7 ?_ rfl)
        intro v8 w8 hown8 hg8 _ hb8 _
        have hR8 := hR7.keep hb8 (by omega)
        have hbr8 := hbr.at_ hb8 (Nat.le_refl _)
        have HX : Hid (v :: ([] : List Bs) = (xs ++ [q]) ++ ys) := by show _ = _; rw [hxy.out, List.append_assoc]; rfl
        have HL : Hid ((partsT ys ++ 41 :: t).length ≤ 100000) := by show _ ≤ _; rw [List.length_append] at hl7; omega
        have h0w : v8.ownBlock = v8.ownBlock := rfl
        obtain ⟨A8, c8, rfl⟩ := own_shape hown8
        have hmz : xs.length + 1 ≤ (v :: ([] : List Bs)).length := by rw [HX.out]; simp
        clear hown7 hg8 hb8 hR7 hbr hxy h0w
        go_wp2_with fail
        go_roundw
        case rel => exact ⟨xs ++ [q], ys, by rw [List.length_append, List.map_append]; exact hown8, hR8, hbr8, HX, by show 0 < _; simp, HL⟩
        case measure => simp only [lenOf]; omega
      | nil =>
        have hT : Calls Tryz.prog 75 #[.pointer (some ⟨b, 0, none⟩), .string ⟨#[42]⟩] wz _ := take_no (rest := 41 :: t) hRr rfl
        have hxe : xs = v :: ([] : List Bs) := by have := hxy.out; rw [List.append_nil] at this; exact this.symm
        subst hxe
        replace B2 := B2.but hbr (by omega)
        replace G := G.but hbr (by omega)
        replace hbt := hbt.trans hbr
        have hsz : v4.heap.size ≤ wz.heap.size := hbr.size
        clear hxy hx0 hll hRr
        go_wp2_with fail
        refine hT.mono ?_
        rintro e w6 ⟨rfl, hR6, hb6⟩
        have hown6 := own_but hown hb6 (by omega)
        replace B2 := B2.but hb6 (by omega)
        replace G := G.but hb6 (by omega)
        replace hbt := hbt.trans hb6
        have hsz6 : v4.heap.size ≤ w6.heap.size := Nat.le_trans hsz hb6.size
        clear hT hown hb6 hbr r1 hsz
        obtain ⟨g, hA, hgc⟩ := own_open hown6 Nat.one_pos
        subst hA
        have e0 : w6.cell? ⟨g, 0, none⟩ = some (.string (B v)) := hgc 0 _ rfl
        have hgb := (hown6.lt g rfl).1
        have hgn1 : ¬ g = w1.heap.size := by omega
        have hgn2 : ¬ w1.heap.size = g := by omega
        clear hgb
        have e0d : w6.drew.cell? ⟨g, 0, none⟩ = some (.string (B v)) := e0
        have g00 := G.c0
        have g02 := G.c2
        have gf0 := G.fz 0
        have gf2 := G.fz 2
        have g00d : w6.drew.cell? ⟨w1.heap.size, 0, none⟩ = some (.int .i64 0) := g00
        have g02d : w6.drew.cell? ⟨w1.heap.size, 2, none⟩ = some (.string ⟨#[]⟩) := g02
        clear hgc hown6
        go_wp2_with fail
        go_region_law (fail)
        all_goals
          have hZ := gen_put02d (R := fun Z => But w1.heap.size w6 Z ∧ Box5 Z w1.heap.size (.int .i64 4) (.string (B n)) (.string (B v)) (.slice none 0 0) (.slice none 0 0) ∧ Z.heap.size = w6.heap.size) (u := .int .i64 4) (u' := .string (B v)) G fun _ h1 h2 h3 => ⟨h1, h2, h3⟩
          obtain ⟨W9, hW9⟩ : ∃ Z : World, Z = ((w6.setCell ⟨w1.heap.size, 0, none⟩ (.int .i64 4)).setCell ⟨w1.heap.size, 2, none⟩ (.string (B v))).drew := ⟨_, rfl⟩
          rw [← hW9] at hZ ⊢
          clear hW9
          obtain ⟨hB9, G9, hs9⟩ := hZ
          replace B2 := B2.but hB9 (by omega)
          have hRf := hR6.but hB9 (by omega)
          replace hbt := hbt.own (hB9.below (show w.heap.size ≤ w1.heap.size by omega) (by omega))
          have hfin := FltN.mk (X := fun j => j < w.heap.size + 1) (w := W9) (d := d) (f := .mk 4 n v [] []) (StrsN.nil _ _) (FltsN.nil _ _ _)
          clear g00 g02 gf0 gf2 g00d g02d G hB9 e0 e0d hR6
          have G := G9
          clear G9
          obtain ⟨d0, d1, d2, d3, d4, df, dl⟩ := G
          obtain ⟨z0, z1, z2, z3, z4, zf, zl⟩ := B2
          have g0 := zf 0
          have g1 := zf 1
          have g2 := zf 2
          have g3 := zf 3
          have g4 := zf 4
          clear zf df
          go_wp2_with fail
          exact bodyPost_ret (v := .agg #[.int .i64 4, .string (B n), .string (B v), .slice none 0 0, .slice none 0 0]) (by simp [results, Tryz.results77, go_sem, z0, z1, z2, z3, z4, g0, g1, g2, g3, g4]) rfl ⟨_, rfl, (hfin.on (Agr.but (put5 w.heap.size _ _ _ _ _ _) (by omega))).sub (fun j _ hj => by omega), hRf.but (put5 w.heap.size _ _ _ _ _ _) (by omega), hbt.own ((put5 w.heap.size _ _ _ _ _ _).below (Nat.le_refl _) (by omega))⟩
  · rw [show tailF 5 v [] ++ 41 :: t = 62 :: 61 :: (escF v ++ 41 :: t) from rfl] at hR hlen2
    have hT : Calls Tryz.prog 75 #[.pointer (some ⟨b, 0, none⟩), .string ⟨#[62, 61]⟩] W2 _ := take_yes hR rfl (t := escF v ++ 41 :: t) rfl
    go_wp2_with fail
    refine hT.mono ?_
    rintro e v1 ⟨rfl, hRv1, hbq⟩
    replace B2 := B2.but hbq (by omega)
    replace G := G.but hbq (by omega)
    replace hbt := hbt.trans hbq
    replace hs2 : w1.heap.size + 1 ≤ v1.heap.size := Nat.le_trans hs2 hbq.size
    clear hT hbq
    have hV := value_any b v (41 :: t) v1 ⟨41, _, rfl, .inl rfl⟩ hRv1 (by have := escF_ge v; simp at hlen2; omega) (by simp at hlen2 ⊢; omega)
    go_wp2_with fail
    refine hV.mono ?_
    rintro e v2 ⟨rfl, hRv2, hbq⟩
    replace B2 := B2.but hbq (by omega)
    replace G := G.but hbq (by omega)
    replace hbt := hbt.trans hbq
    replace hs2 : w1.heap.size + 1 ≤ v2.heap.size := Nat.le_trans hs2 hbq.size
    clear hV hbq
    have g00 := G.c0
    have g02 := G.c2
    have gf0 := G.fz 0
    have gf2 := G.fz 2
    go_upto_region 16 with fail
    with_reducible refine gen_put02 (R := fun W => Code.wp Tryz.prog _ _ _ W) G ?_
    intro W9 hB9 G9 hs9
    replace B2 := B2.but hB9 (by omega)
    have hRf := hRv2.but hB9 (by omega)
    replace hbt := hbt.own (hB9.below (show w.heap.size ≤ w1.heap.size by omega) (by omega))
    have hfin := FltN.mk (X := fun j => j < w.heap.size + 1) (w := W9) (d := d) (f := .mk 5 n v [] []) (StrsN.nil _ _) (FltsN.nil _ _ _)
    clear g00 g02 gf0 gf2 G hB9
    have G := G9
    clear G9
    obtain ⟨d0, d1, d2, d3, d4, df, dl⟩ := G
    obtain ⟨z0, z1, z2, z3, z4, zf, zl⟩ := B2
    have g0 := zf 0
    have g1 := zf 1
    have g2 := zf 2
    have g3 := zf 3
    have g4 := zf 4
    clear zf df
    go_wp2_with fail
    exact bodyPost_ret (v := .agg #[.int .i64 5, .string (B n), .string (B v), .slice none 0 0, .slice none 0 0]) (by simp [results, Tryz.results77, go_sem, z0, z1, z2, z3, z4, g0, g1, g2, g3, g4]) rfl ⟨_, rfl, (hfin.on (Agr.but (put5 w.heap.size _ _ _ _ _ _) (by omega))).sub (fun j _ hj => by omega), hRf.but (put5 w.heap.size _ _ _ _ _ _) (by omega), hbt.own ((put5 w.heap.size _ _ _ _ _ _).below (Nat.le_refl _) (by omega))⟩
  · rw [show tailF 6 v [] ++ 41 :: t = 60 :: 61 :: (escF v ++ 41 :: t) from rfl] at hR hlen2
    have hT : Calls Tryz.prog 75 #[.pointer (some ⟨b, 0, none⟩), .string ⟨#[62, 61]⟩] W2 _ := take_no hR rfl
    go_wp2_with fail
    refine hT.mono ?_
    rintro e v0 ⟨rfl, hRv0, hbq⟩
    replace B2 := B2.but hbq (by omega)
    replace G := G.but hbq (by omega)
    replace hbt := hbt.trans hbq
    replace hs2 : w1.heap.size + 1 ≤ v0.heap.size := Nat.le_trans hs2 hbq.size
    clear hT hbq
    have hT : Calls Tryz.prog 75 #[.pointer (some ⟨b, 0, none⟩), .string ⟨#[60, 61]⟩] v0 _ := take_yes hRv0 rfl (t := escF v ++ 41 :: t) rfl
    go_wp2_with fail
    refine hT.mono ?_
    rintro e v1 ⟨rfl, hRv1, hbq⟩
    replace B2 := B2.but hbq (by omega)
    replace G := G.but hbq (by omega)
    replace hbt := hbt.trans hbq
    replace hs2 : w1.heap.size + 1 ≤ v1.heap.size := Nat.le_trans hs2 hbq.size
    clear hT hbq
    have hV := value_any b v (41 :: t) v1 ⟨41, _, rfl, .inl rfl⟩ hRv1 (by have := escF_ge v; simp at hlen2; omega) (by simp at hlen2 ⊢; omega)
    go_wp2_with fail
    refine hV.mono ?_
    rintro e v2 ⟨rfl, hRv2, hbq⟩
    replace B2 := B2.but hbq (by omega)
    replace G := G.but hbq (by omega)
    replace hbt := hbt.trans hbq
    replace hs2 : w1.heap.size + 1 ≤ v2.heap.size := Nat.le_trans hs2 hbq.size
    clear hV hbq
    have g00 := G.c0
    have g02 := G.c2
    have gf0 := G.fz 0
    have gf2 := G.fz 2
    go_upto_region 16 with fail
    with_reducible refine gen_put02 (R := fun W => Code.wp Tryz.prog _ _ _ W) G ?_
    intro W9 hB9 G9 hs9
    replace B2 := B2.but hB9 (by omega)
    have hRf := hRv2.but hB9 (by omega)
    replace hbt := hbt.own (hB9.below (show w.heap.size ≤ w1.heap.size by omega) (by omega))
    have hfin := FltN.mk (X := fun j => j < w.heap.size + 1) (w := W9) (d := d) (f := .mk 6 n v [] []) (StrsN.nil _ _) (FltsN.nil _ _ _)
    clear g00 g02 gf0 gf2 G hB9
    have G := G9
    clear G9
    obtain ⟨d0, d1, d2, d3, d4, df, dl⟩ := G
    obtain ⟨z0, z1, z2, z3, z4, zf, zl⟩ := B2
    have g0 := zf 0
    have g1 := zf 1
    have g2 := zf 2
    have g3 := zf 3
    have g4 := zf 4
    clear zf df
    go_wp2_with fail
    exact bodyPost_ret (v := .agg #[.int .i64 6, .string (B n), .string (B v), .slice none 0 0, .slice none 0 0]) (by simp [results, Tryz.results77, go_sem, z0, z1, z2, z3, z4, g0, g1, g2, g3, g4]) rfl ⟨_, rfl, (hfin.on (Agr.but (put5 w.heap.size _ _ _ _ _ _) (by omega))).sub (fun j _ hj => by omega), hRf.but (put5 w.heap.size _ _ _ _ _ _) (by omega), hbt.own ((put5 w.heap.size _ _ _ _ _ _).below (Nat.le_refl _) (by omega))⟩
  · rw [show tailF 7 [] [] ++ 41 :: t = 61 :: 42 :: 41 :: t from rfl] at hR hlen2
    have hT : Calls Tryz.prog 75 #[.pointer (some ⟨b, 0, none⟩), .string ⟨#[62, 61]⟩] W2 _ := take_no hR rfl
    go_wp2_with fail
    refine hT.mono ?_
    rintro e v0 ⟨rfl, hRv0, hbq⟩
    replace B2 := B2.but hbq (by omega)
    replace G := G.but hbq (by omega)
    replace hbt := hbt.trans hbq
    replace hs2 : w1.heap.size + 1 ≤ v0.heap.size := Nat.le_trans hs2 hbq.size
    clear hT hbq
    have hT : Calls Tryz.prog 75 #[.pointer (some ⟨b, 0, none⟩), .string ⟨#[60, 61]⟩] v0 _ := take_no hRv0 rfl
    go_wp2_with fail
    refine hT.mono ?_
    rintro e v1 ⟨rfl, hRv1, hbq⟩
    replace B2 := B2.but hbq (by omega)
    replace G := G.but hbq (by omega)
    replace hbt := hbt.trans hbq
    replace hs2 : w1.heap.size + 1 ≤ v1.heap.size := Nat.le_trans hs2 hbq.size
    clear hT hbq
    have hT : Calls Tryz.prog 75 #[.pointer (some ⟨b, 0, none⟩), .string ⟨#[61, 42, 41]⟩] v1 _ := take_yes hRv1 rfl (t := t) rfl
    go_wp2_with fail
    refine hT.mono ?_
    rintro e v2 ⟨rfl, hRv2, hbq⟩
    replace B2 := B2.but hbq (by omega)
    replace G := G.but hbq (by omega)
    replace hbt := hbt.trans hbq
    replace hs2 : w1.heap.size + 1 ≤ v2.heap.size := Nat.le_trans hs2 hbq.size
    clear hT hbq
    have g00 := G.c0
    have gf0 := G.fz 0
    go_upto_region 15 with fail
    with_reducible refine gen_put0 (R := fun W => Code.wp Tryz.prog _ _ _ W) G ?_
    intro W8 hB8 G8 hs8
    replace B2 := B2.but hB8 (by omega)
    have hR8 := hRv2.but hB8 (by omega)
    replace hbt := hbt.own (hB8.below (show w.heap.size ≤ w1.heap.size by omega) (by omega))
    have a1 := fun W => run_add (P := Tryz.prog) (s := ⟨#[41]⟩) (a := [41]) (b := t) rfl rfl (by simp at hlen2 ⊢; omega) W
    have r0 := hR8.r0
    have f0 := hR8.f0
    clear g00 gf0 G hB8
    go_upto_region 16 with fail
    with_reducible refine gen_rd (R := fun W => Code.wp Tryz.prog _ _ _ W) hR8 ?_
    intro W9 hB9 hRf hs9
    replace B2 := B2.but hB9 (by omega)
    have G := G8.but hB9 (by omega)
    replace hbt := hbt.trans hB9
    have hfin := FltN.mk (X := fun j => j < w.heap.size + 1) (w := W9) (d := d) (f := .mk 7 n [] [] []) (StrsN.nil _ _) (FltsN.nil _ _ _)
    clear r0 f0 hR8 hRv2 G8 hB9
    obtain ⟨d0, d1, d2, d3, d4, df, dl⟩ := G
    obtain ⟨z0, z1, z2, z3, z4, zf, zl⟩ := B2
    have g0 := zf 0
    have g1 := zf 1
    have g2 := zf 2
    have g3 := zf 3
    have g4 := zf 4
    clear zf df
    go_wp2_with fail
    exact bodyPost_ret (v := .agg #[.int .i64 7, .string (B n), .string ⟨#[]⟩, .slice none 0 0, .slice none 0 0]) (by simp [results, Tryz.results77, go_sem, z0, z1, z2, z3, z4, g0, g1, g2, g3, g4]) rfl ⟨_, rfl, (hfin.on (Agr.but (put5 w.heap.size _ _ _ _ _ _) (by omega))).sub (fun j _ hj => by omega), hRf.but (put5 w.heap.size _ _ _ _ _ _) (by omega), hbt.own ((put5 w.heap.size _ _ _ _ _ _).below (Nat.le_refl _) (by omega))⟩
  · obtain ⟨q0, qs, rfl⟩ : ∃ q qs, ps = q :: qs := by
      cases ps with
      | nil => simp at hp2
      | cons q qs => exact ⟨q, qs, rfl⟩
    have hq1 : qs ≠ [] := by rintro rfl; simp at hp2
    have hq2 : ¬ qs.length = 0 := fun e => hq1 (List.eq_nil_of_length_eq_zero e)
    have htf : tailF 8 [] (q0 :: qs) ++ 41 :: t = 61 :: (escF q0 ++ (partsT qs ++ 41 :: t)) := by
      show 61 :: ((escF q0 ++ partsT qs) ++ 41 :: t) = _
      rw [List.append_assoc]
    rw [htf] at hR hlen2
    have hno : [61, 42, 41].isPrefixOf (61 :: (escF q0 ++ (partsT qs ++ 41 :: t))) = false := parts_not hq1 hpn t
    have hpl : ∀ x ∈ qs, True := fun _ _ => trivial
    have hT : Calls Tryz.prog 75 #[.pointer (some ⟨b, 0, none⟩), .string ⟨#[62, 61]⟩] W2 _ := take_no hR rfl
    go_wp2_with fail
    refine hT.mono ?_
    rintro e v0 ⟨rfl, hRv0, hbq⟩
    replace B2 := B2.but hbq (by omega)
    replace G := G.but hbq (by omega)
    replace hbt := hbt.trans hbq
    replace hs2 : w1.heap.size + 1 ≤ v0.heap.size := Nat.le_trans hs2 hbq.size
    clear hT hbq
    have hT : Calls Tryz.prog 75 #[.pointer (some ⟨b, 0, none⟩), .string ⟨#[60, 61]⟩] v0 _ := take_no hRv0 rfl
    go_wp2_with fail
    refine hT.mono ?_
    rintro e v1 ⟨rfl, hRv1, hbq⟩
    replace B2 := B2.but hbq (by omega)
    replace G := G.but hbq (by omega)
    replace hbt := hbt.trans hbq
    replace hs2 : w1.heap.size + 1 ≤ v1.heap.size := Nat.le_trans hs2 hbq.size
    clear hT hbq
    have hT : Calls Tryz.prog 75 #[.pointer (some ⟨b, 0, none⟩), .string ⟨#[61, 42, 41]⟩] v1 _ := take_no hRv1 hno
    go_wp2_with fail
    refine hT.mono ?_
    rintro e v2 ⟨rfl, hRv2, hbq⟩
    replace B2 := B2.but hbq (by omega)
    replace G := G.but hbq (by omega)
    replace hbt := hbt.trans hbq
    replace hs2 : w1.heap.size + 1 ≤ v2.heap.size := Nat.le_trans hs2 hbq.size
    clear hT hbq
    have hN : Calls Tryz.prog 74 #[.pointer (some ⟨b, 0, none⟩), .string ⟨#[61]⟩] v2 _ := need_any (pre := [61]) (t := escF q0 ++ (partsT qs ++ 41 :: t)) hRv2
    go_wp2_with fail
    refine hN.mono ?_
    rintro e v3 ⟨rfl, hRv3, hbq⟩
    replace B2 := B2.but hbq (by omega)
    replace G := G.but hbq (by omega)
    replace hbt := hbt.trans hbq
    replace hs2 : w1.heap.size + 1 ≤ v3.heap.size := Nat.le_trans hs2 hbq.size
    clear hN hbq hR hRv0 hRv1 hRv2 hno
    have hl3 : (escF q0 ++ (partsT qs ++ 41 :: t)).length ≤ 100000 := by simp at hlen2 ⊢; omega
    have hV := value_any b q0 (partsT qs ++ 41 :: t) v3 (partsT_end qs t) hRv3 (by have := escF_ge q0; rw [List.length_append] at hl3; omega) (Nat.le_trans hl3 (by decide))
    go_wp2_with fail
    refine hV.mono ?_
    rintro e v4 ⟨rfl, hRv4, hbq⟩
    replace B2 := B2.but hbq (by omega)
    replace G := G.but hbq (by omega)
    replace hbt := hbt.trans hbq
    replace hs2 : w1.heap.size + 1 ≤ v4.heap.size := Nat.le_trans hs2 hbq.size
    clear hV hbq hRv3
    go_upto_block 1 with fail
    with_reducible refine genRow1 (R := fun W => Code.wp Tryz.prog _ _ _ W) ?_
    intro W5 hbW5 hszW5 hown5
    have hRv5 := hRv4.later hbW5
    have hbt5 := But.of_below hbW5 b
    have hl5 : (partsT qs ++ 41 :: t).length ≤ 100000 := by rw [List.length_append] at hl3; omega
    have hql : qs.length ≤ 100000 := by
      have : qs.length ≤ (partsT qs).length := by
        have : ∀ l : List Bs, l.length ≤ (partsT l).length := fun l => by
          induction l with
          | nil => exact Nat.zero_le _
          | cons x l ih => rw [partsT_cons, List.length_cons, List.length_cons, List.length_append]; omega
        exact this qs
      rw [List.length_append] at hl5; omega
    clear hbW5 hszW5 hRv4 hlen2 hlen
    go_wp2_with fail
    go_loopw [4] (fun u wr => ∃ (xs ys : List Bs), wr.ownsRow v4.heap.size 9 1 u xs.length (xs.map sv) ∧ RdAt wr b (partsT ys ++ 41 :: t) ∧ But b v4 wr ∧ Hid (q0 :: qs = xs ++ ys) ∧ Hid (0 < xs.length) ∧ Hid ((partsT ys ++ 41 :: t).length ≤ 100000)) (fun u _ => (q0 :: qs).length - lenOf u)
    case atStart => exact ⟨[q0], qs, hown5, hRv5, hbt5, rfl, Nat.one_pos, hl5⟩
    case round =>
      obtain ⟨xs, ys, hown, hRr, hbr, hxy, hx0, hll⟩ := hrel
      clear hown5 hRv5 hbt5
      obtain ⟨A, c, rfl⟩ := own_shape hown
      obtain ⟨wz, hwz⟩ : ∃ wz : World, wz = wr := ⟨_, rfl⟩
      subst hwz
      have r1 := hRr.r1
      cases ys with
      | cons q ys =>
        have hxl : xs.length ≤ 100000 := by have := congrArg List.length hxy.out; simp at this; omega
        have hrest : partsT (q :: ys) ++ 41 :: t = 42 :: (escF q ++ (partsT ys ++ 41 :: t)) := by rw [partsT_cons, List.cons_append, List.append_assoc]
        rw [hrest] at hRr hll
        have hl7 : (escF q ++ (partsT ys ++ 41 :: t)).length ≤ 100000 := by have := hll.out; rw [List.length_cons] at this; omega
        have hT : Calls Tryz.prog 75 #[.pointer (some ⟨b, 0, none⟩), .string ⟨#[42]⟩] wz _ := take_yes hRr rfl (t := escF q ++ (partsT ys ++ 41 :: t)) rfl
        go_wp2_with fail
        refine hT.mono ?_
        rintro e w6 ⟨rfl, hR6, hb6⟩
        have hown6 := own_but hown hb6 (by omega)
        replace hbr := hbr.trans hb6
        clear hT hRr r1 hown hb6 hrest
        have hV := value_any b q (partsT ys ++ 41 :: t) w6 (partsT_end ys t) hR6 (by have := escF_ge q; rw [List.length_append] at hl7; omega) (Nat.le_trans hl7 (by decide))
        go_wp2_with fail
        refine hV.mono ?_
        rintro e w7 ⟨rfl, hR7, hb7⟩
        have hown7 := own_but hown6 hb7 (by omega)
        replace hbr := hbr.trans hb7
        have hs7 : v4.heap.size ≤ w7.heap.size := hbr.size
        clear hV hR6 hown6 hb7
        go_wp2_with (at_builtin; refine wpList_push w7 rfl _ _ 23 rfl v4.heap.size 9 (.string ⟨#[]⟩) 1 16 Tryz.underlying23 info_str rfl (by decide) _ _ _ hown7 rfl [.string (B q)] rfl rfl (by intro u hu; simp at hu; subst hu; rfl) (by omega) hs7 ?_ rfl)
        intro v8 w8 hown8 hg8 _ hb8 _
        have hR8 := hR7.keep hb8 (by omega)
        have hbr8 := hbr.at_ hb8 (Nat.le_refl _)
        have HX : Hid (q0 :: qs = (xs ++ [q]) ++ ys) := by show _ = _; rw [hxy.out, List.append_assoc]; rfl
        have HL : Hid ((partsT ys ++ 41 :: t).length ≤ 100000) := by show _ ≤ _; rw [List.length_append] at hl7; omega
        have h0w : v8.ownBlock = v8.ownBlock := rfl
        obtain ⟨A8, c8, rfl⟩ := own_shape hown8
        have hmz : xs.length + 1 ≤ (q0 :: qs).length := by rw [HX.out]; simp
        clear hown7 hg8 hb8 hR7 hbr hxy h0w
        go_wp2_with fail
        go_roundw
        case rel => exact ⟨xs ++ [q], ys, by rw [List.length_append, List.map_append]; exact hown8, hR8, hbr8, HX, by show 0 < _; simp, HL⟩
        case measure => simp only [lenOf]; omega
      | nil =>
        have hT : Calls Tryz.prog 75 #[.pointer (some ⟨b, 0, none⟩), .string ⟨#[42]⟩] wz _ := take_no (rest := 41 :: t) hRr rfl
        have hxe : xs = q0 :: qs := by have := hxy.out; rw [List.append_nil] at this; exact this.symm
        subst hxe
        replace B2 := B2.but hbr (by omega)
        replace G := G.but hbr (by omega)
        replace hbt := hbt.trans hbr
        have hsz : v4.heap.size ≤ wz.heap.size := hbr.size
        clear hxy hx0 hll hRr
        go_wp2_with fail
        refine hT.mono ?_
        rintro e w6 ⟨rfl, hR6, hb6⟩
        have hown6 := own_but hown hb6 (by omega)
        replace B2 := B2.but hb6 (by omega)
        replace G := G.but hb6 (by omega)
        replace hbt := hbt.trans hb6
        have hsz6 : v4.heap.size ≤ w6.heap.size := Nat.le_trans hsz hb6.size
        clear hT hown hb6 hbr r1 hsz
        have hlI : (((q0 :: qs).length : Int) == 1) = false := by rw [beq_eq_false_iff_ne, List.length_cons]; omega
        have hlI2 : (((qs.length + 1 : Nat) : Int) == 1) = false := by rw [beq_eq_false_iff_ne]; omega
        have hS := StrsN.own (X := fun j => j < v4.heap.size) hown6 (fun j _ hj => hj)
        have g00 := G.c0
        have g03 := G.c3
        have gf0 := G.fz 0
        have gf3 := G.fz 3
        generalize hnl : (q0 :: qs).length = nl at *
        clear hown6 hnl hq2 hq1
        go_upto_region 16 with fail
        with_reducible refine gen_put03 (R := fun W => Code.wp Tryz.prog _ _ _ W) G ?_
        intro W9 hB9 G9 hs9
        replace B2 := B2.but hB9 (by omega)
        have hRf := hR6.but hB9 (by omega)
        replace hbt := hbt.own (hB9.below (show w.heap.size ≤ w1.heap.size by omega) (by omega))
        have hfin := (FltN.mk (d := d) (f := .mk 8 n [] (q0 :: qs) []) (hS.on (Agr.but hB9 (show w1.heap.size < v4.heap.size by omega))) (FltsN.nil _ _ _)).sub (Y := fun j => j < w.heap.size + 1) (fun j _ hj => by omega)
        clear g00 g03 gf0 gf3 G hB9 hS hR6
        have G := G9
        clear G9
        obtain ⟨d0, d1, d2, d3, d4, df, dl⟩ := G
        obtain ⟨z0, z1, z2, z3, z4, zf, zl⟩ := B2
        have g0 := zf 0
        have g1 := zf 1
        have g2 := zf 2
        have g3 := zf 3
        have g4 := zf 4
        clear zf df
        go_wp2_with fail
        exact bodyPost_ret (v := .agg #[.int .i64 8, .string (B n), .string ⟨#[]⟩, .slice A nl c, .slice none 0 0]) (by simp [results, Tryz.results77, go_sem, z0, z1, z2, z3, z4, g0, g1, g2, g3, g4]) rfl ⟨_, rfl, (hfin.on (Agr.but (put5 w.heap.size _ _ _ _ _ _) (by omega))).sub (fun j _ hj => by omega), hRf.but (put5 w.heap.size _ _ _ _ _ _) (by omega), hbt.own ((put5 w.heap.size _ _ _ _ _ _).below (Nat.le_refl _) (by omega))⟩
end Go.Proofs.YtmamnmjfbadiiaaGreatDoor
/- filter: the reader: kids, filter; Parse of a text that is read back. -/
namespace Go.Proofs.YtmamnmjfbadiiaaGreatDoor
open Go.RowKit Go.Sort
open Idn (L B Bs drop_L take_L size_L)
theorem fTxt_head (f : Flt) : ∃ r, fTxt f = 40 :: r := by
  rw [fTxt_unf]
  unfold txtF
  split
  · exact ⟨_, rfl⟩
  · split
    · exact ⟨_, rfl⟩
    · split
      · exact ⟨_, rfl⟩
      · split
        · exact ⟨_, rfl⟩
        · split
          · exact ⟨_, rfl⟩
          · split
            · exact ⟨_, rfl⟩
            · split <;> exact ⟨_, rfl⟩
theorem lead_no {n : Bs} (hn : rdName n = true) {x : UInt8} (hx : x = 38 ∨ x = 124 ∨ x = 33) (k : Int) (v : Bs) (ps : List Bs) (t : Bs) : [x].isPrefixOf (n ++ (tailF k v ps ++ 41 :: t)) = false := by
  unfold rdName at hn
  rw [Bool.and_eq_true] at hn
  cases n with
  | nil =>
    obtain ⟨c, r, hc, hs⟩ := tail_stop k v ps t
    rw [List.nil_append, hc]
    have : x ≠ c := by
      rintro rfl
      rcases hx with rfl | rfl | rfl <;> revert hs <;> decide
    simp [List.isPrefixOf]
    exact this
  | cons c n =>
    have h2 := hn.2
    have : x ≠ c := by
      rintro rfl
      rcases hx with rfl | rfl | rfl <;> revert h2 <;> simp
    rw [List.cons_append]
    simp [List.isPrefixOf]
    exact this
def RetK (b d : Nat) (ks : List Flt) (rest : Bs) (w : World) (e : Ending) (w' : World) : Prop := ∃ A c, e = .returned (.slice A ks.length c) ∧ FltsN (fun k => k < w.heap.size) w' d (.slice A ks.length c) ks ∧ RdAt w' b rest ∧ But b w w'
set_option maxHeartbeats 4000000 in
set_option maxRecDepth 100000 in
theorem rkids_any (b d : Nat) (ks : List Flt) (t : Bs) (w : World) (hd : 0 < d) (hkl : ks.length ≤ 100000) (h : RdAt w b (fTxts ks ++ 41 :: t)) (hlen : (fTxts ks ++ 41 :: t).length ≤ 100000)
    (ih : ∀ g ∈ ks, ∀ (t : Bs) (w : World), RdAt w b (fTxt g ++ t) → (fTxt g ++ t).length ≤ 100000 → Calls Tryz.prog 41 #[.pointer (some ⟨b, 0, none⟩)] w (RetQ b (d - 1) g t w)) :
    Calls Tryz.prog 76 #[.pointer (some ⟨b, 0, none⟩)] w (RetK b d ks (41 :: t) w) := by
  have hbl := h.lt
  go_enter Tryz.func76, Tryz.ntmps76
  go_wp2_with fail
  go_loopw [3] (fun u wr => ∃ (j : Nat) (A : Option Addr) (c : Nat), j ≤ ks.length ∧ u = .slice A j c ∧ RowF (fun k => k < w.heap.size) wr w.heap.size d (.slice A j c) (ks.take j) ∧ RdAt wr b (fTxts (ks.drop j) ++ 41 :: t) ∧ But b w wr ∧ Hid ((fTxts (ks.drop j) ++ 41 :: t).length ≤ 100000)) (fun u _ => ks.length - lenOf u)
  case atStart => exact ⟨0, none, 0, Nat.zero_le _, rfl, RowF.nil _ _ _ _, h, But.refl _ _, hlen⟩
  case round =>
    obtain ⟨j, A, c, hj9, rfl, hrow, hR, hbt, hll⟩ := hrel
    clear h
    have hlk : (ks.take j).length = j := by rw [List.length_take]; omega
    have r0 := hR.r0
    have r1 := hR.r1
    by_cases hlt : j < ks.length
    · have hdr : fTxts (ks.drop j) ++ 41 :: t = fTxt ks[j] ++ (fTxts (ks.drop (j + 1)) ++ 41 :: t) := by rw [List.drop_eq_getElem_cons hlt, fTxts, List.append_assoc]
      rw [hdr] at hR hll r0
      have hpre : [40].isPrefixOf (fTxt ks[j] ++ (fTxts (ks.drop (j + 1)) ++ 41 :: t)) = true := by
        obtain ⟨r, hr⟩ := fTxt_head ks[j]
        rw [hr]; rfl
      have hH : Calls Tryz.prog 108 #[.string (B (fTxt ks[j] ++ (fTxts (ks.drop (j + 1)) ++ 41 :: t))), .string ⟨#[40]⟩] wr fun e w' => e = .returned (.bool true) ∧ w' = wr := by
        have := Tryz.strings_HasPrefix (B (fTxt ks[j] ++ (fTxts (ks.drop (j + 1)) ++ 41 :: t))) ⟨#[40]⟩ wr
        rw [show Lib.hasPrefix (B (fTxt ks[j] ++ (fTxts (ks.drop (j + 1)) ++ 41 :: t))).data.toList (⟨#[40]⟩ : ByteArray).data.toList = [40].isPrefixOf (fTxt ks[j] ++ (fTxts (ks.drop (j + 1)) ++ 41 :: t)) from rfl, hpre] at this
        exact this
      have hcall := ih ks[j] (List.getElem_mem hlt) (fTxts (ks.drop (j + 1)) ++ 41 :: t) wr hR hll.out
      have hl2 : Hid ((fTxts (ks.drop (j + 1)) ++ 41 :: t).length ≤ 100000) := by
        have := hll.out
        rw [List.length_append] at this
        show _ ≤ _; omega
      have hlt5 := fun i hi => (hrow.lt i hi).2
      have hdd : d - 1 + 1 = d := by omega
      have hsw := hbt.size
      generalize hrt : fTxts (ks.drop (j + 1)) ++ 41 :: t = rt at *
      have HRT := Lib.hid hrt
      clear hdr hpre hll hR ih hrt
      go_wp2_with fail
      refine hH.mono ?_
      rintro e wd ⟨rfl, rfl⟩
      clear hH r0 r1
      go_wp2_with fail
      refine hcall.mono ?_
      rintro e w6 ⟨r6, rfl, hn6, hR6, hb6⟩
      obtain ⟨Ap6, cp6, Ak6, ck6, hr6⟩ := hn6.shape
      subst hr6
      obtain ⟨xs, x1, x2, x3, x4, x5⟩ := hrow.on (Agr.but hb6 hbl)
      rw [hlk] at x3
      have hF6 := FCN.of hn6
      rw [hdd] at hF6
      have hbt6 := hbt.trans hb6
      have hs6 : w.heap.size ≤ w6.heap.size := hbt6.size
      clear hcall hrow hn6
      go_wp2_with (at_builtin; refine wpList_push w6 rfl _ _ 24 rfl w.heap.size 26 (.agg #[.int .i64 0, .string ⟨#[]⟩, .string ⟨#[]⟩, .slice none 0 0, .slice none 0 0]) 5 88 Tryz.underlying24 info_flt rfl (by decide) _ _ _ x3 rfl [.int .i64 ks[j].kind, .string (B ks[j].name), .string (B ks[j].value), .slice Ap6 ks[j].parts.length cp6, .slice Ak6 ks[j].kids.length ck6] rfl rfl (by intro u hu; simp at hu; rcases hu with rfl | rfl | rfl | rfl | rfl <;> rfl) (by omega) hs6 ?_ rfl)
      intro v7 w7 hown7 hg7 hat7 hb7 _
      have hrow7 := RowF.push (Y := fun k => k < wd.heap.size) hlk x1 x2 x4 x5 rfl hF6 (fun i _ hi => by
        rcases hi with hi | hi
        · exact Nat.lt_of_lt_of_le hi hsw
        · exact hlt5 i hi) (fun i hi => Nat.lt_of_lt_of_le hi hs6) hown7 hg7 hat7
      rw [← List.take_succ_eq_append_getElem hlt] at hrow7
      obtain ⟨A7, c7, rfl⟩ := own_shape hown7
      have hR7 := hR6.keep hb7 hbl
      have hbt7 := hbt6.at_ hb7 (Nat.le_refl _)
      clear hown7 hg7 hat7 x1 x2 x3 x4 x5 hF6 hlt5 hb7 hR6
      go_wp2_with fail
      go_roundw
      case rel => exact ⟨j + 1, A7, c7, by omega, rfl, hrow7, by rw [HRT.out]; exact hR7, hbt7, by rw [HRT.out]; exact hl2⟩
      case measure => simp only [lenOf]; omega
    · have hjj : j = ks.length := by omega
      subst hjj
      rw [List.drop_eq_nil_of_le (Nat.le_refl _)] at hR r0
      rw [List.take_of_length_le (Nat.le_refl _)] at hrow
      have hH : Calls Tryz.prog 108 #[.string (B (fTxts [] ++ 41 :: t)), .string ⟨#[40]⟩] wr fun e w' => e = .returned (.bool false) ∧ w' = wr := by
        have := Tryz.strings_HasPrefix (B (fTxts [] ++ 41 :: t)) ⟨#[40]⟩ wr
        rw [show Lib.hasPrefix (B (fTxts [] ++ 41 :: t)).data.toList (⟨#[40]⟩ : ByteArray).data.toList = false from rfl] at this
        exact this
      clear ih hll
      go_wp2_with fail
      refine hH.mono ?_
      rintro e wd ⟨rfl, rfl⟩
      go_wp2_with fail
      go_ret
      exact ⟨_, _, rfl, hrow.read, hR, hbt⟩
set_option maxHeartbeats 8000000 in
set_option maxRecDepth 100000 in
theorem rfilter_any : ∀ (f : Flt), rdOk f → ∀ (d : Nat), fDep f ≤ d → ∀ (t : Bs) (b : Nat) (w : World), RdAt w b (fTxt f ++ t) → (fTxt f ++ t).length ≤ 100000 →
    Calls Tryz.prog 41 #[.pointer (some ⟨b, 0, none⟩)] w (RetQ b d f t w) := by
  intro f
  induction f using Flt.ind with
  | h k n v ps ks ih =>
  intro hok d hd t b w h hlen
  have hbl := h.lt
  rw [fDep] at hd
  have hd0 : 0 < d := by omega
  have ihk : ∀ g ∈ ks, ∀ (t : Bs) (w : World), rdOk g → RdAt w b (fTxt g ++ t) → (fTxt g ++ t).length ≤ 100000 → Calls Tryz.prog 41 #[.pointer (some ⟨b, 0, none⟩)] w (RetQ b (d - 1) g t w) := fun g hg t w ho hr hl =>
    ih g hg ho (d - 1) (by have := (fDeps_le (l := ks) (n := fDeps ks)).1 (Nat.le_refl _) g hg; omega) t b w hr hl
  rw [rdOk] at hok
  have hksl : ks.length ≤ (fTxts ks).length := by
    have : ∀ l : List Flt, l.length ≤ (fTxts l).length := fun l => by
      induction l with
      | nil => exact Nat.zero_le _
      | cons g l ihl =>
        obtain ⟨r, hr⟩ := fTxt_head g
        rw [fTxts, hr, List.length_append, List.length_cons, List.length_cons]; omega
    exact this ks
  clear ih hd
  rcases hok with ⟨hk, rfl, rfl, rfl, hks⟩ | ⟨hn, rfl, hkk⟩
  · rcases hk with rfl | rfl | ⟨rfl, hk1⟩
    · have htx : fTxt (.mk 1 [] [] [] ks) ++ t = 40 :: (38 :: (fTxts ks ++ 41 :: t)) := by
        rw [fTxt]
        show 40 :: 38 :: ((fTxts ks ++ [41]) ++ t) = _
        rw [List.append_assoc]; rfl
      rw [htx] at h hlen
      have hl1 : (fTxts ks ++ 41 :: t).length ≤ 100000 := by rw [List.length_cons, List.length_cons] at hlen; omega
      go_enter Tryz.func41, Tryz.ntmps41
      go_upto_region 2 with fail
      with_reducible refine gen2g (R := fun W => Code.wp Tryz.prog _ _ _ W) ?_
      intro W hbW hszW hc1 hc2 hf1 hf2
      have B2 : Box5 W w.heap.size (.int .i64 0) (.string ⟨#[]⟩) (.string ⟨#[]⟩) (.slice none 0 0) (.slice none 0 0) := ⟨hc1 0 _ rfl, hc1 1 _ rfl, hc1 2 _ rfl, hc1 3 _ rfl, hc1 4 _ rfl, hf1, by omega⟩
      have G : Box5 W (w.heap.size + 1) (.int .i64 0) (.string ⟨#[]⟩) (.string ⟨#[]⟩) (.slice none 0 0) (.slice none 0 0) := ⟨hc2 0 _ rfl, hc2 1 _ rfl, hc2 2 _ rfl, hc2 3 _ rfl, hc2 4 _ rfl, hf2, by omega⟩
      have hR := h.later hbW
      have hbt := But.of_below hbW b
      have hs2 : w.heap.size + 2 ≤ W.heap.size := by omega
      clear hc1 hc2 hf1 hf2 hszW hbW h
      have hN : Calls Tryz.prog 74 #[.pointer (some ⟨b, 0, none⟩), .string ⟨#[40]⟩] W _ := need_any (pre := [40]) (t := 38 :: (fTxts ks ++ 41 :: t)) hR
      go_wp2_with fail
      refine hN.mono ?_
      rintro e v0 ⟨rfl, hRv0, hbq⟩
      replace B2 := B2.but hbq (by omega)
      replace G := G.but hbq (by omega)
      replace hbt := hbt.trans hbq
      replace hs2 : w.heap.size + 2 ≤ v0.heap.size := Nat.le_trans hs2 hbq.size
      clear hN hbq hR
      have hT : Calls Tryz.prog 75 #[.pointer (some ⟨b, 0, none⟩), .string ⟨#[38]⟩] v0 _ := take_yes hRv0 rfl (t := fTxts ks ++ 41 :: t) rfl
      go_wp2_with fail
      refine hT.mono ?_
      rintro e v1 ⟨rfl, hRv1, hbq⟩
      replace B2 := B2.but hbq (by omega)
      replace G := G.but hbq (by omega)
      replace hbt := hbt.trans hbq
      replace hs2 : w.heap.size + 2 ≤ v1.heap.size := Nat.le_trans hs2 hbq.size
      clear hT hbq hRv0
      have hK := rkids_any b d ks t v1 hd0 (by rw [List.length_append] at hl1; omega) hRv1 hl1 (fun g hg t w hr hl => ihk g hg t w (rdOks_all.1 hks g hg) hr hl)
      clear ihk
      go_wp2_with fail
      refine hK.mono ?_
      rintro e v5 ⟨A5, c5, rfl, hF5, hR5, hbq⟩
      replace B2 := B2.but hbq (by omega)
      replace G := G.but hbq (by omega)
      replace hbt := hbt.trans hbq
      have hs3 : w.heap.size + 2 ≤ v5.heap.size := Nat.le_trans hs2 hbq.size
      have hF6 := hF5.sub (Y := fun j => j < w.heap.size + 2) (fun j _ hj => by omega)
      clear hK hbq hRv1 hF5
      have g00 := G.c0
      have g04 := G.c4
      have gf0 := G.fz 0
      have gf4 := G.fz 4
      go_upto_region 10 with fail
      with_reducible refine gen_put04 (R := fun W => Code.wp Tryz.prog _ _ _ W) G ?_
      intro W9 hB9 G9 hs9
      replace B2 := B2.but hB9 (by omega)
      have hR9 := hR5.but hB9 (by omega)
      replace hbt := hbt.own (hB9.below (Nat.le_succ _) (by omega))
      have hfin := FltN.mk (f := .mk 1 [] [] [] ks) (StrsN.nil _ _) (hF6.on (Agr.but hB9 (by omega)))
      clear g00 g04 gf0 gf4 G hB9 hR5 hF6
      have G := G9
      clear G9
      have hN : Calls Tryz.prog 74 #[.pointer (some ⟨b, 0, none⟩), .string ⟨#[41]⟩] W9 _ := need_any (pre := [41]) (t := t) hR9
      go_wp2_with fail
      refine hN.mono ?_
      rintro e w10 ⟨rfl, hRf, hbq⟩
      replace B2 := B2.but hbq (by omega)
      replace G := G.but hbq (by omega)
      replace hbt := hbt.trans hbq
      replace hfin := hfin.on (Agr.but hbq (show b < w.heap.size + 2 by omega))
      clear hN hbq hR9
      obtain ⟨d0, d1, d2, d3, d4, df, dl⟩ := G
      obtain ⟨z0, z1, z2, z3, z4, zf, zl⟩ := B2
      have g0 := zf 0
      have g1 := zf 1
      have g2 := zf 2
      have g3 := zf 3
      have g4 := zf 4
      clear zf df
      go_wp2_with fail
      exact bodyPost_ret (v := .agg #[.int .i64 1, .string ⟨#[]⟩, .string ⟨#[]⟩, .slice none 0 0, .slice A5 ks.length c5]) (by simp [results, Tryz.results41, go_sem, z0, z1, z2, z3, z4, g0, g1, g2, g3, g4]) rfl ⟨_, rfl, (hfin.on (Agr.but (put5 w.heap.size _ _ _ _ _ _) (by omega))).sub (fun j _ hj => by omega), hRf.but (put5 w.heap.size _ _ _ _ _ _) (by omega), hbt.own ((put5 w.heap.size _ _ _ _ _ _).below (Nat.le_refl _) hbt.size)⟩
    · have htx : fTxt (.mk 2 [] [] [] ks) ++ t = 40 :: (124 :: (fTxts ks ++ 41 :: t)) := by
        rw [fTxt]
        show 40 :: 124 :: ((fTxts ks ++ [41]) ++ t) = _
        rw [List.append_assoc]; rfl
      rw [htx] at h hlen
      have hl1 : (fTxts ks ++ 41 :: t).length ≤ 100000 := by rw [List.length_cons, List.length_cons] at hlen; omega
      go_enter Tryz.func41, Tryz.ntmps41
      go_upto_region 2 with fail
      with_reducible refine gen2g (R := fun W => Code.wp Tryz.prog _ _ _ W) ?_
      intro W hbW hszW hc1 hc2 hf1 hf2
      have B2 : Box5 W w.heap.size (.int .i64 0) (.string ⟨#[]⟩) (.string ⟨#[]⟩) (.slice none 0 0) (.slice none 0 0) := ⟨hc1 0 _ rfl, hc1 1 _ rfl, hc1 2 _ rfl, hc1 3 _ rfl, hc1 4 _ rfl, hf1, by omega⟩
      have G : Box5 W (w.heap.size + 1) (.int .i64 0) (.string ⟨#[]⟩) (.string ⟨#[]⟩) (.slice none 0 0) (.slice none 0 0) := ⟨hc2 0 _ rfl, hc2 1 _ rfl, hc2 2 _ rfl, hc2 3 _ rfl, hc2 4 _ rfl, hf2, by omega⟩
      have hR := h.later hbW
      have hbt := But.of_below hbW b
      have hs2 : w.heap.size + 2 ≤ W.heap.size := by omega
      clear hc1 hc2 hf1 hf2 hszW hbW h
      have hN : Calls Tryz.prog 74 #[.pointer (some ⟨b, 0, none⟩), .string ⟨#[40]⟩] W _ := need_any (pre := [40]) (t := 124 :: (fTxts ks ++ 41 :: t)) hR
      go_wp2_with fail
      refine hN.mono ?_
      rintro e v0 ⟨rfl, hRv0, hbq⟩
      replace B2 := B2.but hbq (by omega)
      replace G := G.but hbq (by omega)
      replace hbt := hbt.trans hbq
      replace hs2 : w.heap.size + 2 ≤ v0.heap.size := Nat.le_trans hs2 hbq.size
      clear hN hbq hR
      have hT : Calls Tryz.prog 75 #[.pointer (some ⟨b, 0, none⟩), .string ⟨#[38]⟩] v0 _ := take_no hRv0 rfl
      go_wp2_with fail
      refine hT.mono ?_
      rintro e v1 ⟨rfl, hRv1, hbq⟩
      replace B2 := B2.but hbq (by omega)
      replace G := G.but hbq (by omega)
      replace hbt := hbt.trans hbq
      replace hs2 : w.heap.size + 2 ≤ v1.heap.size := Nat.le_trans hs2 hbq.size
      clear hT hbq hRv0
      have hT : Calls Tryz.prog 75 #[.pointer (some ⟨b, 0, none⟩), .string ⟨#[124]⟩] v1 _ := take_yes hRv1 rfl (t := fTxts ks ++ 41 :: t) rfl
      go_wp2_with fail
      refine hT.mono ?_
      rintro e v2 ⟨rfl, hRv2, hbq⟩
      replace B2 := B2.but hbq (by omega)
      replace G := G.but hbq (by omega)
      replace hbt := hbt.trans hbq
      replace hs2 : w.heap.size + 2 ≤ v2.heap.size := Nat.le_trans hs2 hbq.size
      clear hT hbq hRv1
      have hK := rkids_any b d ks t v2 hd0 (by rw [List.length_append] at hl1; omega) hRv2 hl1 (fun g hg t w hr hl => ihk g hg t w (rdOks_all.1 hks g hg) hr hl)
      clear ihk
      go_wp2_with fail
      refine hK.mono ?_
      rintro e v5 ⟨A5, c5, rfl, hF5, hR5, hbq⟩
      replace B2 := B2.but hbq (by omega)
      replace G := G.but hbq (by omega)
      replace hbt := hbt.trans hbq
      have hs3 : w.heap.size + 2 ≤ v5.heap.size := Nat.le_trans hs2 hbq.size
      have hF6 := hF5.sub (Y := fun j => j < w.heap.size + 2) (fun j _ hj => by omega)
      clear hK hbq hRv2 hF5
      have g00 := G.c0
      have g04 := G.c4
      have gf0 := G.fz 0
      have gf4 := G.fz 4
      go_upto_region 10 with fail
      with_reducible refine gen_put04 (R := fun W => Code.wp Tryz.prog _ _ _ W) G ?_
      intro W9 hB9 G9 hs9
      replace B2 := B2.but hB9 (by omega)
      have hR9 := hR5.but hB9 (by omega)
      replace hbt := hbt.own (hB9.below (Nat.le_succ _) (by omega))
      have hfin := FltN.mk (f := .mk 2 [] [] [] ks) (StrsN.nil _ _) (hF6.on (Agr.but hB9 (by omega)))
      clear g00 g04 gf0 gf4 G hB9 hR5 hF6
      have G := G9
      clear G9
      have hN : Calls Tryz.prog 74 #[.pointer (some ⟨b, 0, none⟩), .string ⟨#[41]⟩] W9 _ := need_any (pre := [41]) (t := t) hR9
      go_wp2_with fail
      refine hN.mono ?_
      rintro e w10 ⟨rfl, hRf, hbq⟩
      replace B2 := B2.but hbq (by omega)
      replace G := G.but hbq (by omega)
      replace hbt := hbt.trans hbq
      replace hfin := hfin.on (Agr.but hbq (show b < w.heap.size + 2 by omega))
      clear hN hbq hR9
      obtain ⟨d0, d1, d2, d3, d4, df, dl⟩ := G
      obtain ⟨z0, z1, z2, z3, z4, zf, zl⟩ := B2
      have g0 := zf 0
      have g1 := zf 1
      have g2 := zf 2
      have g3 := zf 3
      have g4 := zf 4
      clear zf df
      go_wp2_with fail
      exact bodyPost_ret (v := .agg #[.int .i64 2, .string ⟨#[]⟩, .string ⟨#[]⟩, .slice none 0 0, .slice A5 ks.length c5]) (by simp [results, Tryz.results41, go_sem, z0, z1, z2, z3, z4, g0, g1, g2, g3, g4]) rfl ⟨_, rfl, (hfin.on (Agr.but (put5 w.heap.size _ _ _ _ _ _) (by omega))).sub (fun j _ hj => by omega), hRf.but (put5 w.heap.size _ _ _ _ _ _) (by omega), hbt.own ((put5 w.heap.size _ _ _ _ _ _).below (Nat.le_refl _) hbt.size)⟩
    · obtain ⟨g, rfl⟩ := one_kid hk1
      have htx : fTxt (.mk 3 [] [] [] [g]) ++ t = 40 :: (33 :: (fTxt g ++ 41 :: t)) := by
        rw [fTxt, fTxts, fTxts, List.append_nil]
        show 40 :: 33 :: ((fTxt g ++ [41]) ++ t) = _
        rw [List.append_assoc]; rfl
      rw [htx] at h hlen
      have hl1 : (fTxt g ++ 41 :: t).length ≤ 100000 := by rw [List.length_cons, List.length_cons] at hlen; omega
      go_enter Tryz.func41, Tryz.ntmps41
      go_upto_region 2 with fail
      with_reducible refine gen2g (R := fun W => Code.wp Tryz.prog _ _ _ W) ?_
      intro W hbW hszW hc1 hc2 hf1 hf2
      have B2 : Box5 W w.heap.size (.int .i64 0) (.string ⟨#[]⟩) (.string ⟨#[]⟩) (.slice none 0 0) (.slice none 0 0) := ⟨hc1 0 _ rfl, hc1 1 _ rfl, hc1 2 _ rfl, hc1 3 _ rfl, hc1 4 _ rfl, hf1, by omega⟩
      have G : Box5 W (w.heap.size + 1) (.int .i64 0) (.string ⟨#[]⟩) (.string ⟨#[]⟩) (.slice none 0 0) (.slice none 0 0) := ⟨hc2 0 _ rfl, hc2 1 _ rfl, hc2 2 _ rfl, hc2 3 _ rfl, hc2 4 _ rfl, hf2, by omega⟩
      have hR := h.later hbW
      have hbt := But.of_below hbW b
      have hs2 : w.heap.size + 2 ≤ W.heap.size := by omega
      clear hc1 hc2 hf1 hf2 hszW hbW h
      have hN : Calls Tryz.prog 74 #[.pointer (some ⟨b, 0, none⟩), .string ⟨#[40]⟩] W _ := need_any (pre := [40]) (t := 33 :: (fTxt g ++ 41 :: t)) hR
      go_wp2_with fail
      refine hN.mono ?_
      rintro e v0 ⟨rfl, hRv0, hbq⟩
      replace B2 := B2.but hbq (by omega)
      replace G := G.but hbq (by omega)
      replace hbt := hbt.trans hbq
      replace hs2 : w.heap.size + 2 ≤ v0.heap.size := Nat.le_trans hs2 hbq.size
      clear hN hbq hR
      have hT : Calls Tryz.prog 75 #[.pointer (some ⟨b, 0, none⟩), .string ⟨#[38]⟩] v0 _ := take_no hRv0 rfl
      go_wp2_with fail
      refine hT.mono ?_
      rintro e v1 ⟨rfl, hRv1, hbq⟩
      replace B2 := B2.but hbq (by omega)
      replace G := G.but hbq (by omega)
      replace hbt := hbt.trans hbq
      replace hs2 : w.heap.size + 2 ≤ v1.heap.size := Nat.le_trans hs2 hbq.size
      clear hT hbq hRv0
      have hT : Calls Tryz.prog 75 #[.pointer (some ⟨b, 0, none⟩), .string ⟨#[124]⟩] v1 _ := take_no hRv1 rfl
      go_wp2_with fail
      refine hT.mono ?_
      rintro e v2 ⟨rfl, hRv2, hbq⟩
      replace B2 := B2.but hbq (by omega)
      replace G := G.but hbq (by omega)
      replace hbt := hbt.trans hbq
      replace hs2 : w.heap.size + 2 ≤ v2.heap.size := Nat.le_trans hs2 hbq.size
      clear hT hbq hRv1
      have hT : Calls Tryz.prog 75 #[.pointer (some ⟨b, 0, none⟩), .string ⟨#[33]⟩] v2 _ := take_yes hRv2 rfl (t := fTxt g ++ 41 :: t) rfl
      go_wp2_with fail
      refine hT.mono ?_
      rintro e v3 ⟨rfl, hRv3, hbq⟩
      replace B2 := B2.but hbq (by omega)
      replace G := G.but hbq (by omega)
      replace hbt := hbt.trans hbq
      replace hs2 : w.heap.size + 2 ≤ v3.heap.size := Nat.le_trans hs2 hbq.size
      clear hT hbq hRv2
      have hK := ihk g List.mem_cons_self (41 :: t) v3 (rdOks_all.1 hks g List.mem_cons_self) hRv3 hl1
      clear ihk
      go_wp2_with fail
      refine hK.mono ?_
      rintro e v5 ⟨r5, rfl, hn5, hR5, hbq⟩
      obtain ⟨Ap5, cp5, Ak5, ck5, hr5⟩ := hn5.shape
      subst hr5
      replace B2 := B2.but hbq (by omega)
      replace G := G.but hbq (by omega)
      replace hbt := hbt.trans hbq
      have hs3 : w.heap.size + 2 ≤ v5.heap.size := Nat.le_trans hs2 hbq.size
      have hdd : d - 1 + 1 = d := by omega
      have hF5 := FCN.of (hn5.sub (Y := fun j => j < w.heap.size + 2) (fun j _ hj => by omega))
      rw [hdd] at hF5
      have hF6 := FltsN.one hF5 (fun j hj => by omega)
      have hal : Below v5.heap.size v5 (v5.alloc (.cells #[.int .i64 g.kind, .string (B g.name), .string (B g.value), .slice Ap5 g.parts.length cp5, .slice Ak5 g.kids.length ck5] 26)) := (Below.refl _ _).alloc (Nat.le_refl _) _
      replace B2 := B2.later hal
      replace G := G.later hal
      replace hR5 := hR5.later hal
      replace hbt := hbt.at_ hal hbt.size
      have hs4 := Nat.le_trans hs3 hal.size
      clear hK hbq hRv3 hn5 hF5 hal
      have g00 := G.c0
      have g04 := G.c4
      have gf0 := G.fz 0
      have gf4 := G.fz 4
      go_upto_region 10 with fail
      with_reducible refine gen_put04 (R := fun W => Code.wp Tryz.prog _ _ _ W) G ?_
      intro W9 hB9 G9 hs9
      replace B2 := B2.but hB9 (by omega)
      have hR9 := hR5.but hB9 (by omega)
      replace hbt := hbt.own (hB9.below (Nat.le_succ _) (by omega))
      have hfin := FltN.mk (f := .mk 3 [] [] [] [g]) (StrsN.nil _ _) (hF6.on (Agr.but hB9 (by omega)))
      clear g00 g04 gf0 gf4 G hB9 hR5 hF6
      have G := G9
      clear G9
      have hN : Calls Tryz.prog 74 #[.pointer (some ⟨b, 0, none⟩), .string ⟨#[41]⟩] W9 _ := need_any (pre := [41]) (t := t) hR9
      go_wp2_with fail
      refine hN.mono ?_
      rintro e w10 ⟨rfl, hRf, hbq⟩
      replace B2 := B2.but hbq (by omega)
      replace G := G.but hbq (by omega)
      replace hbt := hbt.trans hbq
      replace hfin := hfin.on (Agr.but hbq (show b < w.heap.size + 2 by omega))
      clear hN hbq hR9
      obtain ⟨d0, d1, d2, d3, d4, df, dl⟩ := G
      obtain ⟨z0, z1, z2, z3, z4, zf, zl⟩ := B2
      have g0 := zf 0
      have g1 := zf 1
      have g2 := zf 2
      have g3 := zf 3
      have g4 := zf 4
      clear zf df
      go_wp2_with fail
      exact bodyPost_ret (v := .agg #[.int .i64 3, .string ⟨#[]⟩, .string ⟨#[]⟩, .slice none 0 0, .slice (some ⟨v5.heap.size, 0, none⟩) 1 1]) (by simp [results, Tryz.results41, go_sem, z0, z1, z2, z3, z4, g0, g1, g2, g3, g4]) rfl ⟨_, rfl, (hfin.on (Agr.but (put5 w.heap.size _ _ _ _ _ _) (by omega))).sub (fun j _ hj => by omega), hRf.but (put5 w.heap.size _ _ _ _ _ _) (by omega), hbt.own ((put5 w.heap.size _ _ _ _ _ _).below (Nat.le_refl _) hbt.size)⟩
  · have hcmp : isCmp k = true := by unfold isCmp; rw [Bool.and_eq_true, decide_eq_true_eq, decide_eq_true_eq]; omega
    have htx : fTxt (.mk k n v ps []) ++ t = 40 :: (n ++ (tailF k v ps ++ 41 :: t)) := by
      rw [txt_cmp hcmp]
      show 40 :: ((n ++ (tailF k v ps ++ [41])) ++ t) = _
      rw [List.append_assoc, List.append_assoc]; rfl
    rw [htx] at h hlen
    have hl1 : (n ++ (tailF k v ps ++ 41 :: t)).length ≤ 100000 := by rw [List.length_cons] at hlen; omega
    have n1 := lead_no hn (.inl rfl) k v ps t
    have n2 := lead_no hn (.inr (.inl rfl)) k v ps t
    have n3 := lead_no hn (.inr (.inr rfl)) k v ps t
    go_enter Tryz.func41, Tryz.ntmps41
    go_upto_region 2 with fail
    with_reducible refine gen2g (R := fun W => Code.wp Tryz.prog _ _ _ W) ?_
    intro W hbW hszW hc1 hc2 hf1 hf2
    have B2 : Box5 W w.heap.size (.int .i64 0) (.string ⟨#[]⟩) (.string ⟨#[]⟩) (.slice none 0 0) (.slice none 0 0) := ⟨hc1 0 _ rfl, hc1 1 _ rfl, hc1 2 _ rfl, hc1 3 _ rfl, hc1 4 _ rfl, hf1, by omega⟩
    have G : Box5 W (w.heap.size + 1) (.int .i64 0) (.string ⟨#[]⟩) (.string ⟨#[]⟩) (.slice none 0 0) (.slice none 0 0) := ⟨hc2 0 _ rfl, hc2 1 _ rfl, hc2 2 _ rfl, hc2 3 _ rfl, hc2 4 _ rfl, hf2, by omega⟩
    have hR := h.later hbW
    have hbt := But.of_below hbW b
    have hs2 : w.heap.size + 2 ≤ W.heap.size := by omega
    clear hc1 hc2 hf1 hf2 hszW hbW h
    have hN : Calls Tryz.prog 74 #[.pointer (some ⟨b, 0, none⟩), .string ⟨#[40]⟩] W _ := need_any (pre := [40]) (t := n ++ (tailF k v ps ++ 41 :: t)) hR
    go_wp2_with fail
    refine hN.mono ?_
    rintro e v0 ⟨rfl, hRv0, hbq⟩
    replace B2 := B2.but hbq (by omega)
    replace G := G.but hbq (by omega)
    replace hbt := hbt.trans hbq
    replace hs2 : w.heap.size + 2 ≤ v0.heap.size := Nat.le_trans hs2 hbq.size
    clear hN hbq hR
    have hT : Calls Tryz.prog 75 #[.pointer (some ⟨b, 0, none⟩), .string ⟨#[38]⟩] v0 _ := take_no hRv0 n1
    go_wp2_with fail
    refine hT.mono ?_
    rintro e v1 ⟨rfl, hRv1, hbq⟩
    replace B2 := B2.but hbq (by omega)
    replace G := G.but hbq (by omega)
    replace hbt := hbt.trans hbq
    replace hs2 : w.heap.size + 2 ≤ v1.heap.size := Nat.le_trans hs2 hbq.size
    clear hT hbq hRv0
    have hT : Calls Tryz.prog 75 #[.pointer (some ⟨b, 0, none⟩), .string ⟨#[124]⟩] v1 _ := take_no hRv1 n2
    go_wp2_with fail
    refine hT.mono ?_
    rintro e v2 ⟨rfl, hRv2, hbq⟩
    replace B2 := B2.but hbq (by omega)
    replace G := G.but hbq (by omega)
    replace hbt := hbt.trans hbq
    replace hs2 : w.heap.size + 2 ≤ v2.heap.size := Nat.le_trans hs2 hbq.size
    clear hT hbq hRv1
    have hT : Calls Tryz.prog 75 #[.pointer (some ⟨b, 0, none⟩), .string ⟨#[33]⟩] v2 _ := take_no hRv2 n3
    go_wp2_with fail
    refine hT.mono ?_
    rintro e v3 ⟨rfl, hRv3, hbq⟩
    replace B2 := B2.but hbq (by omega)
    replace G := G.but hbq (by omega)
    replace hbt := hbt.trans hbq
    replace hs2 : w.heap.size + 2 ≤ v3.heap.size := Nat.le_trans hs2 hbq.size
    clear hT hbq hRv2
    have hK := rcomp_any b d k n v ps t v3 hn hkk hRv3 hl1
    clear ihk n1 n2 n3
    go_wp2_with fail
    refine hK.mono ?_
    rintro e v5 ⟨r5, rfl, hn5, hR5, hbq⟩
    obtain ⟨Ap5, cp5, Ak5, ck5, hr5⟩ := hn5.shape
    subst hr5
    replace B2 := B2.but hbq (by omega)
    replace G := G.but hbq (by omega)
    replace hbt := hbt.trans hbq
    have hs3 : w.heap.size + 2 ≤ v5.heap.size := Nat.le_trans hs2 hbq.size
    have hF6 := hn5.sub (Y := fun j => j < w.heap.size + 2) (fun j _ hj => by omega)
    clear hK hbq hRv3 hn5
    have q0 := G.c0
    have q1 := G.c1
    have q2 := G.c2
    have q3 := G.c3
    have q4 := G.c4
    have f0 := G.fz 0
    have f1 := G.fz 1
    have f2 := G.fz 2
    have f3 := G.fz 3
    have f4 := G.fz 4
    go_upto_region 10 with fail
    with_reducible refine gen_put5 (R := fun W => Code.wp Tryz.prog _ _ _ W) G ?_
    intro W9 hB9 G9 hs9
    replace B2 := B2.but hB9 (by omega)
    have hR9 := hR5.but hB9 (by omega)
    replace hbt := hbt.own (hB9.below (Nat.le_succ _) (by omega))
    have hfin := hF6.on (Agr.but hB9 (by omega))
    clear q0 q1 q2 q3 q4 f0 f1 f2 f3 f4 G hB9 hR5 hF6
    have G := G9
    clear G9
    have hN : Calls Tryz.prog 74 #[.pointer (some ⟨b, 0, none⟩), .string ⟨#[41]⟩] W9 _ := need_any (pre := [41]) (t := t) hR9
    go_wp2_with fail
    refine hN.mono ?_
    rintro e w10 ⟨rfl, hRf, hbq⟩
    replace B2 := B2.but hbq (by omega)
    replace G := G.but hbq (by omega)
    replace hbt := hbt.trans hbq
    replace hfin := hfin.on (Agr.but hbq (show b < w.heap.size + 2 by omega))
    clear hN hbq hR9
    obtain ⟨d0, d1, d2, d3, d4, df, dl⟩ := G
    obtain ⟨z0, z1, z2, z3, z4, zf, zl⟩ := B2
    have g0 := zf 0
    have g1 := zf 1
    have g2 := zf 2
    have g3 := zf 3
    have g4 := zf 4
    clear zf df
    go_wp2_with fail
    exact bodyPost_ret (v := .agg #[.int .i64 (Flt.mk k n v ps []).kind, .string (B (Flt.mk k n v ps []).name), .string (B (Flt.mk k n v ps []).value), .slice Ap5 (Flt.mk k n v ps []).parts.length cp5, .slice Ak5 (Flt.mk k n v ps []).kids.length ck5]) (by simp [results, Tryz.results41, go_sem, z0, z1, z2, z3, z4, g0, g1, g2, g3, g4]) rfl ⟨_, rfl, (hfin.on (Agr.but (put5 w.heap.size _ _ _ _ _ _) (by omega))).sub (fun j _ hj => by omega), hRf.but (put5 w.heap.size _ _ _ _ _ _) (by omega), hbt.own ((put5 w.heap.size _ _ _ _ _ _).below (Nat.le_refl _) hbt.size)⟩
end Go.Proofs.YtmamnmjfbadiiaaGreatDoor
/- filter: Parse of a text that is read back. -/
namespace Go.Proofs.YtmamnmjfbadiiaaGreatDoor
open Go.RowKit Go.Sort
open Idn (L B Bs drop_L take_L size_L)
def F00 : Flt := .mk 0 [] [] [] []
/-- what Parse hands back at the text of f -/
def RetPF (w : World) (d : Nat) (f : Flt) (e : Ending) (w' : World) : Prop := ∃ r, e = .returned (.tuple #[r, .int .i64 (fCheck f)]) ∧ FltN (fun k => k < w.heap.size) w' d r (if fCheck f = 0 then f else F00) ∧ Below w.heap.size w w'
set_option maxHeartbeats 1000000 in
set_option maxRecDepth 100000 in
theorem fParse_any (f : Flt) (s : ByteArray) (w : World) (hs : s = B (fTxt f)) (hok : rdOk f) (hsm : FSm 1000 f) (hl : (fTxt f).length ≤ 4096) :
    Calls Tryz.prog 18 #[.string s] w (RetPF w (fDep f) f) := by
  subst hs
  have kF := fun (b : Nat) (w : World) (h : RdAt w b (fTxt f ++ [])) => rfilter_any f hok (fDep f) (Nat.le_refl _) [] b w h (by rw [List.append_nil]; omega)
  have kC := fun (d : Nat) (v : Value) (w : World) (h : FltV w w.heap.size d v f) => fCheck_any d v f w h hsm
  have hz := Idn.size_B (fTxt f)
  have hlI : ¬ (4096 : Int) < ((B (fTxt f)).size : Int) := by omega
  rw [List.append_nil] at kF
  generalize fTxt f = tx at *
  generalize fDep f = D at *
  clear hz hl
  have HQ : Hid (RetPF w D f = fun e w' => ∃ r, e = .returned (.tuple #[r, .int .i64 (fCheck f)]) ∧ FltN (fun k => k < w.heap.size) w' D r (if fCheck f = 0 then f else F00) ∧ Below w.heap.size w w') := rfl
  generalize RetPF w D f = Q at *
  generalize fCheck f = ec at *
  go_enter Tryz.func18, Tryz.ntmps18
  go_upto_region 1 with fail
  with_reducible refine gen1 (R := fun W => Code.wp Tryz.prog _ _ _ W) ?_
  intro W hbW hszW hc hf
  have B2 : Box5 W w.heap.size (.int .i64 0) (.string ⟨#[]⟩) (.string ⟨#[]⟩) (.slice none 0 0) (.slice none 0 0) := ⟨hc 0 _ rfl, hc 1 _ rfl, hc 2 _ rfl, hc 3 _ rfl, hc 4 _ rfl, hf, by omega⟩
  have HW := Lib.hid hszW
  clear hc hf hszW
  go_upto_region 4 with fail
  with_reducible refine gen1 (R := fun W => Code.wp Tryz.prog _ _ _ W) ?_
  intro W1 hbW1 hszW1 hc1 hf1
  have hR : RdAt W1 W.heap.size tx := ⟨hc1 0 _ rfl, hc1 1 _ rfl, hf1 0, hf1 1, by omega⟩
  replace B2 := B2.later hbW1
  have hb := hbW.trans (hbW1.mono hbW.size)
  have hcall := kF W.heap.size W1 hR
  have hs1 : w.heap.size + 2 ≤ W1.heap.size := by have := HW.out; omega
  clear hc1 hf1 hszW1 hbW hbW1 kF hR
  go_wp2_with fail
  refine hcall.mono ?_
  rintro e w2 ⟨r2, rfl, hn2, hR2, hbq⟩
  obtain ⟨A3, k3, A4, k4, hr2⟩ := hn2.shape
  subst hr2
  have hW2 := HW.out
  replace B2 := B2.but hbq (by omega)
  replace hb : Below w.heap.size w w2 := hb.trans (hbq.below (by omega) (by omega))
  have hs2 : w.heap.size + 2 ≤ w2.heap.size := Nat.le_trans hs1 hbq.size
  clear hcall hbq hW2
  go_upto_region 5 with fail
  with_reducible refine gen1 (R := fun W => Code.wp Tryz.prog _ _ _ W) ?_
  intro W3 hbW3 hszW3 hc3 _
  have y0 : W3.cell? ⟨w2.heap.size, 0, none⟩ = some (.int .i64 f.kind) := hc3 0 _ rfl
  have y1 : W3.cell? ⟨w2.heap.size, 1, none⟩ = some (.string (B f.name)) := hc3 1 _ rfl
  have y2 : W3.cell? ⟨w2.heap.size, 2, none⟩ = some (.string (B f.value)) := hc3 2 _ rfl
  have y3 : W3.cell? ⟨w2.heap.size, 3, none⟩ = some (.slice A3 f.parts.length k3) := hc3 3 _ rfl
  have y4 : W3.cell? ⟨w2.heap.size, 4, none⟩ = some (.slice A4 f.kids.length k4) := hc3 4 _ rfl
  replace B2 := B2.later hbW3
  have hR3 := hR2.later hbW3
  have r0 := hR3.r0
  have r1 := hR3.r1
  replace hb := hb.trans (hbW3.mono hb.size)
  have hn3 := (hn2.sub (Y := fun k => k < w.heap.size + 1) (fun j _ hj => by omega)).on (Agr.later hbW3)
  have hC := kC D _ W3 hn3.now
  have hs3 : w.heap.size + 2 ≤ W3.heap.size := Nat.le_trans hs2 hbW3.size
  have e0 : (B []).toList.isEmpty = true := by rw [toList_L]; rfl
  have e1 : (B []) = ⟨#[]⟩ := rfl
  rw [e1] at r0
  clear hc3 hszW3 hbW3 hR2 hn2 kC hR3 e0 e1
  go_wp2_with fail
  refine hC.mono ?_
  rintro e w4 ⟨rfl, hb4⟩
  replace y0 := cell_later hb4 y0
  replace y1 := cell_later hb4 y1
  replace y2 := cell_later hb4 y2
  replace y3 := cell_later hb4 y3
  replace y4 := cell_later hb4 y4
  replace B2 := B2.later hb4
  have hfin := hn3.on (Agr.later hb4)
  replace hb := hb.trans (hb4.mono hb.size)
  clear hC hn3 hb4 r0 r1
  obtain ⟨z0, z1, z2, z3, z4, zf, zl⟩ := B2
  have g0 := zf 0
  have g1 := zf 1
  have g2 := zf 2
  have g3 := zf 3
  have g4 := zf 4
  clear zf
  by_cases hec : ec = 0
  · subst hec
    go_wp2_with fail
    exact bodyPost_ret (v := .tuple #[.agg #[.int .i64 f.kind, .string (B f.name), .string (B f.value), .slice A3 f.parts.length k3, .slice A4 f.kids.length k4], .int .i64 0]) (by simp [results, Tryz.results18, go_sem, z0, z1, z2, z3, z4, g0, g1, g2, g3, g4]) rfl (by
      rw [HQ.out]
      exact ⟨_, rfl, by (first | rw [if_pos rfl] | rw [if_pos trivial]); exact (hfin.on (Agr.but (put5 w.heap.size _ _ _ _ _ _) (by omega))).sub (fun j _ hj => by omega), hb.trans ((put5 w.heap.size _ _ _ _ _ _).below (Nat.le_refl _) hb.size)⟩)
  · have hI : (ec != 0) = true := by simpa using hec
    have HE := Lib.hid hec
    clear hec
    go_wp2_with fail
    exact bodyPost_ret (v := .tuple #[.agg #[.int .i64 0, .string ⟨#[]⟩, .string ⟨#[]⟩, .slice none 0 0, .slice none 0 0], .int .i64 ec]) (by simp [results, Tryz.results18, go_sem, z0, z1, z2, z3, z4, g0, g1, g2, g3, g4]) rfl (by
      rw [HQ.out]
      exact ⟨_, rfl, by rw [if_neg HE.out]; exact FltN.mk (f := F00) (StrsN.nil _ _) (FltsN.nil _ _ _), hb.trans ((put5 w.heap.size _ _ _ _ _ _).below (Nat.le_refl _) hb.size)⟩)
end Go.Proofs.YtmamnmjfbadiiaaGreatDoor
