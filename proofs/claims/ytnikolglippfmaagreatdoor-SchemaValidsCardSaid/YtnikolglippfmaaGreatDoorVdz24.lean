/- Part 24 of the proof that Valid returns the specified error: the package variables hold what the program lays; nothing else is asked. -/
import Derived.Test.YtnikolglippfmaaGreatDoorVdz07
import Derived.Test.YtnikolglippfmaaGreatDoorVdz15
import Derived.Test.YtnikolglippfmaaGreatDoorVdz18
import Derived.Test.YtnikolglippfmaaGreatDoorVdz19
import Derived.Test.YtnikolglippfmaaGreatDoorVdz21
import Derived.Test.YtnikolglippfmaaGreatDoorVdz23
import Derived.Deep.RegionHeld3
import Derived.Deep.RegionLaw
import Derived.IntWalk
/- name: normal; comparing strings and pairs; Compare. -/
namespace Go.Proofs.YtnikolglippfmaaGreatDoor
open Go.RowKit Go.Sort
open Idn (L B Bs drop_L take_L size_L)
def RetPB (w : World) (r : List Idn.Pr × Bool) (e : Ending) (w' : World) : Prop :=
  ∃ v, e = .returned (.tuple #[v, .bool r.2]) ∧ w'.ownsRow w.heap.size 124 2 v r.1.length (prRow r.1) ∧ Below w.heap.size w w'
set_option maxHeartbeats 1000000 in
set_option maxRecDepth 100000 in
theorem nm_normal_any (s : ByteArray) (w : World) (hs : s.size ≤ 1000000000) :
    Calls Tryz.prog 84 #[.string s] w (RetPB w (Idn.normal (L s))) := by
  have hP := nm_parse_any s w hs
  obtain ⟨h8, hsm⟩ := parse_sm (L s)
  generalize hr : Idn.normal (L s) = r
  have HR : Hid (r = if (Idn.parse (L s)).2 != 0 then ([], false) else ((Idn.parse (L s)).1, (Idn.format (Idn.parse (L s)).1).2 == 0 && (Idn.format (Idn.parse (L s)).1).1 == L s)) := hr.symm
  generalize Idn.parse (L s) = pp at *
  obtain ⟨l, x⟩ := pp
  dsimp only at HR h8 hsm
  clear hr
  by_cases h0 : x = 0
  · subst h0
    have HF : Hid (r = (l, (Idn.format l).2 == 0 && (Idn.format l).1 == L s)) := HR.out
    have hF := fun (v : Value) W (hv : PairsV W W.heap.size v l) => nm_format_any v l W hv (fun p hp => by have := hsm p hp; omega) (by omega)
    generalize Idn.format l = fm at *
    obtain ⟨t, c⟩ := fm
    dsimp only at HF hF
    have hbe : ((B t).toList == s.toList) = (t == L s) := by rw [str_beq, Idn.L_B, list_beq]
    generalize hq : (t == L s) = q at *
    clear HR hq
    by_cases hc : c = 0
    · subst hc
      have HG : Hid (r = (l, q)) := by show _ = _; rw [HF.out]; rfl
      clear HF
      cases q
      all_goals
        go_enter Tryz.func84, Tryz.ntmps84
        go_wp2_with fail
        refine hP.mono ?_
        rintro e w1 ⟨v1, rfl, hown1, hb1⟩
        obtain ⟨A, cc, hv⟩ := own_shape hown1
        subst hv
        have hF1 := hF _ w1 (PairsV.of_own hown1)
        clear hP hF
        dsimp only at *
        go_wp2_with fail
        refine hF1.mono ?_
        rintro e w2 ⟨rfl, hb2⟩
        have hown2 := own_below hown1 hb2
        clear hF1 hown1
        go_wp2
        go_ret2
        exact ⟨.slice A l.length cc, by rw [HG.out]; rfl, by rw [HG.out]; exact hown2, hb1.trans (hb2.mono hb1.size)⟩
    · have hc1 : (c == 0) = false := by simpa using hc
      have HG : Hid (r = (l, false)) := by show _ = _; rw [HF.out, hc1]; rfl
      clear HF hc
      go_enter Tryz.func84, Tryz.ntmps84
      go_wp2_with fail
      refine hP.mono ?_
      rintro e w1 ⟨v1, rfl, hown1, hb1⟩
      obtain ⟨A, cc, hv⟩ := own_shape hown1
      subst hv
      have hF1 := hF _ w1 (PairsV.of_own hown1)
      clear hP hF
      dsimp only at *
      go_wp2_with fail
      refine hF1.mono ?_
      rintro e w2 ⟨rfl, hb2⟩
      have hown2 := own_below hown1 hb2
      clear hF1 hown1
      go_wp2
      go_ret2
      exact ⟨.slice A l.length cc, by rw [HG.out]; rfl, by rw [HG.out]; exact hown2, hb1.trans (hb2.mono hb1.size)⟩
  · have HF : Hid (r = ([], false)) := by show _ = _; rw [HR.out, if_pos (by simpa using h0)]
    have h1 : (x != 0) = true := by simpa using h0
    have h2 : (x == 0) = false := by simpa using h0
    clear HR h0
    go_enter Tryz.func84, Tryz.ntmps84
    go_wp2_with fail
    refine hP.mono ?_
    rintro e w1 ⟨v1, rfl, hown1, hb1⟩
    obtain ⟨A, cc, hv⟩ := own_shape hown1
    subst hv
    clear hP hown1
    go_wp2
    go_ret2
    exact ⟨.slice none 0 0, by rw [HF.out]; rfl, by rw [HF.out]; exact World.ownsRow_nil _ _ _ _, hb1⟩

def cmpB (a b : Bs) : Int := if a < b then -1 else if b < a then 1 else 0
theorem isNaNs_any (s : ByteArray) (w : World) : Calls Tryz.prog 133 #[.string s] w fun e w' => e = .returned (.bool false) ∧ w = w' := by
  go_enter Tryz.func133, Tryz.ntmps133
  go_wp2
  go_ret
  exact ⟨rfl, rfl⟩
theorem cmpS_any (a b : ByteArray) (w : World) : Calls Tryz.prog 85 #[.string a, .string b] w fun e w' => e = .returned (.int .i64 (cmpB (L a) (L b))) ∧ w = w' := by
  have hN := fun s W => isNaNs_any s W
  have h1 : Op.bytesLess a.toList b.toList = decide (L a < L b) := by rw [bytesLess_eq, toList_L, toList_L]
  have h2 : Op.bytesLess b.toList a.toList = decide (L b < L a) := by rw [bytesLess_eq, toList_L, toList_L]
  by_cases c1 : L a < L b
  · rw [decide_eq_true c1] at h1
    have HF : Hid (cmpB (L a) (L b) = -1) := by show _ = _; rw [cmpB, if_pos c1]
    clear c1 h2
    go_enter Tryz.func85, Tryz.ntmps85
    go_wp2_with (go_at_call 133; refine (hN _ _).mono ?_; rintro e w1 ⟨rfl, rfl⟩)
    go_ret
    exact ⟨ret_int HF.out.symm, rfl⟩
  · rw [decide_eq_false c1] at h1
    by_cases c2 : L b < L a
    · rw [decide_eq_true c2] at h2
      have HF : Hid (cmpB (L a) (L b) = 1) := by show _ = _; rw [cmpB, if_neg c1, if_pos c2]
      have h3 : (a.toList == b.toList) = false := str_not (fun e => c1 (by rw [e] at c2 ⊢; exact absurd c2 (List.lt_irrefl _)))
      clear c1 c2
      go_enter Tryz.func85, Tryz.ntmps85
      go_wp2_with (go_at_call 133; refine (hN _ _).mono ?_; rintro e w1 ⟨rfl, rfl⟩)
      go_ret
      exact ⟨ret_int HF.out.symm, rfl⟩
    · rw [decide_eq_false c2] at h2
      have HF : Hid (cmpB (L a) (L b) = 0) := by show _ = _; rw [cmpB, if_neg c1, if_neg c2]
      have h3 : (a.toList == b.toList) = true := str_is (by refine Decidable.byContradiction fun hne => ?_; exact c2 (Idn.lt_of _ _ c1 hne))
      clear c1 c2
      go_enter Tryz.func85, Tryz.ntmps85
      go_wp2_with (go_at_call 133; refine (hN _ _).mono ?_; rintro e w1 ⟨rfl, rfl⟩)
      go_ret
      exact ⟨ret_int HF.out.symm, rfl⟩
def or2 (a b : Int) : Int := if a = 0 then b else a
set_option maxRecDepth 100000 in
theorem or2_any (W : World) (g : Nat) (a b : Int) (h0 : W.cell? ⟨g, 0, none⟩ = some (.int .i64 a)) (h1 : W.cell? ⟨g, 1, none⟩ = some (.int .i64 b)) :
    Calls Tryz.prog 87 #[.slice (some ⟨g, 0, none⟩) 2 2] W fun e w' => e = .returned (.int .i64 (or2 a b)) ∧ W = w' := by
  by_cases ha : a = 0
  · have ea : (a != 0) = false := by simp [ha]
    by_cases hb : b = 0
    · have eb : (b != 0) = false := by simp [hb]
      have HF : Hid (or2 a b = 0) := by show _ = _; rw [or2, if_pos ha, hb]
      clear ha hb
      go_enter Tryz.func87, Tryz.ntmps87
      go_wp2
      go_loop [8] (fun i => i = .int .i64 0 ∨ i = .int .i64 1 ∨ i = .int .i64 2) (fun i => 2 - (intOf i).toNat)
      case atStart => exact .inl rfl
      case round =>
        rcases hrel with rfl | rfl | rfl
        · go_wp2
          go_round
          case rel => exact .inr (.inl rfl)
          case measure => decide
        · go_wp2
          go_round
          case rel => exact .inr (.inr rfl)
          case measure => decide
        · go_wp2
          go_ret
          exact ⟨ret_int HF.out.symm, rfl⟩
    · have eb : (b != 0) = true := by simpa using hb
      have HF : Hid (or2 a b = b) := by show _ = _; rw [or2, if_pos ha]
      clear ha hb
      go_enter Tryz.func87, Tryz.ntmps87
      go_wp2
      go_loop [8] (fun i => i = .int .i64 0 ∨ i = .int .i64 1) (fun i => 2 - (intOf i).toNat)
      case atStart => exact .inl rfl
      case round =>
        rcases hrel with rfl | rfl
        · go_wp2
          go_round
          case rel => exact .inr rfl
          case measure => decide
        · go_wp2
          go_ret
          exact ⟨ret_int HF.out.symm, rfl⟩
  · have ea : (a != 0) = true := by simpa using ha
    have HF : Hid (or2 a b = a) := by show _ = _; rw [or2, if_neg ha]
    clear ha
    go_enter Tryz.func87, Tryz.ntmps87
    go_wp2
    go_loop [8] (fun i => i = .int .i64 0) (fun i => 2 - (intOf i).toNat)
    case atStart => rfl
    case round =>
      obtain rfl := hrel
      go_wp2
      go_ret
      exact ⟨ret_int HF.out.symm, rfl⟩
end Go.Proofs.YtnikolglippfmaaGreatDoor
/- name: Compare. -/
namespace Go.Proofs.YtnikolglippfmaaGreatDoor
open Go.RowKit Go.Sort
open Idn (L B Bs drop_L take_L size_L)
def cmpPr (p q : Idn.Pr) : Int := or2 (cmpB p.1 q.1) (cmpB p.2 q.2)
/-- pairs compared from the end -/
def cmpL : List Idn.Pr → List Idn.Pr → Int
  | [], [] => 0
  | [], _ :: _ => -1
  | _ :: _, [] => 1
  | p :: l, q :: m => if cmpPr p q = 0 then cmpL l m else cmpPr p q
def cmpNm (a b : Bs) : Int :=
  if (Idn.normal a).2 then (if (Idn.normal b).2 then cmpL (Idn.normal a).1.reverse (Idn.normal b).1.reverse else -1)
  else if (Idn.normal b).2 then 1 else cmpB a b
theorem cmpL_end (l m : List Idn.Pr) (i : Nat) (h : i ≤ l.length) (h2 : i ≤ m.length) (hi : i = l.length ∨ i = m.length) : cmpL (l.drop i) (m.drop i) = Lib.compareInt l.length m.length := by
  unfold Lib.compareInt
  by_cases h3 : i = l.length
  · rw [List.drop_eq_nil_of_le (by omega)]
    cases hd : m.drop i with
    | nil =>
      have := congrArg List.length hd
      rw [List.length_drop, List.length_nil] at this
      rw [cmpL, if_neg (by omega), if_neg (by omega)]
    | cons q r =>
      have := congrArg List.length hd
      rw [List.length_drop, List.length_cons] at this
      rw [cmpL, if_pos (by omega)]
  · have h4 : i = m.length := by omega
    rw [show m.drop i = [] from List.drop_eq_nil_of_le (by omega)]
    cases hd : l.drop i with
    | nil =>
      have := congrArg List.length hd
      rw [List.length_drop, List.length_nil] at this
      omega
    | cons q r =>
      rw [cmpL, if_neg (by omega), if_pos (by omega)]
theorem cmpL_step (l m : List Idn.Pr) (i : Nat) (h : i < l.length) (h2 : i < m.length) : cmpL (l.drop i) (m.drop i) = if cmpPr l[i] m[i] = 0 then cmpL (l.drop (i + 1)) (m.drop (i + 1)) else cmpPr l[i] m[i] := by
  rw [List.drop_eq_getElem_cons h, List.drop_eq_getElem_cons h2, cmpL]
theorem or2_new {W : World} {a b : Int} {t : TypeId} : Calls Tryz.prog 87 #[.slice (some ⟨W.heap.size, 0, none⟩) 2 2] (W.alloc (.cells #[.int .i64 a, .int .i64 b] t)) fun e w' => e = .returned (.int .i64 (or2 a b)) ∧ W.alloc (.cells #[.int .i64 a, .int .i64 b] t) = w' := by
  have e := heap_alloc_new W (.cells #[.int .i64 a, .int .i64 b] t)
  exact or2_any _ W.heap.size a b (by rw [cell_of_row _ W.heap.size 0 _ _ (0, 0) e]; rfl) (by rw [cell_of_row _ W.heap.size 1 _ _ (0, 0) e]; rfl)
theorem gen2d {R : World → Prop} {w : World} {C1 C2 : Array Value} {t1 t2 : TypeId}
    (h : ∀ X, Below w.heap.size w X → (∀ (i : Nat) (v : Value), C1[i]? = some v → X.cell? ⟨w.heap.size, i, none⟩ = some v) → (∀ (i : Nat) (v : Value), C2[i]? = some v → X.cell? ⟨w.heap.size + 1, i, none⟩ = some v) → R X) : R (((w.alloc (.cells C1 t1)).alloc (.cells C2 t2)).drew) :=
  gen2 (R := fun W => R W.drew) fun W hb _ h1 h2 => h W.drew hb.drew h1 h2
theorem Below.lay' {lo : Nat} {w W : World} (h : Below lo w W) (o : Obj) (hl : lo ≤ W.heap.size) : Below lo w (W.alloc o) := h.alloc hl o
theorem or2_newd {W : World} {a b : Int} {t : TypeId} : Calls Tryz.prog 87 #[.slice (some ⟨W.heap.size, 0, none⟩) 2 2] (W.alloc (.cells #[.int .i64 a, .int .i64 b] t)).drew fun e w' => e = .returned (.int .i64 (or2 a b)) ∧ (W.alloc (.cells #[.int .i64 a, .int .i64 b] t)).drew = w' := by
  have e := heap_alloc_new W (.cells #[.int .i64 a, .int .i64 b] t)
  have h0 : (W.alloc (.cells #[.int .i64 a, .int .i64 b] t)).cell? ⟨W.heap.size, 0, none⟩ = some (.int .i64 a) := by rw [cell_of_row _ W.heap.size 0 _ _ (0, 0) e]; rfl
  have h1 : (W.alloc (.cells #[.int .i64 a, .int .i64 b] t)).cell? ⟨W.heap.size, 1, none⟩ = some (.int .i64 b) := by rw [cell_of_row _ W.heap.size 1 _ _ (0, 0) e]; rfl
  exact or2_any _ W.heap.size a b h0 h1
set_option maxHeartbeats 2000000 in
set_option maxRecDepth 100000 in
theorem order_any (i : Nat) (p1 p2 : Nat) (v u : Value) (l m : List Idn.Pr) (w : World) (hp1 : w.cell? ⟨p1, 0, none⟩ = some v) (hp2 : w.cell? ⟨p2, 0, none⟩ = some u) (hv : PairsV w w.heap.size v l) (hu : PairsV w w.heap.size u m)
    (hl : i < l.length) (hm : i < m.length) (hl8 : l.length ≤ 1000) (hm8 : m.length ≤ 1000) :
    Calls Tryz.prog 86 #[.int .i64 (i : Int), .pointer (some ⟨p1, 0, none⟩), .pointer (some ⟨p2, 0, none⟩)] w fun e w' => e = .returned (.int .i64 (cmpPr (l.reverse[i]'(by simpa using hl)) (m.reverse[i]'(by simpa using hm)))) ∧ Below w.heap.size w w' := by
  obtain ⟨A, c, rfl, hc⟩ := SlV.shape hv
  obtain ⟨A', c', rfl, hc'⟩ := SlV.shape hu
  have hli : l.length - 1 - i < l.length := by omega
  have hmi : m.length - 1 - i < m.length := by omega
  obtain ⟨b, off, rfl, hbl, c0, c1⟩ := PairsV.cell hv hli
  obtain ⟨b', off', rfl, hbl', d0, d1⟩ := PairsV.cell hu hmi
  have e1 : l.reverse[i]'(by simpa using hl) = l[l.length - 1 - i] := by rw [List.getElem_reverse]
  have e2 : m.reverse[i]'(by simpa using hm) = m[m.length - 1 - i] := by rw [List.getElem_reverse]
  rw [e1, e2]
  have hC1 := fun W => cmpS_any (B (l[l.length - 1 - i].1)) (B (m[m.length - 1 - i].1)) W
  have hC2 := fun W => cmpS_any (B (l[l.length - 1 - i].2)) (B (m[m.length - 1 - i].2)) W
  simp only [Idn.L_B] at hC1 hC2
  have k1 : ((l.length : Int) - 1) - (i : Int) = ((l.length - 1 - i : Nat) : Int) := by omega
  have k2 : ((m.length : Int) - 1) - (i : Int) = ((m.length - 1 - i : Nat) : Int) := by omega
  have r0 : (0 : Int) ≤ (l.length : Int) - 1 := by omega
  have r1 : (l.length : Int) - 1 ≤ 1000 := by omega
  have s0 : (0 : Int) ≤ (m.length : Int) - 1 := by omega
  have s1 : (m.length : Int) - 1 ≤ 1000 := by omega
  have q1 : IntKind.i64.wrap ((l.length : Int) - 1) = (l.length : Int) - 1 := IntWalk.i64_in _ (by omega)
  have q2 : IntKind.i64.wrap ((l.length : Int) - 1 - (i : Int)) = ((l.length - 1 - i : Nat) : Int) := by rw [k1]; exact IntWalk.i64_in _ (by omega)
  have q3 : IntKind.i64.wrap ((m.length : Int) - 1) = (m.length : Int) - 1 := IntWalk.i64_in _ (by omega)
  have q4 : IntKind.i64.wrap ((m.length : Int) - 1 - (i : Int)) = ((m.length - 1 - i : Nat) : Int) := by rw [k2]; exact IntWalk.i64_in _ (by omega)
  have j1 : ((l.length - 1 - i : Nat) : Int) < (l.length : Int) := by omega
  have j2 : ((m.length - 1 - i : Nat) : Int) < (m.length : Int) := by omega
  generalize l[l.length - 1 - i] = x at *
  generalize m[m.length - 1 - i] = y at *
  generalize l.length - 1 - i = li at *
  generalize m.length - 1 - i = mi at *
  clear e1 e2 hv hu k1 k2 r0 r1 s0 s1
  have HF : Hid (cmpPr x y = or2 (cmpB x.1 y.1) (cmpB x.2 y.2)) := rfl
  generalize cmpPr x y = res at *
  generalize cmpB x.1 y.1 = c1v at *
  generalize cmpB x.2 y.2 = c2v at *
  go_enter Tryz.func86, Tryz.ntmps86
  go_wp2_with fail
  have hS : ∀ W', Below w.heap.size w W' → W'.cell? ⟨p1, 0, none⟩ = some (.slice (some ⟨b, off, none⟩) l.length c) ∧ W'.cell? ⟨p2, 0, none⟩ = some (.slice (some ⟨b', off', none⟩) m.length c') ∧ W'.cell? ⟨b, off + li * 2, none⟩ = some (.string (B x.1)) ∧ W'.cell? ⟨b, off + li * 2 + 1, none⟩ = some (.string (B x.2)) ∧
      W'.cell? ⟨b', off' + mi * 2, none⟩ = some (.string (B y.1)) ∧ W'.cell? ⟨b', off' + mi * 2 + 1, none⟩ = some (.string (B y.2)) ∧ Below w.heap.size w W' := fun W' hW =>
    ⟨cell_later hW hp1, cell_later hW hp2, cell_later hW c0, cell_later hW c1, cell_later hW d0, cell_later hW d1, hW⟩
  have hw0 := Below.refl w.heap.size w
  go_region_held3 (fun W' => W'.cell? ⟨p1, 0, none⟩ = some (.slice (some ⟨b, off, none⟩) l.length c) ∧ W'.cell? ⟨p2, 0, none⟩ = some (.slice (some ⟨b', off', none⟩) m.length c') ∧ W'.cell? ⟨b, off + li * 2, none⟩ = some (.string (B x.1)) ∧ W'.cell? ⟨b, off + li * 2 + 1, none⟩ = some (.string (B x.2)) ∧
      W'.cell? ⟨b', off' + mi * 2, none⟩ = some (.string (B y.1)) ∧ W'.cell? ⟨b', off' + mi * 2 + 1, none⟩ = some (.string (B y.2)) ∧ Below w.heap.size w W')
    (first | (refine hS _ ?_; repeat (first | with_reducible exact Below.refl _ _ | with_reducible apply Below.drew | with_reducible refine Below.lay ?_ _ | with_reducible refine Below.setCell ?_ (by simp) _)))
    (first | fail)
  · with_reducible refine gen2d (R := fun X => Exit.then _ _ _ _ X) ?_
    intro X hbX h1 h2
    have a0 := h1 0 _ rfl
    have a1 := h1 1 _ rfl
    have a2 := h2 0 _ rfl
    have a3 := h2 1 _ rfl
    have hS2 : ∀ W', Below X.heap.size X W' → W'.cell? ⟨w.heap.size, 0, none⟩ = some (.string (B x.1)) ∧ W'.cell? ⟨w.heap.size, 1, none⟩ = some (.string (B x.2)) ∧ W'.cell? ⟨w.heap.size + 1, 0, none⟩ = some (.string (B y.1)) ∧ W'.cell? ⟨w.heap.size + 1, 1, none⟩ = some (.string (B y.2)) ∧ Below X.heap.size X W' := fun W' hW => ⟨cell_later hW a0, cell_later hW a1, cell_later hW a2, cell_later hW a3, hW⟩
    have hx0 := Below.refl X.heap.size X
    clear h1 h2 hS hw0
    go_wp2_with fail
    go_region_held3 (fun W' => W'.cell? ⟨w.heap.size, 0, none⟩ = some (.string (B x.1)) ∧ W'.cell? ⟨w.heap.size, 1, none⟩ = some (.string (B x.2)) ∧ W'.cell? ⟨w.heap.size + 1, 0, none⟩ = some (.string (B y.1)) ∧ W'.cell? ⟨w.heap.size + 1, 1, none⟩ = some (.string (B y.2)) ∧ Below X.heap.size X W')
      (first | (refine hS2 _ ?_; repeat (first | with_reducible exact Below.refl _ _ | with_reducible apply Below.drew | with_reducible refine Below.lay ?_ _ | with_reducible refine Below.setCell ?_ (by simp) _)))
      (first
        | (go_at_call 85; with_reducible refine (hC1 _).mono ?_; rintro e x1 ⟨rfl, rfl⟩)
        | (go_at_call 85; with_reducible refine (hC2 _).mono ?_; rintro e x1 ⟨rfl, rfl⟩)
        | (go_at_call 87; with_reducible refine or2_newd.mono ?_; rintro e x2 ⟨rfl, rfl⟩))
    all_goals
      go_wp2
      go_ret
      exact ⟨ret_int HF.out.symm, Below.on hbX (by repeat (first | with_reducible exact Below.refl _ _ | with_reducible apply Below.drew | with_reducible refine Below.lay ?_ _))⟩
  · with_reducible refine gen2d (R := fun X => Exit.then _ _ _ _ X) ?_
    intro X hbX h1 h2
    have a0 := h1 0 _ rfl
    have a1 := h1 1 _ rfl
    have a2 := h2 0 _ rfl
    have a3 := h2 1 _ rfl
    have hS2 : ∀ W', Below X.heap.size X W' → W'.cell? ⟨w.heap.size, 0, none⟩ = some (.string (B y.1)) ∧ W'.cell? ⟨w.heap.size, 1, none⟩ = some (.string (B y.2)) ∧ W'.cell? ⟨w.heap.size + 1, 0, none⟩ = some (.string (B x.1)) ∧ W'.cell? ⟨w.heap.size + 1, 1, none⟩ = some (.string (B x.2)) ∧ Below X.heap.size X W' := fun W' hW => ⟨cell_later hW a0, cell_later hW a1, cell_later hW a2, cell_later hW a3, hW⟩
    have hx0 := Below.refl X.heap.size X
    clear h1 h2 hS hw0
    go_wp2_with fail
    go_region_held3 (fun W' => W'.cell? ⟨w.heap.size, 0, none⟩ = some (.string (B y.1)) ∧ W'.cell? ⟨w.heap.size, 1, none⟩ = some (.string (B y.2)) ∧ W'.cell? ⟨w.heap.size + 1, 0, none⟩ = some (.string (B x.1)) ∧ W'.cell? ⟨w.heap.size + 1, 1, none⟩ = some (.string (B x.2)) ∧ Below X.heap.size X W')
      (first | (refine hS2 _ ?_; repeat (first | with_reducible exact Below.refl _ _ | with_reducible apply Below.drew | with_reducible refine Below.lay ?_ _ | with_reducible refine Below.setCell ?_ (by simp) _)))
      (first
        | (go_at_call 85; with_reducible refine (hC1 _).mono ?_; rintro e x1 ⟨rfl, rfl⟩)
        | (go_at_call 85; with_reducible refine (hC2 _).mono ?_; rintro e x1 ⟨rfl, rfl⟩)
        | (go_at_call 87; with_reducible refine or2_newd.mono ?_; rintro e x2 ⟨rfl, rfl⟩))
    all_goals
      go_wp2
      go_ret
      exact ⟨ret_int HF.out.symm, Below.on hbX (by repeat (first | with_reducible exact Below.refl _ _ | with_reducible apply Below.drew | with_reducible refine Below.lay ?_ _))⟩
end Go.Proofs.YtnikolglippfmaaGreatDoor
/- name: Compare. -/
namespace Go.Proofs.YtnikolglippfmaaGreatDoor
open Go.RowKit Go.Sort
open Idn (L B Bs drop_L take_L size_L)
theorem normal_sm (s : Bs) : (Idn.normal s).1.length ≤ 8 := by
  unfold Idn.normal
  split
  · simp
  · exact (parse_sm s).1
set_option maxHeartbeats 2000000 in
set_option maxRecDepth 100000 in
theorem nm_compare_any (a b : ByteArray) (w : World) (ha : a.size ≤ 1000000000) (hb : b.size ≤ 1000000000) :
    Calls Tryz.prog 42 #[.string a, .string b] w fun e w' => e = .returned (.int .i64 (cmpNm (L a) (L b))) ∧ Below w.heap.size w w' := by
  have h1 := nm_normal_any a w ha
  have h2 := fun W => nm_normal_any b W hb
  have hla := normal_sm (L a)
  have hlb := normal_sm (L b)
  generalize hr : cmpNm (L a) (L b) = r
  have HR : Hid (r = if (Idn.normal (L a)).2 then (if (Idn.normal (L b)).2 then cmpL (Idn.normal (L a)).1.reverse (Idn.normal (L b)).1.reverse else -1) else if (Idn.normal (L b)).2 then 1 else cmpB (L a) (L b)) := hr.symm
  have hCS := fun W => cmpS_any a b W
  generalize Idn.normal (L a) = na at *
  generalize Idn.normal (L b) = nb at *
  obtain ⟨l, ok⟩ := na
  obtain ⟨m, is⟩ := nb
  dsimp only at HR hla hlb
  generalize cmpB (L a) (L b) = cb at *
  clear hr
  go_enter Tryz.func42, Tryz.ntmps42
  go_wp2_with fail
  refine h1.mono ?_
  rintro e w1 ⟨v1, rfl, ho1, hb1⟩
  obtain ⟨A, c, hv⟩ := own_shape ho1
  subst hv
  clear h1
  dsimp only at *
  go_wp2_with fail
  with_reducible refine gen1 (R := fun W => Calls Tryz.prog 84 _ W _) ?_
  intro W2 hbW2 hszW2 hc2 _
  have p1 := hc2 0 _ rfl
  have ho2 := own_below ho1 hbW2
  have hbw2 := hb1.trans (hbW2.mono hb1.size)
  clear hc2 ho1
  refine (h2 W2).mono ?_
  rintro e w3 ⟨v3, rfl, ho3, hb3⟩
  obtain ⟨A', c', hv⟩ := own_shape ho3
  subst hv
  replace p1 := cell_later hb3 p1
  have ho2' := own_below ho2 hb3
  have hbw3 := hbw2.trans (hb3.mono hbw2.size)
  clear h2 ho2
  dsimp only at *
  go_upto_block 0 with fail
  with_reducible refine gen1 (R := fun W => Code.wp Tryz.prog _ _ _ W) ?_
  intro W4 hbW4 hszW4 hc4 _
  have p2 := hc4 0 _ rfl
  replace p1 := cell_later hbW4 p1
  have hP1 := PairsV.of_own (own_below ho2' hbW4)
  have hP2 := PairsV.of_own (own_below ho3 hbW4)
  have hbw4 := hbw3.trans (hbW4.mono hbw3.size)
  clear hc4 ho2' ho3 hszW2 hszW4
  cases ok
  · cases is
    · have HF : Hid (r = cb) := HR.out
      clear HR
      go_wp2_with fail
      refine (hCS _).mono ?_
      rintro e w5 ⟨rfl, rfl⟩
      go_wp2
      go_ret
      exact ⟨ret_int HF.out.symm, hbw4⟩
    · have HF : Hid (r = 1) := HR.out
      clear HR
      go_wp2
      go_ret
      exact ⟨ret_int HF.out.symm, hbw4⟩
  · cases is
    · have HF : Hid (r = -1) := HR.out
      clear HR
      go_wp2
      go_ret
      exact ⟨ret_int HF.out.symm, hbw4⟩
    · have HF : Hid (r = cmpL l.reverse m.reverse) := HR.out
      clear HR hCS
      have hst := cmpL_step l.reverse m.reverse
      have hen := cmpL_end l.reverse m.reverse
      simp only [List.length_reverse] at hst hen
      have hOr := fun i W (hW : Below W4.heap.size W4 W) (h1 : i < l.length) (h2 : i < m.length) => order_any i w1.heap.size w3.heap.size _ _ l m W (cell_later hW p1) (cell_later hW p2) (SlV.mono (SlV.keep hP1 hW) hW.size) (SlV.mono (SlV.keep hP2 hW) hW.size) h1 h2 (by omega) (by omega)
      have hmin : ∃ n : Nat, n ≤ l.length ∧ n ≤ m.length ∧ (n = l.length ∨ n = m.length) ∧ min (l.length : Int) (m.length : Int) = (n : Int) := by
        by_cases h : l.length ≤ m.length
        · exact ⟨l.length, Nat.le_refl _, h, .inl rfl, by omega⟩
        · exact ⟨m.length, by omega, Nat.le_refl _, .inr rfl, by omega⟩
      obtain ⟨n, hn1, hn2, hn3, hn4⟩ := hmin
      have HN4 := Lib.hid hn4
      go_wp2_with fail
      clear hn4
      go_loopw [46] (fun x wr => ∃ i : Nat, i ≤ n ∧ x = .int .i64 i ∧ Below W4.heap.size W4 wr ∧ Hid (r = cmpL (l.reverse.drop i) (m.reverse.drop i))) (fun x _ => n - (intOf x).toNat)
      case atStart => exact ⟨0, Nat.zero_le _, rfl, Below.refl _ _, HF.out⟩
      case round =>
        obtain ⟨i, hi, rfl, hb, hinv⟩ := hrel
        by_cases hlt : i < n
        · have hil : i < l.length := by omega
          have him : i < m.length := by omega
          have hO := hOr i wr hb hil him
          have hs := hst i hil him
          have hltI : (i : Int) < (n : Int) := by omega
          generalize cmpPr (l.reverse[i]'(by simpa using hil)) (m.reverse[i]'(by simpa using him)) = o at *
          by_cases h0 : o = 0
          · subst h0
            have HG : Hid (r = cmpL (l.reverse.drop (i + 1)) (m.reverse.drop (i + 1))) := by show _ = _; rw [hinv.out, hs, if_pos rfl]
            clear hs hst hen hOr hinv
            go_wp2_with fail
            refine hO.mono ?_
            rintro e w5 ⟨rfl, hb5⟩
            go_wp2
            go_roundw
            case rel => exact ⟨i + 1, by omega, by go_num, hb.trans (hb5.mono hb.size), HG⟩
            case measure => simp [intOf]; omega
          · have HG : Hid (r = o) := by show _ = _; rw [hinv.out, hs, if_neg h0]
            have h0' : (o != 0) = true := by simpa using h0
            clear hs hst hen hOr hinv h0
            go_wp2_with fail
            refine hO.mono ?_
            rintro e w5 ⟨rfl, hb5⟩
            go_wp2
            go_ret
            exact ⟨ret_int HG.out.symm, hbw4.trans ((hb.trans (hb5.mono hb.size)).mono hbw4.size)⟩
        · have hin : i = n := by omega
          have hltI : ¬ (i : Int) < (n : Int) := by omega
          have HG : Hid (r = Lib.compareInt l.length m.length) := by show _ = _; rw [hinv.out, hen i (by omega) (by omega) (by omega)]
          have hCI := fun W => Tryz.cmp_Compare_int (l.length : Int) (m.length : Int) W
          replace p1 := cell_later hb p1
          replace p2 := cell_later hb p2
          generalize Lib.compareInt l.length m.length = ci at *
          clear hst hen hOr hinv hin
          go_wp2_with fail
          refine (hCI _).mono ?_
          rintro e w5 ⟨rfl, rfl⟩
          go_wp2
          go_ret
          exact ⟨ret_int HG.out.symm, hbw4.trans (hb.mono hbw4.size)⟩
end Go.Proofs.YtnikolglippfmaaGreatDoor
/- identityref02: decimal, ReadInt, Int; identityref01: Order. -/
namespace Go.Proofs.YtnikolglippfmaaGreatDoor
open Go.RowKit Go.Sort
open Idn (L B Bs drop_L take_L size_L)
set_option maxRecDepth 100000 in
theorem r_Order_any (a b : ByteArray) (w : World) : Calls Tryz.prog 46 #[.string a, .string b] w fun e w' => e = .returned (.int .i64 (cmpB (L a) (L b))) ∧ w = w' := by
  have h1 : Op.bytesLess a.toList b.toList = decide (L a < L b) := by rw [bytesLess_eq, toList_L, toList_L]
  have h2 : Op.bytesLess b.toList a.toList = decide (L b < L a) := by rw [bytesLess_eq, toList_L, toList_L]
  generalize hr : cmpB (L a) (L b) = r
  have HR : Hid (r = cmpB (L a) (L b)) := hr.symm
  clear hr
  unfold cmpB at HR
  by_cases c1 : L a < L b
  · have HF : Hid (r = -1) := by show _ = _; rw [HR.out, if_pos c1]
    rw [decide_eq_true c1] at h1
    clear c1 HR
    go_enter Tryz.func46, Tryz.ntmps46
    go_wp2
    go_ret
    exact ⟨ret_int HF.out.symm, rfl⟩
  · rw [decide_eq_false c1] at h1
    by_cases c2 : L b < L a
    · have HF : Hid (r = 1) := by show _ = _; rw [HR.out, if_neg c1, if_pos c2]
      have he : (a.toList == b.toList) = false := str_not (fun e => by rw [e] at c2; exact List.lt_irrefl _ c2)
      rw [decide_eq_true c2] at h2
      clear c1 c2 HR
      go_enter Tryz.func46, Tryz.ntmps46
      go_wp2
      go_ret
      exact ⟨ret_int HF.out.symm, rfl⟩
    · have HF : Hid (r = 0) := by show _ = _; rw [HR.out, if_neg c1, if_neg c2]
      have he : (a.toList == b.toList) = true := str_is (Decidable.byContradiction fun e => c2 (Idn.lt_of _ _ c1 e))
      rw [decide_eq_false c2] at h2
      clear c1 c2 HR
      go_enter Tryz.func46, Tryz.ntmps46
      go_wp2
      go_ret
      exact ⟨ret_int HF.out.symm, rfl⟩
set_option maxHeartbeats 1000000 in
set_option maxRecDepth 100000 in
theorem r_decimal_any (s : ByteArray) (z : Bool) (w : World) (hs : s.size ≤ 1000000000) : Calls Tryz.prog 136 #[.string s, .bool z] w fun e w' => e = .returned (.bool (Idn.dec2 (L s) z)) ∧ w = w' := by
  generalize hr : Idn.dec2 (L s) z = r
  have HR : Hid (r = Idn.dec2 (L s) z) := hr.symm
  clear hr
  unfold Idn.dec2 at HR
  by_cases h0 : 0 < s.size
  case neg =>
    have HF : Hid (r = false) := by show _ = _; rw [HR.out, empty_true s h0]; rfl
    have e0 : ((s.size : Int) == 0) = true := by rw [beq_iff_eq]; omega
    clear HR h0
    go_enter Tryz.func136, Tryz.ntmps136
    go_wp2
    go_ret
    exact ⟨ret_bool HF.out.symm, rfl⟩
  have e0 : ((s.size : Int) == 0) = false := by rw [beq_eq_false_iff_ne]; omega
  have h0I : (0 : Int) < (s.size : Int) := by omega
  have HQ : Hid (r = ((!(s[0] == 48) || (decide (s.size = 1) && z)) && (L s).all Idn.digit)) := by show _ = _; rw [HR.out, empty_false s h0, head_L s h0]; rfl
  have hway : (s[0] = 48 ∧ 1 < s.size) ∨ (s[0] = 48 ∧ s.size = 1 ∧ z = false) ∨ (s[0] = 48 ∧ s.size = 1 ∧ z = true) ∨ ¬ s[0] = 48 := by
    by_cases h : s[0] = 48
    · by_cases h1 : 1 < s.size
      · exact .inl ⟨h, h1⟩
      · cases z
        · exact .inr (.inl ⟨h, by omega, rfl⟩)
        · exact .inr (.inr (.inl ⟨h, by omega, rfl⟩))
    · exact .inr (.inr (.inr h))
  clear HR
  rcases hway with ⟨h, h1⟩ | ⟨h, h1, rfl⟩ | hway
  · have HF : Hid (r = false) := by
      show _ = _
      have : decide (s.size = 1) = false := decide_eq_false (by omega)
      rw [HQ.out, h, this]; simp
    have e1 : ((s[0].toNat : Int) == 48) = true := byte_is (d := 48) h
    have h1I : (1 : Int) < (s.size : Int) := by omega
    clear HQ h h1
    go_enter Tryz.func136, Tryz.ntmps136
    go_wp2
    go_ret
    exact ⟨ret_bool HF.out.symm, rfl⟩
  · have HF : Hid (r = false) := by show _ = _; rw [HQ.out, h]; simp
    have e1 : ((s[0].toNat : Int) == 48) = true := byte_is (d := 48) h
    have h1I : ¬ (1 : Int) < (s.size : Int) := by omega
    clear HQ h h1
    go_enter Tryz.func136, Tryz.ntmps136
    go_wp2
    go_ret
    exact ⟨ret_bool HF.out.symm, rfl⟩
  · have HF : Hid (r = (L s).all Idn.digit) := by
      show _ = _
      rw [HQ.out]
      rcases hway with ⟨h, h1, rfl⟩ | h
      · rw [decide_eq_true h1]; simp
      · have : (s[0] == 48) = false := by simpa using h
        rw [this]; simp
    have hl : (((s[0].toNat : Int) == 48) = true ∧ ¬ (1 : Int) < (s.size : Int) ∧ z = true) ∨ ((s[0].toNat : Int) == 48) = false := by
      rcases hway with ⟨h, h1, rfl⟩ | h
      · exact .inl ⟨byte_is (d := 48) h, by omega, rfl⟩
      · exact .inr (byte_not (d := 48) h)
    clear HQ hway
    rcases hl with ⟨e1, h1I, rfl⟩ | e1
    all_goals
      go_enter Tryz.func136, Tryz.ntmps136
      go_wp2
      go_loop [5] (fun i => ∃ k : Nat, k ≤ s.size ∧ i = .int .i64 k ∧ Hid (r = ((L s).drop k).all Idn.digit)) (fun i => s.size - (intOf i).toNat)
      case atStart => exact ⟨0, Nat.zero_le _, rfl, by show _ = _; rw [HF.out]; rfl⟩
      case round =>
        obtain ⟨k, hk, rfl, hinv⟩ := hrel
        by_cases hlt : k < s.size
        · have hltI : (k : Int) < (s.size : Int) := by omega
          have hd := drop_L s k hlt
          by_cases h1 : (s[k].toNat : Int) < 48
          · have HG : Hid (r = false) := by
              show _ = _
              have : Idn.digit s[k] = false := by unfold Idn.digit; rw [Bool.and_eq_false_iff, decide_eq_false_iff_not]; left; omega
              rw [hinv.out, hd, List.all_cons, this]; rfl
            clear hd hinv HF
            go_wp2
            go_ret
            exact ⟨ret_bool HG.out.symm, rfl⟩
          · by_cases h2 : (57 : Int) < (s[k].toNat : Int)
            · have HG : Hid (r = false) := by
                show _ = _
                have : Idn.digit s[k] = false := by unfold Idn.digit; rw [Bool.and_eq_false_iff, decide_eq_false_iff_not, decide_eq_false_iff_not]; right; omega
                rw [hinv.out, hd, List.all_cons, this]; rfl
              clear hd hinv HF
              go_wp2
              go_ret
              exact ⟨ret_bool HG.out.symm, rfl⟩
            · have HG : Hid (r = ((L s).drop (k + 1)).all Idn.digit) := by
                show _ = _
                have : Idn.digit s[k] = true := by rw [Idn.digit_iff]; omega
                rw [hinv.out, hd, List.all_cons, this]; rfl
              clear hd hinv HF
              go_wp2
              go_round
              case rel => exact ⟨k + 1, by omega, by go_num, HG⟩
              case measure => simp [intOf]; omega
        · have hltI : ¬ (k : Int) < (s.size : Int) := by omega
          have HG : Hid (r = true) := by show _ = _; rw [hinv.out, drop_end s k hlt]; rfl
          clear hinv HF
          go_wp2
          go_ret
          exact ⟨ret_bool HG.out.symm, rfl⟩
theorem valF_take (t : ByteArray) (k : Nat) (hk : k < t.size) : Idn.valF 0 ((L t).take (k + 1)) = Idn.valF 0 ((L t).take k) * 10 + (t[k].toNat - 48) := by
  rw [take_L t k hk, Idn.valF_app]
theorem valF_mono (t : ByteArray) (k : Nat) : Idn.valF 0 ((L t).take k) ≤ Idn.valF 0 (L t) := by
  have e : L t = (L t).take k ++ (L t).drop k := (List.take_append_drop k _).symm
  have h : Idn.valF 0 (L t) = Idn.valF (Idn.valF 0 ((L t).take k)) ((L t).drop k) := by
    unfold Idn.valF
    rw [← List.foldl_append, ← e]
  rw [h]
  exact Idn.valF_ge _ _
theorem least_quo {c : Nat} (h1 : 48 ≤ c) (h2 : c ≤ 57) : Int.tdiv (-9223372036854775808 + ((c : Int) - 48)) 10 = -((9223372036854775808 - ((c : Int) - 48)) / 10) := by
  rw [show -9223372036854775808 + ((c : Int) - 48) = -(9223372036854775808 - ((c : Int) - 48)) by omega, Int.neg_tdiv, Int.tdiv_eq_ediv_of_nonneg (by omega)]
set_option maxHeartbeats 2000000 in
set_option maxRecDepth 100000 in
theorem r_ReadInt_any (s : ByteArray) (w : World) (hs : s.size ≤ 1000000000) : Calls Tryz.prog 91 #[.string s] w fun e w' => e = .returned (.tuple #[.int .i64 (Idn.read2 (L s)).1, .int .i64 (Idn.read2 (L s)).2]) ∧ w = w' := by
  generalize hr : Idn.read2 (L s) = r
  have HR : Hid (r = Idn.read2 (L s)) := hr.symm
  clear hr
  unfold Idn.read2 at HR
  -- the string without its sign
  obtain ⟨t, m, hm, hts, hmag, hway⟩ : ∃ (t : ByteArray) (m : Bool), m = Idn.isMinus (L s) ∧ t.size ≤ s.size ∧ L t = Idn.mag2 (L s) ∧
      ((m = true ∧ 0 < s.size ∧ t = s.extract 1 s.size ∧ ∃ h : 0 < s.size, ((s[0].toNat : Int) == 45) = true) ∨ (m = false ∧ t = s ∧ (¬ 0 < s.size ∨ ∃ h : 0 < s.size, ((s[0].toNat : Int) == 45) = false))) := by
    by_cases h0 : 0 < s.size
    · have hd := drop_L s 0 h0
      simp only [List.drop_zero] at hd
      by_cases h45 : s[0] = 45
      · have hm : Idn.isMinus (L s) = true := by rw [hd, h45]; rfl
        refine ⟨s.extract 1 s.size, true, hm.symm, by simp, ?_, .inl ⟨rfl, h0, rfl, h0, byte_is (d := 45) h45⟩⟩
        unfold Idn.mag2
        rw [hm, if_pos rfl, extract_drop, Idn.L_B]
        conv => rhs; rw [hd]
        rfl
      · have hm : Idn.isMinus (L s) = false := by rw [hd]; simpa [Idn.isMinus] using h45
        refine ⟨s, false, hm.symm, Nat.le_refl _, ?_, .inr ⟨rfl, rfl, .inr ⟨h0, byte_not (d := 45) h45⟩⟩⟩
        unfold Idn.mag2
        rw [hm]; rfl
    · have he : L s = [] := by have := drop_end s 0 h0; simpa using this
      refine ⟨s, false, by rw [he]; rfl, Nat.le_refl _, by rw [he]; rfl, .inr ⟨rfl, rfl, .inl h0⟩⟩
  rw [← hmag, ← hm] at HR
  have hD := fun W => r_decimal_any t (!m) W (by omega)
  have hve := fun k => valF_mono t k
  have hvt := fun k hk => valF_take t k hk
  cases hdec : Idn.dec2 (L t) (!m)
  · rw [hdec] at hD
    have HF : Hid (r = (0, 4)) := by show _ = _; rw [HR.out, hdec]; rfl
    clear HR hdec hm hmag hve hvt
    rcases hway with ⟨rfl, h0, rfl, h00, e1⟩ | ⟨rfl, rfl, h0 | ⟨h0, e1⟩⟩
    all_goals
      go_enter Tryz.func91, Tryz.ntmps91
      go_wp2_with (go_at_call 136; refine (hD _).mono ?_; rintro e w1 ⟨rfl, rfl⟩)
      go_ret2
      exact ⟨by rw [HF.out]; rfl, rfl⟩
  · rw [hdec] at hD
    have hall : (L t).all Idn.digit = true := by
      unfold Idn.dec2 at hdec
      simp only [Bool.and_eq_true] at hdec
      exact hdec.2.2
    have hdig : ∀ (k : Nat) (hk : k < t.size), 48 ≤ t[k].toNat ∧ t[k].toNat ≤ 57 := fun k hk => by
      have := List.all_eq_true.1 hall t[k] (by rw [← Idn.get_L t k hk]; exact List.getElem_mem _)
      exact (Idn.digit_iff _).1 this
    have HQ : Hid (r = if m = true then (if Idn.valF 0 (L t) ≤ 9223372036854775808 then (-(Idn.valF 0 (L t) : Int), 0) else (0, 27)) else if Idn.valF 0 (L t) < 9223372036854775808 then ((Idn.valF 0 (L t) : Int), 0) else (0, 27)) := by
      show _ = _; rw [HR.out, hdec]; rfl
    have HDG : Hid (∀ (k : Nat) (hk : k < t.size), 48 ≤ t[k].toNat ∧ t[k].toNat ≤ 57) := hdig
    have HVE : Hid (∀ k, Idn.valF 0 ((L t).take k) ≤ Idn.valF 0 (L t)) := hve
    have HVT : Hid (∀ k (hk : k < t.size), Idn.valF 0 ((L t).take (k + 1)) = Idn.valF 0 ((L t).take k) * 10 + (t[k].toNat - 48)) := hvt
    have hfin : (L t).take t.size = L t := List.take_of_length_le (by rw [← size_L]; omega)
    have HFIN := Lib.hid hfin
    clear HR hdec hm hmag hve hvt hall hdig hfin
    have hbig : ∀ v : Nat, (9223372036854775808 : Nat) < v → v ≤ Idn.valF 0 (L t) → r = (0, 27) := fun v h1 h2 => by
      rw [HQ.out]
      cases m
      · rw [if_neg (by decide), if_neg (by omega)]
      · rw [if_pos rfl, if_neg (by omega)]
    have HBIG : Hid (∀ v : Nat, (9223372036854775808 : Nat) < v → v ≤ Idn.valF 0 (L t) → r = (0, 27)) := hbig
    clear hbig
    have hwt : t.size ≤ 1000000000 := by omega
    rcases hway with ⟨rfl, h0, rfl, h00, e1⟩ | ⟨rfl, rfl, h0 | ⟨h0, e1⟩⟩
    all_goals
      go_enter Tryz.func91, Tryz.ntmps91
      go_wp2_with (go_at_call 136; refine (hD _).mono ?_; rintro e w1 ⟨rfl, rfl⟩)
      clear hD
    generalize s.extract 1 s.size = t at *
    all_goals
      try generalize s = t at hwt HDG HVE HVT HFIN HBIG HQ hs ⊢
      go_loop [7, 8] (fun n i => ∃ k v : Nat, k ≤ t.size ∧ i = .int .i64 k ∧ n = .int .i64 (-(v : Int)) ∧ v ≤ 9223372036854775808 ∧ Hid (v = Idn.valF 0 ((L t).take k))) (fun _ i => t.size - (intOf i).toNat)
      case atStart => exact ⟨0, 0, Nat.zero_le _, rfl, rfl, Nat.zero_le _, by show _ = _; simp [Idn.valF]⟩
      case round =>
        obtain ⟨k, v, hk, rfl, rfl, hb9, hv⟩ := hrel
        by_cases hlt : k < t.size
        · have hltI : (k : Int) < (t.size : Int) := by omega
          obtain ⟨c, hc, d1, d2, hst, hmo⟩ : ∃ c : Nat, t[k].toNat = c ∧ 48 ≤ c ∧ c ≤ 57 ∧ Hid (v * 10 + (c - 48) = Idn.valF 0 ((L t).take (k + 1))) ∧ Hid (v * 10 + (c - 48) ≤ Idn.valF 0 (L t)) :=
            ⟨_, rfl, (HDG.out k hlt).1, (HDG.out k hlt).2, by show _ = _; rw [hv.out]; exact (HVT.out k hlt).symm, by show _ ≤ _; rw [hv.out, ← HVT.out k hlt]; exact HVE.out (k + 1)⟩
          have hcI : (t[k].toNat : Int) = (c : Int) := by rw [hc]
          clear hc hv
          have d1I : (48 : Int) ≤ (c : Int) := by omega
          have d2I : (c : Int) ≤ 57 := by omega
          by_cases hov : 9223372036854775808 < v * 10 + (c - 48)
          · have HF : Hid (r = (0, 27)) := by show _ = _; exact HBIG.out _ hov hmo.out
            have hq : -(v : Int) < Int.tdiv (-9223372036854775808 + ((c : Int) - 48)) 10 := by rw [least_quo d1 d2]; omega
            clear hmo hst
            go_wp2
            go_ret2
            exact ⟨by rw [HF.out]; rfl, rfl⟩
          · have hq : ¬ -(v : Int) < Int.tdiv (-9223372036854775808 + ((c : Int) - 48)) 10 := by rw [least_quo d1 d2]; omega
            have hv10 : (v : Int) * 10 + ((c : Int) - 48) ≤ 9223372036854775808 := by omega
            have m1 : IntKind.i64.wrap (10 * -(v : Int)) = 10 * -(v : Int) := IntWalk.i64_in _ ⟨by omega, by omega⟩
            have m2 : IntKind.i64.wrap (10 * -(v : Int) - ((c : Int) - 48)) = 10 * -(v : Int) - ((c : Int) - 48) := IntWalk.i64_in _ ⟨by omega, by omega⟩
            clear hmo
            go_wp2
            go_round
            case rel => exact ⟨k + 1, v * 10 + (c - 48), by omega, by go_num, by first | rfl | (congr 1; omega), by omega, hst⟩
            case measure => simp [intOf]; omega
        · have hltI : ¬ (k : Int) < (t.size : Int) := by omega
          have hv2 : v = Idn.valF 0 (L t) := by rw [hv.out, show k = t.size by omega, HFIN.out]
          rw [← hv2] at HQ
          clear HVT HVE HBIG HDG HFIN hv hv2
          first
          | (have HF : Hid (r = (-(v : Int), 0)) := by show _ = _; rw [HQ.out]; first | rw [if_pos rfl, if_pos hb9] | rw [if_pos trivial, if_pos hb9]
             clear HQ
             go_wp2
             go_ret2
             exact ⟨by rw [HF.out] <;> rfl, rfl⟩)
          | (by_cases h9 : v = 9223372036854775808
             · have HF : Hid (r = (0, 27)) := by show _ = _; rw [HQ.out, if_neg (by decide), if_neg (by omega)]
               have e9 : (-(v : Int) == -9223372036854775808) = true := by rw [beq_iff_eq]; omega
               clear HQ h9
               go_wp2
               go_ret2
               exact ⟨by rw [HF.out]; rfl, rfl⟩
             · have HF : Hid (r = ((v : Int), 0)) := by show _ = _; rw [HQ.out, if_neg (by decide), if_pos (by omega)]
               have e9 : (-(v : Int) == -9223372036854775808) = false := by rw [beq_eq_false_iff_ne]; omega
               have m1 : IntKind.i64.wrap (- -(v : Int)) = v := by rw [Int.neg_neg]; exact IntWalk.i64_in _ ⟨by omega, by omega⟩
               clear HQ
               go_wp2
               go_ret2
               exact ⟨by rw [HF.out] <;> rfl, rfl⟩)
end Go.Proofs.YtnikolglippfmaaGreatDoor
