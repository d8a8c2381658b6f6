/- Part 38 of the proof that what Parse reads of a class's description is what the text says, and what it writes Parse reads back: the package variables hold what the program lays; nothing else is asked. -/
import Derived.Test.YtnikolglippfmaaGreatDoorTxs13
import Derived.Test.YtnikolglippfmaaGreatDoorTxs33
import Derived.Test.YtnikolglippfmaaGreatDoorTxs37
/- schema: read. -/
namespace Go.Proofs.YtnikolglippfmaaGreatDoor
open Go.RowKit Go.Sort
open Idn (L B Bs drop_L take_L size_L)
def rowT (l : List Idn.AT) : List Value := l.flatMap fun t => [sv t.name, .int .i64 t.syn, .bool t.single]
def TyOwn (w : World) (base : Nat) (v : Value) (l : List Idn.AT) : Prop := w.ownsRow base 58 3 v l.length (rowT l)
abbrev ClP := Idn.Cl × (Value × Value)
def rowC (ps : List ClP) : List Value := ps.flatMap fun p => [sv p.1.name, sv p.1.super, p.2.1, p.2.2]
def ClOwn (w : World) (base : Nat) (v : Value) (ps : List ClP) : Prop :=
  w.ownsRow base 50 4 v ps.length (rowC ps) ∧ ∀ p ∈ ps, w.ownsRow base 9 1 p.2.1 p.1.must.length (p.1.must.map sv) ∧ w.ownsRow base 9 1 p.2.2 p.1.may.length (p.1.may.map sv)
theorem TyOwn.keep {w w' : World} {base : Nat} {v : Value} {l : List Idn.AT} (h : TyOwn w base v l) (hb : Below w.heap.size w w') : TyOwn w' base v l := own_below h hb
theorem ClOwn.keep {w w' : World} {base : Nat} {v : Value} {ps : List ClP} (h : ClOwn w base v ps) (hb : Below w.heap.size w w') : ClOwn w' base v ps :=
  ⟨own_below h.1 hb, fun p hp => ⟨own_below (h.2 p hp).1 hb, own_below (h.2 p hp).2 hb⟩⟩
theorem rowT_snoc (l : List Idn.AT) (t : Idn.AT) : rowT (l ++ [t]) = rowT l ++ [sv t.name, .int .i64 t.syn, .bool t.single] := by unfold rowT; rw [List.flatMap_append]; rfl
theorem rowC_snoc (l : List ClP) (t : ClP) : rowC (l ++ [t]) = rowC l ++ [sv t.1.name, sv t.1.super, t.2.1, t.2.2] := by unfold rowC; rw [List.flatMap_append]; rfl
theorem TyOwn.nil (w : World) (base : Nat) : TyOwn w base (.slice none 0 0) [] := World.ownsRow_nil _ _ _ _
theorem ClOwn.nil (w : World) (base : Nat) : ClOwn w base (.slice none 0 0) [] := ⟨World.ownsRow_nil _ _ _ _, by simp⟩
/-- a store into a block that is none of them -/
theorem TyOwn.set {w : World} {base : Nat} {v : Value} {l : List Idn.AT} (h : TyOwn w base v l) {p i : Nat} (u : Value) (hp : v.ownBlock ≠ some p) : TyOwn (w.setCell ⟨p, i, none⟩ u) base v l := ownsRow_setCell_other h hp u
theorem ClOwn.set {w : World} {base : Nat} {v : Value} {ps : List ClP} (h : ClOwn w base v ps) {p i : Nat} (u : Value) (hp : v.ownBlock ≠ some p) (hp2 : ∀ q ∈ ps, q.2.1.ownBlock ≠ some p ∧ q.2.2.ownBlock ≠ some p) : ClOwn (w.setCell ⟨p, i, none⟩ u) base v ps :=
  ⟨ownsRow_setCell_other h.1 hp u, fun q hq => ⟨ownsRow_setCell_other (h.2 q hq).1 (hp2 q hq).1 u, ownsRow_setCell_other (h.2 q hq).2 (hp2 q hq).2 u⟩⟩
/-- another row has grown -/
theorem TyOwn.kept {w w' : World} {base : Nat} {v u : Value} {l : List Idn.AT} {ps : List ClP} (h : TyOwn w base v l) (hC : ClOwn w base u ps) (hg : w.grownBy w' u.ownBlock) : TyOwn w' base v l :=
  own_kept h hg fun g h1 h2 => own_apart hC.1 h (by decide) g h2 h1
theorem ClOwn.kept {w w' : World} {base : Nat} {v u : Value} {l : List Idn.AT} {ps : List ClP} (h : ClOwn w base v ps) (hT : TyOwn w base u l) (hg : w.grownBy w' u.ownBlock) : ClOwn w' base v ps :=
  ⟨own_kept h.1 hg fun g h1 h2 => own_apart hT h.1 (by decide) g h2 h1, fun p hp => ⟨own_kept (h.2 p hp).1 hg fun g h1 h2 => own_apart hT (h.2 p hp).1 (by decide) g h2 h1, own_kept (h.2 p hp).2 hg fun g h1 h2 => own_apart hT (h.2 p hp).2 (by decide) g h2 h1⟩⟩
theorem ClOwn.push {w w' : World} {base : Nat} {v v' : Value} {ps : List ClP} {c : Idn.Cl} {a b : Value} (h : ClOwn w base v ps) (ha : w.ownsRow base 9 1 a c.must.length (c.must.map sv)) (hb : w.ownsRow base 9 1 b c.may.length (c.may.map sv))
    (hown : w'.ownsRow base 50 4 v' (ps.length + 1) (rowC ps ++ [sv c.name, sv c.super, a, b])) (hg : w.grownBy w' v.ownBlock) : ClOwn w' base v' (ps ++ [(c, (a, b))]) := by
  refine ⟨by rw [List.length_append, rowC_snoc]; exact hown, fun p hp => ?_⟩
  rcases List.mem_append.1 hp with hp | hp
  · exact ⟨own_kept (h.2 p hp).1 hg fun g h1 h2 => own_apart h.1 (h.2 p hp).1 (by decide) g h2 h1, own_kept (h.2 p hp).2 hg fun g h1 h2 => own_apart h.1 (h.2 p hp).2 (by decide) g h2 h1⟩
  · simp at hp; subst hp
    exact ⟨own_kept ha hg fun g h1 h2 => own_apart h.1 ha (by decide) g h2 h1, own_kept hb hg fun g h1 h2 => own_apart h.1 hb (by decide) g h2 h1⟩
theorem rowT_at : ∀ (l : List Idn.AT) (i : Nat) (t : Idn.AT), l[i]? = some t → (rowT l)[i * 3]? = some (sv t.name) ∧ (rowT l)[i * 3 + 1]? = some (.int .i64 t.syn) ∧ (rowT l)[i * 3 + 2]? = some (.bool t.single)
  | [], i, p, h => by simp at h
  | q :: ps, 0, p, h => by simp at h; subst h; exact ⟨rfl, rfl, rfl⟩
  | q :: ps, i + 1, p, h => by
    have := rowT_at ps i p (by simpa using h)
    have e : rowT (q :: ps) = sv q.name :: .int .i64 q.syn :: .bool q.single :: rowT ps := rfl
    rw [e, show (i + 1) * 3 = i * 3 + 1 + 1 + 1 by omega, show i * 3 + 1 + 1 + 1 + 1 = (i * 3 + 1) + 1 + 1 + 1 by omega, show i * 3 + 1 + 1 + 1 + 2 = (i * 3 + 2) + 1 + 1 + 1 by omega]
    simpa using this
theorem rowC_at : ∀ (l : List ClP) (i : Nat) (t : ClP), l[i]? = some t → (rowC l)[i * 4]? = some (sv t.1.name) ∧ (rowC l)[i * 4 + 1]? = some (sv t.1.super) ∧ (rowC l)[i * 4 + 2]? = some t.2.1 ∧ (rowC l)[i * 4 + 3]? = some t.2.2
  | [], i, p, h => by simp at h
  | q :: ps, 0, p, h => by simp at h; subst h; exact ⟨rfl, rfl, rfl, rfl⟩
  | q :: ps, i + 1, p, h => by
    have := rowC_at ps i p (by simpa using h)
    have e : rowC (q :: ps) = sv q.1.name :: sv q.1.super :: q.2.1 :: q.2.2 :: rowC ps := rfl
    rw [e, show (i + 1) * 4 = i * 4 + 1 + 1 + 1 + 1 by omega, show i * 4 + 1 + 1 + 1 + 1 + 1 = (i * 4 + 1) + 1 + 1 + 1 + 1 by omega, show i * 4 + 1 + 1 + 1 + 1 + 2 = (i * 4 + 2) + 1 + 1 + 1 + 1 by omega, show i * 4 + 1 + 1 + 1 + 1 + 3 = (i * 4 + 3) + 1 + 1 + 1 + 1 by omega]
    simpa using this
theorem TyOwn.types {w : World} {base : Nat} {v : Value} {l : List Idn.AT} (h : TyOwn w base v l) : TypesV w w.heap.size v l :=
  SlV.own h fun i x hx => ⟨[sv x.name, .int .i64 x.syn, .bool x.single], rfl, rfl, fun j u hu => by
    have h1 := rowT_at l i x hx
    match j, hu with
    | 0, hu => simp at hu; subst hu; exact h1.1
    | 1, hu => simp at hu; subst hu; exact h1.2.1
    | 2, hu => simp at hu; subst hu; exact h1.2.2⟩
theorem ClOwn.classes {w : World} {base : Nat} {v : Value} {ps : List ClP} {l : List Idn.Cl} (h : ClOwn w base v ps) (hl : ps.map (·.1) = l) : ClassesV w w.heap.size v l := by
  subst hl
  have h0 := h.1
  rw [show ps.length = (ps.map (·.1)).length by simp] at h0
  refine SlV.own h0 fun i x hx => ?_
  rw [List.getElem?_map] at hx
  obtain ⟨p, hp, rfl⟩ := Option.map_eq_some_iff.1 hx
  have h1 := rowC_at ps i p hp
  have h2 := h.2 p (List.mem_of_getElem? hp)
  refine ⟨[sv p.1.name, sv p.1.super, p.2.1, p.2.2], rfl, ⟨_, _, rfl, StrsV.of_own h2.1, StrsV.of_own h2.2⟩, fun j u hu => ?_⟩
  match j, hu with
  | 0, hu => simp at hu; subst hu; exact h1.1
  | 1, hu => simp at hu; subst hu; exact h1.2.1
  | 2, hu => simp at hu; subst hu; exact h1.2.2.1
  | 3, hu => simp at hu; subst hu; exact h1.2.2.2
theorem TyOwn.drew {w : World} {base : Nat} {v : Value} {l : List Idn.AT} (h : TyOwn w base v l) : TyOwn w.drew base v l := h
theorem ClOwn.drew {w : World} {base : Nat} {v : Value} {ps : List ClP} (h : ClOwn w base v ps) : ClOwn w.drew base v ps := h
theorem TyOwn.lt {w : World} {base : Nat} {v : Value} {l : List Idn.AT} (h : TyOwn w base v l) {p : Nat} (hp : w.heap.size ≤ p) : v.ownBlock ≠ some p := fun e => by have := own_lt h e; omega
theorem ClOwn.lt {w : World} {base : Nat} {v : Value} {ps : List ClP} (h : ClOwn w base v ps) {p : Nat} (hp : w.heap.size ≤ p) : v.ownBlock ≠ some p ∧ ∀ q ∈ ps, q.2.1.ownBlock ≠ some p ∧ q.2.2.ownBlock ≠ some p :=
  ⟨fun e => by have := own_lt h.1 e; omega, fun q hq => ⟨fun e => by have := own_lt (h.2 q hq).1 e; omega, fun e => by have := own_lt (h.2 q hq).2 e; omega⟩⟩
/-- what a line adds to a schema -/
def rdLine (s : Idn.Sch) (line : Bs) : Idn.Sch × Bool :=
  if (Idn.cutC 32 line).headD [] = [116, 121, 112, 101] then (⟨s.types ++ [(rdType (Idn.cutC 32 line)).1], s.classes⟩, (rdType (Idn.cutC 32 line)).2 && s.classes.isEmpty)
  else if (Idn.cutC 32 line).headD [] = [99, 108, 97, 115, 115] then (⟨s.types, s.classes ++ [(rdClass (Idn.cutC 32 line)).1]⟩, (rdClass (Idn.cutC 32 line)).2)
  else (s, false)

def RetRd (w : World) (base : Nat) (r : Idn.Sch × Bool) (e : Ending) (w' : World) : Prop :=
  ∃ vT vC ps, e = .returned (.tuple #[.agg #[vT, vC], .bool r.2]) ∧ TyOwn w' base vT r.1.types ∧ ClOwn w' base vC ps ∧ ps.map (·.1) = r.1.classes ∧ Below base w w'
set_option maxHeartbeats 2000000 in
set_option maxRecDepth 100000 in
theorem read_type (s : Idn.Sch) (AT AC : Option Addr) (dT dC : Nat) (ps : List ClP) (x : ByteArray) (base : Nat) (w : World) (hT : TyOwn w base (.slice AT s.types.length dT) s.types) (hC : ClOwn w base (.slice AC ps.length dC) ps) (hps : ps.map (·.1) = s.classes) (hbase : base ≤ w.heap.size) (hE : Env w) (hx : x.size ≤ 1000000) (hlT : s.types.length ≤ 1000000)
    (ws : List Bs) (hwe : Idn.cutC 32 (L x) = ws) (x0 : Bs) (hx0 : ws[0]? = some x0) (h0 : x0 = [116, 121, 112, 101]) (hws : ∀ y ∈ ws, y.length ≤ 1000000000) (hwl : ws.length ≤ 1000000000) :
    Calls Tryz.prog 65 #[.agg #[.slice AT s.types.length dT, .slice AC ps.length dC], .string x] w (RetRd w base (⟨s.types ++ [(rdType ws).1], s.classes⟩, (rdType ws).2 && s.classes.isEmpty)) := by
  have hcl : s.classes.isEmpty = decide (ps.length = 0) := by rw [← hps]; cases ps <;> simp
  rw [hcl]
  generalize hr : ((⟨s.types ++ [(rdType ws).1], s.classes⟩ : Idn.Sch), (rdType ws).2 && decide (ps.length = 0)) = r
  have HR := Lib.hid hr.symm
  clear hr
  have hw0 : 0 < ws.length := (List.getElem?_eq_some_iff.1 hx0).1
  have hw0I : (0 : Int) < (ws.length : Int) := by omega
  have HPS := Lib.hid hps
  have HX0 := Lib.hid hx0
  have HWE := Lib.hid hwe
  have hx00 : L (B x0) = x0 := rfl
  have tt0 : ((B x0).toList == [116, 121, 112, 101]) = true := by rw [toList_L, Idn.L_B, h0]; rfl
  clear hps hx0 hwe h0 hx00
  go_enter Tryz.func65, Tryz.ntmps65
  go_wp2_with fail
  with_reducible refine gen2g (R := fun W => Calls Tryz.prog 112 _ W _) ?_
  intro W hbW hszW hc1 hc2 hf1 hf2
  have b0 : W.cell? ⟨w.heap.size, 0, none⟩ = some (.slice AT s.types.length dT) := hc1 0 _ rfl
  have b1 : W.cell? ⟨w.heap.size, 1, none⟩ = some (.slice AC ps.length dC) := hc1 1 _ rfl
  have r0 : W.cell? ⟨w.heap.size + 1, 0, none⟩ = some (.slice none 0 0) := hc2 0 _ rfl
  have r1 : W.cell? ⟨w.heap.size + 1, 1, none⟩ = some (.slice none 0 0) := hc2 1 _ rfl
  have f0 := hf2 0
  have f1 := hf2 1
  have g0 := hf1 0
  have g1 := hf1 1
  clear hc1 hc2 hf1 hf2
  have hSp := split_any x 32 W (hE.keep hbW) (by omega)
  rw [HWE.out] at hSp
  refine hSp.mono ?_
  clear hSp
  rintro e w1 ⟨v1, rfl, o1, hb1⟩
  have hl1 : w.heap.size + 1 < W.heap.size := by omega
  replace b0 := cell_later hb1 b0
  replace b1 := cell_later hb1 b1
  replace r0 := cell_later hb1 r0
  replace r1 := cell_later hb1 r1
  replace f0 := frozen_later hb1 f0 hl1
  replace f1 := frozen_later hb1 f1 hl1
  replace g0 := frozen_later hb1 g0 (by omega)
  replace g1 := frozen_later hb1 g1 (by omega)
  have hbw1 := hbW.trans (hb1.mono hbW.size)
  have hl2 : w.heap.size + 1 < w1.heap.size := by have := hb1.size; omega
  clear hszW hl1
  have hS1 := StrsV.of_own o1
  obtain ⟨A1, d1, hv1⟩ := own_shape o1
  subst hv1
  obtain ⟨bb, off, hA1, _, c0⟩ := strs_at hS1 HX0.out
  subst hA1
  rw [Nat.add_zero] at c0
  clear o1
  have hRT := readType_any _ ws w1 hS1 hws hwl
  generalize rdType ws = rt at *
  obtain ⟨⟨tn, ty, ts⟩, ok⟩ := rt
  unfold tyV sv at hRT
  dsimp only at hRT HR
  clear hS1
  go_wp2_with fail
  refine hRT.mono ?_
  rintro e w2 ⟨rfl, hb2⟩
  replace b0 := cell_later hb2 b0
  replace b1 := cell_later hb2 b1
  replace r0 := cell_later hb2 r0
  replace r1 := cell_later hb2 r1
  replace f0 := frozen_later hb2 f0 hl2
  replace f1 := frozen_later hb2 f1 hl2
  replace g0 := frozen_later hb2 g0 (by omega)
  replace g1 := frozen_later hb2 g1 (by omega)
  have hbw2 := hbw1.trans (hb2.mono hbw1.size)
  have hl3 : w.heap.size + 1 < w2.heap.size := by have := hb2.size; omega
  clear hRT c0 hb2 hl2
  have ba := (Below.refl w2.heap.size w2).alloc (Nat.le_refl _) (.cells #[.string (B tn), .int .i64 ty, .bool ts] 58)
  have hT3 := (hT.keep hbw2).keep ba
  have hC3 := (hC.keep hbw2).keep ba
  replace b0 := cell_later ba b0
  replace b1 := cell_later ba b1
  replace r0 := cell_later ba r0
  replace r1 := cell_later ba r1
  replace f0 := frozen_later ba f0 hl3
  replace f1 := frozen_later ba f1 hl3
  replace g0 := frozen_later ba g0 (by omega)
  replace g1 := frozen_later ba g1 (by omega)
  have hbw3 := hbw2.trans (ba.mono hbw2.size)
  have Hsza : Hid ((w2.alloc (.cells #[.string (B tn), .int .i64 ty, .bool ts] 58)).heap.size = w2.heap.size + 1) := by show _ = _; simp
  have hbs : base ≤ (w2.alloc (.cells #[.string (B tn), .int .i64 ty, .bool ts] 58)).heap.size := Nat.le_trans hbase hbw3.size
  have hl4 : w.heap.size + 1 < (w2.alloc (.cells #[.string (B tn), .int .i64 ty, .bool ts] 58)).heap.size := by have := Hsza.out; omega
  go_wp2_with (at_builtin; refine wpList_push (w2.alloc (.cells #[.string (B tn), .int .i64 ty, .bool ts] 58)) rfl _ _ 22 rfl base 58 (.agg #[.string ⟨#[]⟩, .int .i64 0, .bool false]) 3 32 Tryz.underlying22 info_at rfl (by decide) _ s.types.length _ hT3 rfl [.string (B tn), .int .i64 ty, .bool ts] (by rw [Hsza.out]; rfl) rfl (by intro u hu; simp at hu; rcases hu with rfl | rfl | rfl <;> rfl) (by omega) hbs ?_ rfl)
  intro v' w3 hown' hg' hat' hb3 _
  obtain ⟨A3, d3, hu⟩ := own_shape hown'
  subst hu
  have sT0 := hT.lt (Nat.le_refl w.heap.size)
  have sT1 := hT.lt (Nat.le_succ w.heap.size)
  obtain ⟨sC0, sL0⟩ := hC.lt (Nat.le_refl w.heap.size)
  obtain ⟨sC1, sL1⟩ := hC.lt (Nat.le_succ w.heap.size)
  have hTF : TyOwn w3 base (.slice A3 (s.types.length + 1) d3) (s.types ++ [⟨tn, ty, ts⟩]) := by
    unfold TyOwn
    rw [List.length_append, rowT_snoc]
    exact hown'
  have hCF : ClOwn w3 base (.slice AC ps.length dC) ps := hC3.kept hT3 hg'
  have sN : ∀ p, p ≤ w.heap.size + 1 → w.heap.size ≤ p → (Value.slice A3 (s.types.length + 1) d3).ownBlock ≠ some p := fun p h1 h2 e => by
    rcases hat' with h | h
    · rw [h] at e; exact hT.lt h2 e
    · rw [h] at e; injection e with e; omega
  replace b0 := grown_cell hg' b0 (fun e => sT0 e.symm)
  replace b1 := grown_cell hg' b1 (fun e => sT0 e.symm)
  replace r0 := grown_cell hg' r0 (fun e => sT1 e.symm)
  replace r1 := grown_cell hg' r1 (fun e => sT1 e.symm)
  replace f0 := grown_frozen hg' hl4 f0 (fun e => sT1 e.symm)
  replace f1 := grown_frozen hg' hl4 f1 (fun e => sT1 e.symm)
  replace g0 := grown_frozen hg' (by omega) g0 (fun e => sT0 e.symm)
  replace g1 := grown_frozen hg' (by omega) g1 (fun e => sT0 e.symm)
  have hbF : Below base w w3 := (hbw3.mono hbase).trans hb3
  clear hT3 hC3 hown' hg' hat' ba hb3 sT0 sT1 hbs
  have sN0 := sN w.heap.size (by omega) (by omega)
  have sN1 := sN (w.heap.size + 1) (by omega) (by omega)
  clear sN
  cases ok
  · have HG : Hid (r = (⟨s.types ++ [⟨tn, ty, ts⟩], s.classes⟩, false)) := HR.out
    clear HR
    go_wp2
    go_region
    all_goals
      go_wp2
      refine bodyPost_ret (v := .tuple #[.agg #[.slice A3 (s.types.length + 1) d3, .slice AC ps.length dC], .bool false]) (by simp [results, Tryz.results65, go_sem, r0, r1, f0, f1, b0, b1]) rfl ⟨.slice A3 (s.types.length + 1) d3, .slice AC ps.length dC, ps, by rw [HG.out], ?_, ?_, ?_, ?_⟩
      · rw [HG.out]
        repeat (first | with_reducible exact hTF | with_reducible apply TyOwn.drew | with_reducible refine TyOwn.set ?_ _ sN0 | with_reducible refine TyOwn.set ?_ _ sN1)
      · repeat (first | with_reducible exact hCF | with_reducible apply ClOwn.drew | with_reducible refine ClOwn.set ?_ _ sC0 sL0 | with_reducible refine ClOwn.set ?_ _ sC1 sL1)
      · rw [HG.out]; exact HPS.out
      · repeat (first | with_reducible exact hbF | with_reducible apply Below.drew | refine Below.setCell ?_ (by simp; try omega) _)
  · by_cases hp0 : ps.length = 0
    · have hpI : ((ps.length : Int) == 0) = true := by rw [beq_iff_eq]; omega
      have HG : Hid (r = (⟨s.types ++ [⟨tn, ty, ts⟩], s.classes⟩, true)) := by show _ = _; rw [HR.out, decide_eq_true hp0]; rfl
      clear HR hp0
      go_wp2
      go_region
      all_goals
        go_wp2
        refine bodyPost_ret (v := .tuple #[.agg #[.slice A3 (s.types.length + 1) d3, .slice AC ps.length dC], .bool true]) (by simp [results, Tryz.results65, go_sem, r0, r1, f0, f1, b0, b1]) rfl ⟨.slice A3 (s.types.length + 1) d3, .slice AC ps.length dC, ps, by rw [HG.out], ?_, ?_, ?_, ?_⟩
        · rw [HG.out]
          repeat (first | with_reducible exact hTF | with_reducible apply TyOwn.drew | with_reducible refine TyOwn.set ?_ _ sN0 | with_reducible refine TyOwn.set ?_ _ sN1)
        · repeat (first | with_reducible exact hCF | with_reducible apply ClOwn.drew | with_reducible refine ClOwn.set ?_ _ sC0 sL0 | with_reducible refine ClOwn.set ?_ _ sC1 sL1)
        · rw [HG.out]; exact HPS.out
        · repeat (first | with_reducible exact hbF | with_reducible apply Below.drew | refine Below.setCell ?_ (by simp; try omega) _)
    · have hpI : ((ps.length : Int) == 0) = false := by rw [beq_eq_false_iff_ne]; omega
      have HG : Hid (r = (⟨s.types ++ [⟨tn, ty, ts⟩], s.classes⟩, false)) := by show _ = _; rw [HR.out, decide_eq_false hp0]; rfl
      clear HR hp0
      go_wp2
      go_region
      all_goals
        go_wp2
        refine bodyPost_ret (v := .tuple #[.agg #[.slice A3 (s.types.length + 1) d3, .slice AC ps.length dC], .bool false]) (by simp [results, Tryz.results65, go_sem, r0, r1, f0, f1, b0, b1]) rfl ⟨.slice A3 (s.types.length + 1) d3, .slice AC ps.length dC, ps, by rw [HG.out], ?_, ?_, ?_, ?_⟩
        · rw [HG.out]
          repeat (first | with_reducible exact hTF | with_reducible apply TyOwn.drew | with_reducible refine TyOwn.set ?_ _ sN0 | with_reducible refine TyOwn.set ?_ _ sN1)
        · repeat (first | with_reducible exact hCF | with_reducible apply ClOwn.drew | with_reducible refine ClOwn.set ?_ _ sC0 sL0 | with_reducible refine ClOwn.set ?_ _ sC1 sL1)
        · rw [HG.out]; exact HPS.out
        · repeat (first | with_reducible exact hbF | with_reducible apply Below.drew | refine Below.setCell ?_ (by simp; try omega) _)
end Go.Proofs.YtnikolglippfmaaGreatDoor
/- schema: read at 'class', read otherwise. -/
namespace Go.Proofs.YtnikolglippfmaaGreatDoor
open Go.RowKit Go.Sort
open Idn (L B Bs drop_L take_L size_L)
set_option maxHeartbeats 2000000 in
set_option maxRecDepth 100000 in
theorem read_class (s : Idn.Sch) (AT AC : Option Addr) (dT dC : Nat) (ps : List ClP) (x : ByteArray) (base : Nat) (w : World) (hT : TyOwn w base (.slice AT s.types.length dT) s.types) (hC : ClOwn w base (.slice AC ps.length dC) ps) (hps : ps.map (·.1) = s.classes) (hbase : base ≤ w.heap.size) (hE : Env w) (hx : x.size ≤ 1000000) (hlT : ps.length ≤ 1000000)
    (ws : List Bs) (hwe : Idn.cutC 32 (L x) = ws) (x0 : Bs) (hx0 : ws[0]? = some x0) (h0 : x0 = [99, 108, 97, 115, 115]) (hws : ∀ y ∈ ws, y.length ≤ 100000000) (hwl : ws.length ≤ 1000000000) :
    Calls Tryz.prog 65 #[.agg #[.slice AT s.types.length dT, .slice AC ps.length dC], .string x] w (RetRd w base (⟨s.types, s.classes ++ [(rdClass ws).1]⟩, (rdClass ws).2)) := by
  generalize hr : ((⟨s.types, s.classes ++ [(rdClass ws).1]⟩ : Idn.Sch), (rdClass ws).2) = r
  have HR := Lib.hid hr.symm
  clear hr
  have hw0 : 0 < ws.length := (List.getElem?_eq_some_iff.1 hx0).1
  have hw0I : (0 : Int) < (ws.length : Int) := by omega
  have HPS := Lib.hid hps
  have HX0 := Lib.hid hx0
  have HWE := Lib.hid hwe
  have hx00 : L (B x0) = x0 := rfl
  have tt0 : ((B x0).toList == [116, 121, 112, 101]) = false := by rw [toList_L, Idn.L_B, h0]; rfl
  have tt1 : ((B x0).toList == [99, 108, 97, 115, 115]) = true := by rw [toList_L, Idn.L_B, h0]; rfl
  clear hps hx0 hwe h0 hx00
  go_enter Tryz.func65, Tryz.ntmps65
  go_wp2_with fail
  with_reducible refine gen2g (R := fun W => Calls Tryz.prog 112 _ W _) ?_
  intro W hbW hszW hc1 hc2 hf1 hf2
  have b0 : W.cell? ⟨w.heap.size, 0, none⟩ = some (.slice AT s.types.length dT) := hc1 0 _ rfl
  have b1 : W.cell? ⟨w.heap.size, 1, none⟩ = some (.slice AC ps.length dC) := hc1 1 _ rfl
  have r0 : W.cell? ⟨w.heap.size + 1, 0, none⟩ = some (.slice none 0 0) := hc2 0 _ rfl
  have r1 : W.cell? ⟨w.heap.size + 1, 1, none⟩ = some (.slice none 0 0) := hc2 1 _ rfl
  have f0 := hf2 0
  have f1 := hf2 1
  have g0 := hf1 0
  have g1 := hf1 1
  clear hc1 hc2 hf1 hf2
  have hSp := split_any x 32 W (hE.keep hbW) (by omega)
  rw [HWE.out] at hSp
  refine hSp.mono ?_
  clear hSp
  rintro e w1 ⟨v1, rfl, o1, hb1⟩
  have hl1 : w.heap.size + 1 < W.heap.size := by omega
  replace b0 := cell_later hb1 b0
  replace b1 := cell_later hb1 b1
  replace r0 := cell_later hb1 r0
  replace r1 := cell_later hb1 r1
  replace f0 := frozen_later hb1 f0 hl1
  replace f1 := frozen_later hb1 f1 hl1
  replace g0 := frozen_later hb1 g0 (by omega)
  replace g1 := frozen_later hb1 g1 (by omega)
  have hbw1 := hbW.trans (hb1.mono hbW.size)
  have hl2 : w.heap.size + 1 < w1.heap.size := by have := hb1.size; omega
  clear hszW hl1
  have hS1 := StrsV.of_own o1
  obtain ⟨A1, d1, hv1⟩ := own_shape o1
  subst hv1
  obtain ⟨bb, off, hA1, _, c0⟩ := strs_at hS1 HX0.out
  subst hA1
  rw [Nat.add_zero] at c0
  clear o1
  have hRC := readClass_any _ ws w1 hS1 (hE.keep hbw1) hws hwl
  unfold RetCl at hRC
  generalize rdClass ws = rt at *
  obtain ⟨⟨cn, cs, cm, cy⟩, ok⟩ := rt
  dsimp only at hRC HR
  clear hS1
  go_wp2_with fail
  refine hRC.mono ?_
  rintro e w2 ⟨v2, v3, rfl, o2, o3, hb2⟩
  obtain ⟨A5, d5, hv5⟩ := own_shape o2
  subst hv5
  obtain ⟨A6, d6, hv6⟩ := own_shape o3
  subst hv6
  replace b0 := cell_later hb2 b0
  replace b1 := cell_later hb2 b1
  replace r0 := cell_later hb2 r0
  replace r1 := cell_later hb2 r1
  replace f0 := frozen_later hb2 f0 hl2
  replace f1 := frozen_later hb2 f1 hl2
  replace g0 := frozen_later hb2 g0 (by omega)
  replace g1 := frozen_later hb2 g1 (by omega)
  have hbw2 := hbw1.trans (hb2.mono hbw1.size)
  have hl3 : w.heap.size + 1 < w2.heap.size := by have := hb2.size; omega
  have o2b := own_base o2 (Nat.le_trans hbase hbw1.size)
  have o3b := own_base o3 (Nat.le_trans hbase hbw1.size)
  have sA : ∀ p, p ≤ w.heap.size + 1 → (Value.slice A5 cm.length d5).ownBlock ≠ some p := fun p hp e => by have := (o2.lt p e).1; omega
  have sB : ∀ p, p ≤ w.heap.size + 1 → (Value.slice A6 cy.length d6).ownBlock ≠ some p := fun p hp e => by have := (o3.lt p e).1; omega
  clear hRC c0 hb2 hl2 o2 o3
  have ba := (Below.refl w2.heap.size w2).alloc (Nat.le_refl _) (.cells #[.string (B cn), .string (B cs), .slice A5 cm.length d5, .slice A6 cy.length d6] 50)
  have hT3 := (hT.keep hbw2).keep ba
  have hC3 := (hC.keep hbw2).keep ba
  replace o2b := own_below o2b ba
  replace o3b := own_below o3b ba
  replace b0 := cell_later ba b0
  replace b1 := cell_later ba b1
  replace r0 := cell_later ba r0
  replace r1 := cell_later ba r1
  replace f0 := frozen_later ba f0 hl3
  replace f1 := frozen_later ba f1 hl3
  replace g0 := frozen_later ba g0 (by omega)
  replace g1 := frozen_later ba g1 (by omega)
  have hbw3 := hbw2.trans (ba.mono hbw2.size)
  have Hsza : Hid ((w2.alloc (.cells #[.string (B cn), .string (B cs), .slice A5 cm.length d5, .slice A6 cy.length d6] 50)).heap.size = w2.heap.size + 1) := by show _ = _; simp
  have hbs : base ≤ (w2.alloc (.cells #[.string (B cn), .string (B cs), .slice A5 cm.length d5, .slice A6 cy.length d6] 50)).heap.size := Nat.le_trans hbase hbw3.size
  have hl4 : w.heap.size + 1 < (w2.alloc (.cells #[.string (B cn), .string (B cs), .slice A5 cm.length d5, .slice A6 cy.length d6] 50)).heap.size := by have := Hsza.out; omega
  go_wp2_with (at_builtin; refine wpList_push (w2.alloc (.cells #[.string (B cn), .string (B cs), .slice A5 cm.length d5, .slice A6 cy.length d6] 50)) rfl _ _ 23 rfl base 50 zCl 4 80 Tryz.underlying23 info_cl rfl (by decide) _ ps.length _ hC3.1 rfl [.string (B cn), .string (B cs), .slice A5 cm.length d5, .slice A6 cy.length d6] (by rw [Hsza.out]; rfl) rfl (by intro u hu; simp at hu; rcases hu with rfl | rfl | rfl | rfl <;> rfl) (by omega) hbs ?_ rfl)
  intro v' w3 hown' hg' hat' hb3 _
  obtain ⟨A3, d3, hu⟩ := own_shape hown'
  subst hu
  have sT0 := hT.lt (Nat.le_refl w.heap.size)
  have sT1 := hT.lt (Nat.le_succ w.heap.size)
  obtain ⟨sC0, sL0⟩ := hC.lt (Nat.le_refl w.heap.size)
  obtain ⟨sC1, sL1⟩ := hC.lt (Nat.le_succ w.heap.size)
  have hTF : TyOwn w3 base (.slice AT s.types.length dT) s.types := hT3.kept hC3 hg'
  have hCF : ClOwn w3 base (.slice A3 (ps.length + 1) d3) (ps ++ [(⟨cn, cs, cm, cy⟩, (.slice A5 cm.length d5, .slice A6 cy.length d6))]) := hC3.push (c := ⟨cn, cs, cm, cy⟩) o2b o3b hown' hg'
  have hlF : w.heap.size + 1 < w3.heap.size := by have := hg'.size; omega
  have sN : ∀ p, p ≤ w.heap.size + 1 → w.heap.size ≤ p → (Value.slice A3 (ps.length + 1) d3).ownBlock ≠ some p := fun p h1 h2 e => by
    rcases hat' with h | h
    · rw [h] at e; exact (hC.lt h2).1 e
    · rw [h] at e; injection e with e; omega
  replace b0 := grown_cell hg' b0 (fun e => sC0 e.symm)
  replace b1 := grown_cell hg' b1 (fun e => sC0 e.symm)
  replace r0 := grown_cell hg' r0 (fun e => sC1 e.symm)
  replace r1 := grown_cell hg' r1 (fun e => sC1 e.symm)
  replace f0 := grown_frozen hg' hl4 f0 (fun e => sC1 e.symm)
  replace f1 := grown_frozen hg' hl4 f1 (fun e => sC1 e.symm)
  replace g0 := grown_frozen hg' (by omega) g0 (fun e => sC0 e.symm)
  replace g1 := grown_frozen hg' (by omega) g1 (fun e => sC0 e.symm)
  have hbF : Below base w w3 := (hbw3.mono hbase).trans hb3
  clear hT3 hC3 hown' hg' hat' ba hb3 sC0 sC1 hbs o2b o3b
  have sN0 := sN w.heap.size (by omega) (by omega)
  have sN1 := sN (w.heap.size + 1) (by omega) (by omega)
  have sM0 : ∀ q ∈ ps ++ [((⟨cn, cs, cm, cy⟩ : Idn.Cl), (Value.slice A5 cm.length d5, Value.slice A6 cy.length d6))], q.2.1.ownBlock ≠ some w.heap.size ∧ q.2.2.ownBlock ≠ some w.heap.size := fun q hq => by
    rcases List.mem_append.1 hq with h | h
    · exact sL0 q h
    · simp only [List.mem_singleton] at h; subst h; exact ⟨sA _ (by omega), sB _ (by omega)⟩
  have sM1 : ∀ q ∈ ps ++ [((⟨cn, cs, cm, cy⟩ : Idn.Cl), (Value.slice A5 cm.length d5, Value.slice A6 cy.length d6))], q.2.1.ownBlock ≠ some (w.heap.size + 1) ∧ q.2.2.ownBlock ≠ some (w.heap.size + 1) := fun q hq => by
    rcases List.mem_append.1 hq with h | h
    · exact sL1 q h
    · simp only [List.mem_singleton] at h; subst h; exact ⟨sA _ (by omega), sB _ (by omega)⟩
  clear sN sA sB sL0 sL1
  go_wp2
  refine bodyPost_ret (v := .tuple #[.agg #[.slice AT s.types.length dT, .slice A3 (ps.length + 1) d3], .bool ok]) (by simp [results, Tryz.results65, go_sem, r0, r1, f0, f1, b0, b1]) rfl ⟨.slice AT s.types.length dT, .slice A3 (ps.length + 1) d3, ps ++ [(⟨cn, cs, cm, cy⟩, (.slice A5 cm.length d5, .slice A6 cy.length d6))], by rw [HR.out], ?_, ?_, ?_, ?_⟩
  · rw [HR.out]
    repeat (first | with_reducible exact hTF | with_reducible apply TyOwn.drew | with_reducible refine TyOwn.set ?_ _ sT0 | with_reducible refine TyOwn.set ?_ _ sT1)
  · repeat (first | with_reducible exact hCF | with_reducible apply ClOwn.drew | with_reducible refine ClOwn.set ?_ _ sN0 sM0 | with_reducible refine ClOwn.set ?_ _ sN1 sM1)
  · rw [HR.out, List.map_append, HPS.out]; rfl
  · repeat (first | with_reducible exact hbF | with_reducible apply Below.drew | refine Below.setCell ?_ (by simp; try omega) _)
set_option maxHeartbeats 2000000 in
set_option maxRecDepth 100000 in
theorem read_other (s : Idn.Sch) (AT AC : Option Addr) (dT dC : Nat) (ps : List ClP) (x : ByteArray) (base : Nat) (w : World) (hT : TyOwn w base (.slice AT s.types.length dT) s.types) (hC : ClOwn w base (.slice AC ps.length dC) ps) (hps : ps.map (·.1) = s.classes) (hbase : base ≤ w.heap.size) (hE : Env w) (hx : x.size ≤ 1000000)
    (ws : List Bs) (hwe : Idn.cutC 32 (L x) = ws) (x0 : Bs) (hx0 : ws[0]? = some x0) (h0 : x0 ≠ [116, 121, 112, 101]) (h1 : x0 ≠ [99, 108, 97, 115, 115]) :
    Calls Tryz.prog 65 #[.agg #[.slice AT s.types.length dT, .slice AC ps.length dC], .string x] w (RetRd w base (s, false)) := by
  have hw0 : 0 < ws.length := (List.getElem?_eq_some_iff.1 hx0).1
  have hw0I : (0 : Int) < (ws.length : Int) := by omega
  have HPS := Lib.hid hps
  have HX0 := Lib.hid hx0
  have HWE := Lib.hid hwe
  have hx00 : L (B x0) = x0 := rfl
  have tt0 : ((B x0).toList == [116, 121, 112, 101]) = false := by rw [toList_L, Idn.L_B, beq_eq_false_iff_ne]; exact h0
  have tt1 : ((B x0).toList == [99, 108, 97, 115, 115]) = false := by rw [toList_L, Idn.L_B, beq_eq_false_iff_ne]; exact h1
  clear hps hx0 hwe h0 h1 hx00
  go_enter Tryz.func65, Tryz.ntmps65
  go_wp2_with fail
  with_reducible refine gen2g (R := fun W => Calls Tryz.prog 112 _ W _) ?_
  intro W hbW hszW hc1 hc2 hf1 hf2
  have b0 : W.cell? ⟨w.heap.size, 0, none⟩ = some (.slice AT s.types.length dT) := hc1 0 _ rfl
  have b1 : W.cell? ⟨w.heap.size, 1, none⟩ = some (.slice AC ps.length dC) := hc1 1 _ rfl
  have r0 : W.cell? ⟨w.heap.size + 1, 0, none⟩ = some (.slice none 0 0) := hc2 0 _ rfl
  have r1 : W.cell? ⟨w.heap.size + 1, 1, none⟩ = some (.slice none 0 0) := hc2 1 _ rfl
  have f0 := hf2 0
  have f1 := hf2 1
  have g0 := hf1 0
  have g1 := hf1 1
  clear hc1 hc2 hf1 hf2
  have hSp := split_any x 32 W (hE.keep hbW) (by omega)
  rw [HWE.out] at hSp
  refine hSp.mono ?_
  clear hSp
  rintro e w1 ⟨v1, rfl, o1, hb1⟩
  have hl1 : w.heap.size + 1 < W.heap.size := by omega
  replace b0 := cell_later hb1 b0
  replace b1 := cell_later hb1 b1
  replace r0 := cell_later hb1 r0
  replace r1 := cell_later hb1 r1
  replace f0 := frozen_later hb1 f0 hl1
  replace f1 := frozen_later hb1 f1 hl1
  replace g0 := frozen_later hb1 g0 (by omega)
  replace g1 := frozen_later hb1 g1 (by omega)
  have hbw1 := hbW.trans (hb1.mono hbW.size)
  have hl2 : w.heap.size + 1 < w1.heap.size := by have := hb1.size; omega
  clear hszW hl1
  have hS1 := StrsV.of_own o1
  obtain ⟨A1, d1, hv1⟩ := own_shape o1
  subst hv1
  obtain ⟨bb, off, hA1, _, c0⟩ := strs_at hS1 HX0.out
  subst hA1
  rw [Nat.add_zero] at c0
  clear o1
  clear hS1
  have hTF := hT.keep hbw1
  have hCF := hC.keep hbw1
  have sT0 := hT.lt (Nat.le_refl w.heap.size)
  have sT1 := hT.lt (Nat.le_succ w.heap.size)
  obtain ⟨sC0, sL0⟩ := hC.lt (Nat.le_refl w.heap.size)
  obtain ⟨sC1, sL1⟩ := hC.lt (Nat.le_succ w.heap.size)
  have hbF : Below base w w1 := hbw1.mono hbase
  go_wp2
  refine bodyPost_ret (v := .tuple #[.agg #[.slice AT s.types.length dT, .slice AC ps.length dC], .bool false]) (by simp [results, Tryz.results65, go_sem, r0, r1, f0, f1, b0, b1]) rfl ⟨.slice AT s.types.length dT, .slice AC ps.length dC, ps, rfl, ?_, ?_, ?_, ?_⟩
  · repeat (first | with_reducible exact hTF | with_reducible apply TyOwn.drew | with_reducible refine TyOwn.set ?_ _ sT0 | with_reducible refine TyOwn.set ?_ _ sT1)
  · repeat (first | with_reducible exact hCF | with_reducible apply ClOwn.drew | with_reducible refine ClOwn.set ?_ _ sC0 sL0 | with_reducible refine ClOwn.set ?_ _ sC1 sL1)
  · exact HPS.out
  · repeat (first | with_reducible exact hbF | with_reducible apply Below.drew | refine Below.setCell ?_ (by simp; try omega) _)
theorem read_any (s : Idn.Sch) (vT vC : Value) (ps : List ClP) (x : ByteArray) (base : Nat) (w : World) (hT : TyOwn w base vT s.types) (hC : ClOwn w base vC ps) (hps : ps.map (·.1) = s.classes) (hbase : base ≤ w.heap.size) (hE : Env w) (hx : x.size ≤ 1000000) (hlT : s.types.length ≤ 1000000) (hlC : s.classes.length ≤ 1000000) :
    Calls Tryz.prog 65 #[.agg #[vT, vC], .string x] w (RetRd w base (rdLine s (L x))) := by
  obtain ⟨AT, dT, rfl⟩ := own_shape hT
  obtain ⟨AC, dC, rfl⟩ := own_shape hC.1
  obtain ⟨hl1, hl2⟩ := Idn.cutC_len 32 (L x)
  have hxs := size_L x
  have hne := Idn.cutC_ne 32 (L x)
  have hlP : ps.length ≤ 1000000 := by rw [← hps, List.length_map] at hlC; exact hlC
  unfold rdLine
  cases hc : Idn.cutC 32 (L x) with
  | nil => exact absurd hc hne
  | cons x0 tl =>
    rw [← hc]
    have e0 : (Idn.cutC 32 (L x))[0]? = some x0 := by rw [hc]; rfl
    have e1 : (Idn.cutC 32 (L x)).headD [] = x0 := by rw [hc]; rfl
    rw [e1]
    by_cases h0 : x0 = [116, 121, 112, 101]
    · rw [if_pos h0]
      exact read_type s AT AC dT dC ps x base w hT hC hps hbase hE hx hlT _ rfl x0 e0 h0 (fun y hy => by have := hl2 y hy; omega) (by omega)
    · rw [if_neg h0]
      by_cases h1 : x0 = [99, 108, 97, 115, 115]
      · rw [if_pos h1]
        exact read_class s AT AC dT dC ps x base w hT hC hps hbase hE hx hlP _ rfl x0 e0 h1 (fun y hy => by have := hl2 y hy; omega) (by omega)
      · rw [if_neg h1]
        exact read_other s AT AC dT dC ps x base w hT hC hps hbase hE hx _ rfl x0 e0 h0 h1
end Go.Proofs.YtnikolglippfmaaGreatDoor
