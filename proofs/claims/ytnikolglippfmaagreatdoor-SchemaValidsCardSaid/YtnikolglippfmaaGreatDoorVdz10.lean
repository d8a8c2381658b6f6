/- Part 10 of the proof that Valid returns the specified error: the package variables hold what the program lays; nothing else is asked. -/
import Derived.Test.YtnikolglippfmaaGreatDoorVdz05
import Derived.Test.YtnikolglippfmaaGreatDoorVdz09
import Derived.Deep.RegionHeld3
import Derived.StillTactics
/- The program's maps: list, all, addClass. -/
namespace Go.Proofs.YtnikolglippfmaaGreatDoor
open Go.RowKit Go.Sort
open Idn (L B Bs drop_L take_L size_L)

theorem Below.lay {w W : World} (h : Below w.heap.size w W) (o : Obj) : Below w.heap.size w (W.alloc o) := h.alloc h.size o
theorem Below.on {w W W' : World} (h : Below w.heap.size w W) (h' : Below W.heap.size W W') : Below w.heap.size w W' := h.trans (h'.mono h.size)

theorem three_new {W w1 : World} {a b c : Value} {t : TypeId} (h : Below (W.alloc (.cells #[a, b, c] t)).drew.heap.size (W.alloc (.cells #[a, b, c] t)).drew w1) :
    (w1.cell? ⟨W.heap.size, 0, none⟩ = some a ∧ w1.cell? ⟨W.heap.size, 1, none⟩ = some b ∧ w1.cell? ⟨W.heap.size, 2, none⟩ = some c) ∧
    (w1.frozen? ⟨W.heap.size, 0, none⟩ = false ∧ w1.frozen? ⟨W.heap.size, 1, none⟩ = false ∧ w1.frozen? ⟨W.heap.size, 2, none⟩ = false) := by
  have e : w1.heap[W.heap.size]? = some (.cells #[a, b, c] t (0, 0)) := (h.block _ (by simp [World.drew])).trans (heap_alloc_new W _)
  refine ⟨⟨?_, ?_, ?_⟩, ⟨Lib.frozen_of_heap e 0, Lib.frozen_of_heap e 1, Lib.frozen_of_heap e 2⟩⟩
  · rw [cell_of_row _ W.heap.size 0 _ _ (0, 0) e]; rfl
  · rw [cell_of_row _ W.heap.size 1 _ _ (0, 0) e]; rfl
  · rw [cell_of_row _ W.heap.size 2 _ _ (0, 0) e]; rfl
theorem lk_sh {l : List Idn.AT} {n : Bs} : ∃ a b c, (lk (tyE l) (Idn.lower n)).getD (.agg #[.string ⟨#[]⟩, .int .i64 0, .bool false]) = .agg #[.string a, .int .i64 b, .bool c] := by
  cases h : Idn.ixT l n with
  | none => rw [lk_ty_none h]; exact ⟨_, _, _, rfl⟩
  | some k => obtain ⟨t', _, h2⟩ := lk_ty_some h; rw [h2]; exact ⟨_, _, _, rfl⟩
theorem lk_is {l : List Idn.AT} {n : Bs} : (lk (tyE l) (Idn.lower n)).isSome = (Idn.ixT l n).isSome := by
  cases h : Idn.ixT l n with
  | none => rw [lk_ty_none h]; rfl
  | some k => obtain ⟨t', _, h2⟩ := lk_ty_some h; rw [h2]; rfl

set_option maxHeartbeats 1000000 in
set_option maxRecDepth 100000 in
theorem all1_any (bk : Nat) (mv : Value) (l : List Idn.AT) (x : Bs) (w : World) (hbk : bk < w.heap.size) (hc : w.cell? ⟨bk, 0, none⟩ = some mv) (hm : MapV w mv (tyE l)) (hx : x.length ≤ 1000000000) :
    Calls Tryz.prog 193 #[.string (B x), .pointer (some ⟨bk, 0, none⟩)] w fun e w' => e = .returned (.bool (Idn.ixT l x).isNone) ∧ Below w.heap.size w w' := by
  have hl := fun W => lower_any (B x) W (by rw [Idn.size_B]; omega)
  rw [Idn.L_B] at hl
  obtain ⟨va, vb, vc, hva⟩ := lk_sh (l := l) (n := x)
  have hsome := lk_is (l := l) (n := x)
  have hS : ∀ W, Below w.heap.size w W → W.cell? ⟨bk, 0, none⟩ = some mv ∧ (Instr.lookup 66 mv (.string (B (Idn.lower x))) true).run Tryz.prog W = .ok (.tuple #[.agg #[.string va, .int .i64 vb, .bool vc], .bool (Idn.ixT l x).isSome]) W ∧ Below w.heap.size w W := fun W hW => by
    refine ⟨(hW.cell hbk).trans hc, ?_, hW⟩
    have := (hm.keep hW).run (P := Tryz.prog) Tryz.underlying9 Tryz.underlying66 (zeroAT _) (B (Idn.lower x))
    rw [Idn.L_B, hva, hsome] at this
    exact this
  have hneg : (Idn.ixT l x).isNone = !(Idn.ixT l x).isSome := by cases Idn.ixT l x <;> rfl
  generalize (Idn.ixT l x).isSome = c at *
  generalize (Idn.ixT l x).isNone = d at *
  subst hneg
  clear hva hsome hm
  have hw0 := Below.refl w.heap.size w
  go_enter Tryz.func193, Tryz.ntmps193
  go_wp2
  go_region_held3 (fun W => W.cell? ⟨bk, 0, none⟩ = some mv ∧ (Instr.lookup 66 mv (.string (B (Idn.lower x))) true).run Tryz.prog W = .ok (.tuple #[.agg #[.string va, .int .i64 vb, .bool vc], .bool c]) W ∧ Below w.heap.size w W)
    (first | (refine hS _ ?_; repeat (first | with_reducible exact Below.refl _ _ | with_reducible apply Below.drew | with_reducible refine Below.lay ?_ _ | with_reducible refine Below.setCell ?_ (by simp) _ | with_reducible refine Below.on ?_ hb1)))
    (first | (go_at_call 75; refine (hl _).mono ?_; rintro e w1 ⟨rfl, hb1⟩; first | have hn := three_new hb1 | skip))
  all_goals
    go_wp2
    go_ret
    refine ⟨rfl, ?_⟩
    repeat (first | with_reducible exact Below.refl _ _ | with_reducible apply Below.drew | with_reducible refine Below.lay ?_ _ | with_reducible refine Below.setCell ?_ (by simp) _ | with_reducible refine Below.on ?_ hb1)

theorem fn_all1 : FnB 193 := by intro a w; kernel_rfl
set_option maxRecDepth 100000 in
theorem all_any (mv mv2 : Value) (types : List Idn.AT) (v : Value) (l : List Bs) (w : World) (h1 : MapV w mv (tyE types)) (hone : mv.oneCell' = true) (hone2 : mv2.oneCell' = true) (hv : StrsV w w.heap.size v l) (hs : Sm l) :
    Calls Tryz.prog 155 #[.agg #[mv, mv2], v] w fun e w' => e = .returned (.bool (!Idn.lacks types l)) ∧ Below w.heap.size w w' := by
  obtain ⟨A, ca, rfl, hca⟩ := SlV.shape hv
  have hlk : Hid (Idn.lacks types l = l.any fun n => (Idn.ixT types n).isNone) := rfl
  have hH : ∀ W, Below w.heap.size w W → W.heap.size = w.heap.size + 1 → W.cell? ⟨w.heap.size, 0, none⟩ = some mv →
      Calls Tryz.prog 98 #[.slice A l.length ca, .func (.func 193) #[] #[.pointer (some ⟨w.heap.size, 0, none⟩)]] W fun e w' => e = .returned (.bool (l.any fun n => (Idn.ixT types n).isNone)) ∧ Below W.heap.size W w' := fun W hW hsz hc =>
    hasF_any 193 #[.pointer (some ⟨w.heap.size, 0, none⟩)] fn_all1 _ _ l W (SlV.mono (SlV.keep hv hW) (by omega)) hs.1 fun W' x hx hb =>
      all1_any w.heap.size mv types x W' (by have := hb.size; omega) ((hb.cell (p := ⟨w.heap.size, 0, none⟩) (by show w.heap.size < _; omega)).trans hc) ((h1.keep hW).keep hb) (hs.2 x hx)
  generalize l.any (fun n => (Idn.ixT types n).isNone) = r at *
  go_enter Tryz.func155, Tryz.ntmps155
  go_wp2_with fail
  with_reducible refine gen1 (R := fun W => Calls Tryz.prog 98 _ W _) ?_
  intro W hbW hszW hc1 _
  refine (hH W hbW hszW (hc1 0 _ rfl)).mono ?_
  rintro e w1 ⟨rfl, hb1⟩
  clear hH hc1
  go_wp2
  go_ret
  exact ⟨ret_bool (by rw [hlk.out]), hbW.trans (hb1.mono hbW.size)⟩
set_option maxRecDepth 100000 in
theorem list_any (mv mv2 : Value) (A : Option Addr) (n c : Nat) (w : World) :
    Calls Tryz.prog 154 #[.agg #[mv, mv2], .slice A n c] w fun e w' => e = .returned (.int .i64 (if decide (64 < n) then 3 else 0)) ∧ Below w.heap.size w w' := by
  by_cases h : 64 < n
  · have h' : (64 : Int) < (n : Int) := by omega
    rw [if_pos (decide_eq_true h)]
    clear h
    go_enter Tryz.func154, Tryz.ntmps154
    go_wp2
    go_ret
    exact ⟨rfl, (Below.refl _ _).alloc (Nat.le_refl _) _⟩
  · have h' : (n : Int) ≤ (64 : Int) := by omega
    rw [if_neg (by simpa using h)]
    clear h
    go_enter Tryz.func154, Tryz.ntmps154
    go_wp2
    go_ret
    exact ⟨rfl, (Below.refl _ _).alloc (Nat.le_refl _) _⟩
end Go.Proofs.YtnikolglippfmaaGreatDoor
/- The program's maps: addClass. -/
namespace Go.Proofs.YtnikolglippfmaaGreatDoor
open Go.RowKit Go.Sort
open Idn (L B Bs drop_L take_L size_L)

/-- the entries of the classes -/
def ClK (es : List (Bs × Value)) (l : List Idn.Cl) : Prop := es.map (·.1) = l.map fun c => Idn.lower c.name
def ClSh (es : List (Bs × Value)) : Prop := ∀ p ∈ es, ∃ a b A n c A' n' c', p.2 = .agg #[.string a, .string b, .slice A n c, .slice A' n' c']
theorem findIdx_map {α β : Type} (f : α → β) (p : β → Bool) (l : List α) : (l.map f).findIdx? p = l.findIdx? (fun x => p (f x)) := by
  induction l with
  | nil => rfl
  | cons x l ih => simp only [List.map_cons, List.findIdx?_cons, ih]
theorem ClK.idx {es : List (Bs × Value)} {l : List Idn.Cl} (h : ClK es l) (n : Bs) : es.findIdx? (fun p => decide (p.1 = Idn.lower n)) = Idn.ixC l n := by
  have h1 := findIdx_map (·.1) (fun k => decide (k = Idn.lower n)) es
  have h2 := findIdx_map (fun c : Idn.Cl => Idn.lower c.name) (fun k => decide (k = Idn.lower n)) l
  rw [← h1, h, h2]; rfl
theorem ClK.lk {es : List (Bs × Value)} {l : List Idn.Cl} (h : ClK es l) (n : Bs) : (lk es (Idn.lower n)).isSome = (Idn.ixC l n).isSome := by
  rw [← h.idx, Go.Proofs.YtnikolglippfmaaGreatDoor.lk, find_ix]
  cases hx : es.findIdx? _ with
  | none => rfl
  | some k =>
    have := (List.findIdx?_eq_some_iff_getElem.1 hx).1
    simp [this]
theorem ClSh.lk {es : List (Bs × Value)} (h : ClSh es) (n : Bs) : ∃ a b A k c A' k' c', (lk es n).getD (.agg #[.string ⟨#[]⟩, .string ⟨#[]⟩, .slice none 0 0, .slice none 0 0]) = .agg #[.string a, .string b, .slice A k c, .slice A' k' c'] := by
  unfold Go.Proofs.YtnikolglippfmaaGreatDoor.lk
  cases hx : es.find? _ with
  | none => exact ⟨_, _, _, _, _, _, _, _, rfl⟩
  | some p =>
    obtain ⟨a, b, A, k, c, A', k', c', h'⟩ := h p (List.mem_of_find?_eq_some hx)
    exact ⟨a, b, A, k, c, A', k', c', h'⟩
theorem genB {R : World → Prop} {lo : Nat} {w w' : World} (h : ∀ W, Below lo w W → R W) (hb : Below lo w w') : R w' := h w' hb
theorem four_new {W w1 : World} {a b c d : Value} {t : TypeId} (h : Below (W.alloc (.cells #[a, b, c, d] t)).drew.heap.size (W.alloc (.cells #[a, b, c, d] t)).drew w1) :
    (w1.cell? ⟨W.heap.size, 0, none⟩ = some a ∧ w1.cell? ⟨W.heap.size, 1, none⟩ = some b ∧ w1.cell? ⟨W.heap.size, 2, none⟩ = some c ∧ w1.cell? ⟨W.heap.size, 3, none⟩ = some d) ∧
    (w1.frozen? ⟨W.heap.size, 0, none⟩ = false ∧ w1.frozen? ⟨W.heap.size, 1, none⟩ = false ∧ w1.frozen? ⟨W.heap.size, 2, none⟩ = false ∧ w1.frozen? ⟨W.heap.size, 3, none⟩ = false) := by
  have e : w1.heap[W.heap.size]? = some (.cells #[a, b, c, d] t (0, 0)) := (h.block _ (by simp [World.drew])).trans (heap_alloc_new W _)
  refine ⟨⟨?_, ?_, ?_, ?_⟩, ⟨Lib.frozen_of_heap e 0, Lib.frozen_of_heap e 1, Lib.frozen_of_heap e 2, Lib.frozen_of_heap e 3⟩⟩
  · rw [cell_of_row _ W.heap.size 0 _ _ (0, 0) e]; rfl
  · rw [cell_of_row _ W.heap.size 1 _ _ (0, 0) e]; rfl
  · rw [cell_of_row _ W.heap.size 2 _ _ (0, 0) e]; rfl
  · rw [cell_of_row _ W.heap.size 3 _ _ (0, 0) e]; rfl

set_option maxHeartbeats 2000000 in
set_option maxRecDepth 100000 in
theorem addClass_any (b1 b2 : Nat) (types : List Idn.AT) (es : List (Bs × Value)) (prev : List Idn.Cl) (c : Idn.Cl) (Am : Option Addr) (cm : Nat) (An : Option Addr) (cn : Nat) (w : World)
    (hm1 : MapIs w b1 (tyE types)) (hm2 : MapIs w b2 es) (hne : b1 ≠ b2) (hK : ClK es prev) (hsh : ClSh es) (hv : StrsV w w.heap.size (.slice Am c.must.length cm) c.must) (hu : StrsV w w.heap.size (.slice An c.may.length cn) c.may)
    (hs1 : c.name.length ≤ 1000000000) (hs2 : c.super.length ≤ 1000000000) (hsm : Sm c.must) (hsn : Sm c.may) :
    Calls Tryz.prog 117 #[.agg #[.map (some b1), .map (some b2)], .agg #[.string (B c.name), .string (B c.super), .slice Am c.must.length cm, .slice An c.may.length cn]] w
      fun e w' => e = .returned (.int .i64 (Idn.clErr types prev c)) ∧ But b2 w w' ∧ (Idn.clErr types prev c = 0 → MapIs w' b2 (es ++ [(Idn.lower c.name, .agg #[.string (B c.name), .string (B c.super), .slice Am c.must.length cm, .slice An c.may.length cn])])) := by
  have hl := fun W => lower_any (B c.name) W (by rw [Idn.size_B]; omega)
  have hl2 := fun W => lower_any (B c.super) W (by rw [Idn.size_B]; omega)
  have hN := fun W => name_any (B c.name) W (by rw [Idn.size_B]; omega)
  rw [Idn.L_B] at hN hl hl2
  obtain ⟨va, vb, A1, k1, c1, A2, k2, c2, hva⟩ := hsh.lk (L (B (Idn.lower c.name)))
  have hsome : (lk es (L (B (Idn.lower c.name)))).isSome = (Idn.ixC prev c.name).isSome := by rw [Idn.L_B]; exact hK.lk _
  obtain ⟨ua, ub, A3, k3, c3, A4, k4, c4, hua⟩ := hsh.lk (L (B (Idn.lower c.super)))
  have hsup : (lk es (L (B (Idn.lower c.super)))).isSome = (Idn.ixC prev c.super).isSome := by rw [Idn.L_B]; exact hK.lk _
  generalize hrr : Idn.clErr types prev c = r
  have hR0 : Hid _ := hrr
  clear hrr
  go_enter Tryz.func117, Tryz.ntmps117
  go_wp2_with fail
  with_reducible refine gen2 (R := fun W => Calls Tryz.prog 75 _ W _) ?_
  intro W hbW hszW hc1 hc2
  refine (hl W).mono ?_
  rintro e w1 ⟨rfl, hb1⟩
  have b0 := cell_later hb1 (hc1 0 _ rfl)
  have b1' := cell_later hb1 (hc1 1 _ rfl)
  have d0 := cell_later hb1 (hc2 0 _ rfl)
  have d1 := cell_later hb1 (hc2 1 _ rfl)
  have d2 := cell_later hb1 (hc2 2 _ rfl)
  have d3 := cell_later hb1 (hc2 3 _ rfl)
  clear hc1 hc2 hl
  have hm21 : MapIs w1 b2 es := (hm2.keep hbW).keep hb1
  have hbw1 : Below w.heap.size w w1 := hbW.trans (hb1.mono hbW.size)
  have hsz1 : w.heap.size + 2 ≤ w1.heap.size := by have := hb1.size; omega
  go_wp2_with (at_lookup; refine wpList_look w1 rfl _ _ 67 rfl 9 50 Tryz.underlying9 Tryz.underlying67 (zeroCL _) hm21.v rfl _ rfl hva hsome ?_)
  with_reducible refine gen1 (R := fun W => Code.wp Tryz.prog _ _ _ W) ?_
  intro W2 hbW2 hszW2 _ _
  replace b0 := cell_later hbW2 b0
  replace b1' := cell_later hbW2 b1'
  replace d0 := cell_later hbW2 d0
  replace d1 := cell_later hbW2 d1
  replace d2 := cell_later hbW2 d2
  replace d3 := cell_later hbW2 d3
  have hm22 : MapIs W2 b2 es := hm21.keep hbW2
  have hbw2 : Below w.heap.size w W2 := hbw1.trans (hbW2.mono hbw1.size)
  have hsz2 : w.heap.size + 2 ≤ W2.heap.size := by omega
  have hS : ∀ W', Below W2.heap.size W2 W' → W'.cell? ⟨w.heap.size, 1, none⟩ = some (.map (some b2)) ∧ W'.cell? ⟨w.heap.size + 1, 1, none⟩ = some (.string (B c.super)) ∧ (Instr.lookup 67 (.map (some b2)) (.string (B (Idn.lower c.super))) true).run Tryz.prog W' = .ok (.tuple #[.agg #[.string ua, .string ub, .slice A3 k3 c3, .slice A4 k4 c4], .bool (Idn.ixC prev c.super).isSome]) W' ∧ Below W2.heap.size W2 W' := fun W' hW => by
    refine ⟨cell_later hW b1', cell_later hW d1, ?_, hW⟩
    have := (hm22.v.keep hW).run (P := Tryz.prog) Tryz.underlying9 Tryz.underlying67 (zeroCL _) (B (Idn.lower c.super))
    rw [hua, hsup] at this
    exact this
  clear hva hsome
  generalize hsb : (Idn.ixC prev c.super).isSome = sb at *
  have hSB := Lib.hid hsb
  clear hsb
  have hw0 := Below.refl W2.heap.size W2
  clear hszW hszW2
  have hlow : w.heap.size ≤ W2.heap.size := by omega
  go_region_held3 (fun W' => W'.cell? ⟨w.heap.size, 1, none⟩ = some (.map (some b2)) ∧ W'.cell? ⟨w.heap.size + 1, 1, none⟩ = some (.string (B c.super)) ∧ (Instr.lookup 67 (.map (some b2)) (.string (B (Idn.lower c.super))) true).run Tryz.prog W' = .ok (.tuple #[.agg #[.string ua, .string ub, .slice A3 k3 c3, .slice A4 k4 c4], .bool sb]) W' ∧ Below W2.heap.size W2 W')
    (first | (refine hS _ ?_; repeat (first | with_reducible exact Below.refl _ _ | with_reducible apply Below.drew | with_reducible refine Below.lay ?_ _ | with_reducible refine Below.setCell ?_ (by simp) _ | with_reducible refine Below.on ?_ hb3)))
    (first | (go_at_call 75; refine (hl2 _).mono ?_; rintro e w3 ⟨rfl, hb3⟩; first | have hn := four_new hb3 | skip))
  all_goals
    with_reducible refine genB (R := fun W => Exit.then _ _ _ _ W) (lo := W2.heap.size) (w := W2) ?_ (by repeat (first | with_reducible exact Below.refl _ _ | with_reducible apply Below.drew | with_reducible refine Below.lay ?_ _ | with_reducible refine Below.setCell ?_ (by simp) _ | with_reducible refine Below.on ?_ hb3))
    intro W4 hb4
    try clear hn
    try clear hb3
    replace b0 := cell_later hb4 b0
    replace b1' := cell_later hb4 b1'
    replace d0 := cell_later hb4 d0
    replace d1 := cell_later hb4 d1
    replace d2 := cell_later hb4 d2
    replace d3 := cell_later hb4 d3
    have hbw := Below.on hbw2 hb4
    clear hb4 hw0 hS
    cases n0 : Idn.name c.name
    · have HF : Hid (r = 5) := by show _ = _; rw [← hR0.out, Idn.clErr, n0]; rfl
      rw [n0] at hN
      go_wp2_with (go_at_call 92; refine (hN _).mono ?_; rintro e w5 ⟨rfl, rfl⟩)
      go_ret
      exact ⟨ret_int (by rw [HF.out]), But.of_below hbw _, fun h => by rw [HF.out] at h; cases h⟩
    rw [n0] at hN
    cases n1 : (Idn.ixC prev c.name).isSome
    case true =>
      have HF : Hid (r = 7) := by show _ = _; rw [← hR0.out, Idn.clErr, n0, n1]; rfl
      go_wp2_with (go_at_call 92; refine (hN _).mono ?_; rintro e w5 ⟨rfl, rfl⟩)
      go_ret
      exact ⟨ret_int (by rw [HF.out]), But.of_below hbw _, fun h => by rw [HF.out] at h; cases h⟩
    have hnone : lk es (L (B (Idn.lower c.name))) = none := by
      have := hK.lk c.name
      rw [n1] at this
      rw [Idn.L_B]
      exact Option.isNone_iff_eq_none.1 (Option.isSome_eq_false_iff.1 this)
    by_cases n2 : (!c.super.isEmpty && !sb) = true
    case pos =>
      have HF : Hid (r = 6) := by show _ = _; rw [← hR0.out, Idn.clErr, n0, n1]; rw [show (Idn.ixC prev c.super).isNone = !sb by rw [← hSB.out]; cases Idn.ixC prev c.super <;> rfl, n2]; rfl
      rw [Bool.and_eq_true] at n2
      have n2a : (B c.super).toList.isEmpty = false := by rw [toList_L, Idn.L_B]; simpa using n2.1
      have n2b : sb = false := by simpa using n2.2
      subst n2b
      clear n2
      go_wp2_with (go_at_call 92; refine (hN _).mono ?_; rintro e w5 ⟨rfl, rfl⟩)
      go_ret
      exact ⟨ret_int (by rw [HF.out]), But.of_below hbw _, fun h => by rw [HF.out] at h; cases h⟩
    have n2c : ((B c.super).toList.isEmpty = true ∨ ((B c.super).toList.isEmpty = false ∧ sb = true)) := by
      rw [toList_L, Idn.L_B]
      cases h : c.super.isEmpty
      · right; rw [h] at n2; exact ⟨rfl, by simpa using n2⟩
      · exact .inl rfl
    have hR1 : Hid (r = if decide (64 < c.must.length) || decide (64 < c.may.length) then 3 else if Idn.lacks types c.must || Idn.lacks types c.may then 6 else 0) := by
      show _ = _; rw [← hR0.out, Idn.clErr, n0, n1]
      rw [show (Idn.ixC prev c.super).isNone = !sb by rw [← hSB.out]; cases Idn.ixC prev c.super <;> rfl]
      rw [show (!c.super.isEmpty && !sb) = false by simpa using n2]; rfl
    have hLm := fun W => list_any (.map (some b1)) (.map (some b2)) Am c.must.length cm W
    have hLn := fun W => list_any (.map (some b1)) (.map (some b2)) An c.may.length cn W
    have hAm := fun W' (hW' : Below w.heap.size w W') => all_any (.map (some b1)) (.map (some b2)) types _ c.must W' (hm1.keep hW').v rfl rfl (SlV.mono (SlV.keep hv hW') hW'.size) hsm
    have hAn := fun W' (hW' : Below w.heap.size w W') => all_any (.map (some b1)) (.map (some b2)) types _ c.may W' (hm1.keep hW').v rfl rfl (SlV.mono (SlV.keep hu hW') hW'.size) hsn
    clear n2 hSB
    rcases n2c with n2a | ⟨n2a, rfl⟩
    all_goals
      by_cases n3 : 64 < c.must.length
      case pos =>
        have HF : Hid (r = 3) := by show _ = _; rw [hR1.out, decide_eq_true n3]; rfl
        rw [if_pos (decide_eq_true n3)] at hLm
        clear hAm hAn hLn n3
        go_wp2_with (first | (go_at_call 92; refine (hN _).mono ?_; rintro e w5 ⟨rfl, rfl⟩) | (go_at_call 154; (first | with_reducible refine (hLm _).mono ?_ | with_reducible refine (hLn _).mono ?_); rintro e w5 ⟨rfl, hb5⟩; replace b0 := cell_later hb5 b0; replace b1' := cell_later hb5 b1'; replace d0 := cell_later hb5 d0; replace d1 := cell_later hb5 d1; replace d2 := cell_later hb5 d2; replace d3 := cell_later hb5 d3; replace hbw := Below.on hbw hb5))
        go_ret
        exact ⟨ret_int (by rw [HF.out]), But.of_below hbw _, fun h => by rw [HF.out] at h; cases h⟩
      rw [if_neg (by simpa using n3)] at hLm
      by_cases n4 : 64 < c.may.length
      case pos =>
        have HF : Hid (r = 3) := by show _ = _; rw [hR1.out, decide_eq_true n4, Bool.or_true]; rfl
        rw [if_pos (decide_eq_true n4)] at hLn
        clear hAm hAn n3 n4
        go_wp2_with (first | (go_at_call 92; refine (hN _).mono ?_; rintro e w5 ⟨rfl, rfl⟩) | (go_at_call 154; (first | with_reducible refine (hLm _).mono ?_ | with_reducible refine (hLn _).mono ?_); rintro e w5 ⟨rfl, hb5⟩; replace b0 := cell_later hb5 b0; replace b1' := cell_later hb5 b1'; replace d0 := cell_later hb5 d0; replace d1 := cell_later hb5 d1; replace d2 := cell_later hb5 d2; replace d3 := cell_later hb5 d3; replace hbw := Below.on hbw hb5))
        go_ret
        exact ⟨ret_int (by rw [HF.out]), But.of_below hbw _, fun h => by rw [HF.out] at h; cases h⟩
      rw [if_neg (by simpa using n4)] at hLn
      have hR2 : Hid (r = if Idn.lacks types c.must || Idn.lacks types c.may then 6 else 0) := by show _ = _; rw [hR1.out, decide_eq_false n3, decide_eq_false n4]; rfl
      clear n3 n4
      cases n5 : Idn.lacks types c.must
      case true =>
        have HF : Hid (r = 6) := by show _ = _; rw [hR2.out, n5]; rfl
        rw [n5] at hAm
        go_wp2_with (first | (go_at_call 92; refine (hN _).mono ?_; rintro e w5 ⟨rfl, rfl⟩) | (go_at_call 154; (first | with_reducible refine (hLm _).mono ?_ | with_reducible refine (hLn _).mono ?_); rintro e w5 ⟨rfl, hb5⟩; replace b0 := cell_later hb5 b0; replace b1' := cell_later hb5 b1'; replace d0 := cell_later hb5 d0; replace d1 := cell_later hb5 d1; replace d2 := cell_later hb5 d2; replace d3 := cell_later hb5 d3; replace hbw := Below.on hbw hb5) | (go_at_call 155; (first | with_reducible refine (hAm _ hbw).mono ?_ | with_reducible refine (hAn _ hbw).mono ?_); rintro e w5 ⟨rfl, hb5⟩; replace b0 := cell_later hb5 b0; replace b1' := cell_later hb5 b1'; replace d0 := cell_later hb5 d0; replace d1 := cell_later hb5 d1; replace d2 := cell_later hb5 d2; replace d3 := cell_later hb5 d3; replace hbw := Below.on hbw hb5))
        go_ret
        exact ⟨ret_int (by rw [HF.out]), But.of_below hbw _, fun h => by rw [HF.out] at h; cases h⟩
      rw [n5] at hAm
      cases n6 : Idn.lacks types c.may
      case true =>
        have HF : Hid (r = 6) := by show _ = _; rw [hR2.out, n5, n6]; rfl
        rw [n6] at hAn
        go_wp2_with (first | (go_at_call 92; refine (hN _).mono ?_; rintro e w5 ⟨rfl, rfl⟩) | (go_at_call 154; (first | with_reducible refine (hLm _).mono ?_ | with_reducible refine (hLn _).mono ?_); rintro e w5 ⟨rfl, hb5⟩; replace b0 := cell_later hb5 b0; replace b1' := cell_later hb5 b1'; replace d0 := cell_later hb5 d0; replace d1 := cell_later hb5 d1; replace d2 := cell_later hb5 d2; replace d3 := cell_later hb5 d3; replace hbw := Below.on hbw hb5) | (go_at_call 155; (first | with_reducible refine (hAm _ hbw).mono ?_ | with_reducible refine (hAn _ hbw).mono ?_); rintro e w5 ⟨rfl, hb5⟩; replace b0 := cell_later hb5 b0; replace b1' := cell_later hb5 b1'; replace d0 := cell_later hb5 d0; replace d1 := cell_later hb5 d1; replace d2 := cell_later hb5 d2; replace d3 := cell_later hb5 d3; replace hbw := Below.on hbw hb5))
        go_ret
        exact ⟨ret_int (by rw [HF.out]), But.of_below hbw _, fun h => by rw [HF.out] at h; cases h⟩
      rw [n6] at hAn
      have HF : Hid (r = 0) := by show _ = _; rw [hR2.out, n5, n6]; rfl
      go_wp2_with (first | (go_at_call 92; refine (hN _).mono ?_; rintro e w5 ⟨rfl, rfl⟩) | (go_at_call 154; (first | with_reducible refine (hLm _).mono ?_ | with_reducible refine (hLn _).mono ?_); rintro e w5 ⟨rfl, hb5⟩; replace b0 := cell_later hb5 b0; replace b1' := cell_later hb5 b1'; replace d0 := cell_later hb5 d0; replace d1 := cell_later hb5 d1; replace d2 := cell_later hb5 d2; replace d3 := cell_later hb5 d3; replace hbw := Below.on hbw hb5) | (go_at_call 155; (first | with_reducible refine (hAm _ hbw).mono ?_ | with_reducible refine (hAn _ hbw).mono ?_); rintro e w5 ⟨rfl, hb5⟩; replace b0 := cell_later hb5 b0; replace b1' := cell_later hb5 b1'; replace d0 := cell_later hb5 d0; replace d1 := cell_later hb5 d1; replace d2 := cell_later hb5 d2; replace d3 := cell_later hb5 d3; replace hbw := Below.on hbw hb5) | (at_mapUpdate; refine wpList_put _ rfl _ _ _ 67 rfl 9 50 Tryz.underlying9 Tryz.underlying67 b2 rfl (hm2.keep hbw) _ rfl _ rfl hnone ?_; intro w9 hm9 hbut9))
      go_ret
      exact ⟨ret_int (by rw [HF.out]), (But.of_below hbw _).trans hbut9, fun _ => hm9⟩
end Go.Proofs.YtnikolglippfmaaGreatDoor
