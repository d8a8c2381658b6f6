/- Part 10 of the proof that laws of identitylaw11 return true at every argument within the bound: the package variables hold what the program lays; nothing else is asked. -/
import Derived.Test.YtgjllfonmgfhgaaGreatDoorIra03
import Derived.Test.YtgjllfonmgfhgaaGreatDoorIra04
import Derived.Test.YtgjllfonmgfhgaaGreatDoorIra07
set_option linter.unusedVariables false
set_option linter.unusedSimpArgs false
/- The program's maps of types and classes. -/
namespace Go.Proofs.YtgjllfonmgfhgaaGreatDoor
open Go.RowKit Go.Sort
open Idn (L B Bs drop_L take_L size_L)

def tyV (t : Idn.AT) : Value := .agg #[sv t.name, .int .i64 t.syn, .bool t.single]
def tyE (l : List Idn.AT) : List (Bs × Value) := l.map fun t => (Idn.lower t.name, tyV t)
theorem zeroAT (w : World) : (zeroValue 85).run Tryz.prog w = .ok (.agg #[.string ⟨#[]⟩, .int .i64 0, .bool false]) w := by kernel_rfl
theorem zeroCL (w : World) : (zeroValue 87).run Tryz.prog w = .ok (.agg #[.string ⟨#[]⟩, .string ⟨#[]⟩, .slice none 0 0, .slice none 0 0]) w := by kernel_rfl
theorem lk_map {α : Type} (f : α → Bs) (g : α → Value) (l : List α) (n : Bs) : lk (l.map fun t => (f t, g t)) n = (l.find? fun t => decide (f t = n)).map g := by
  unfold lk
  induction l with
  | nil => rfl
  | cons x l ih =>
    simp only [List.map_cons, List.find?_cons]
    cases hx : decide (f x = n)
    · exact ih
    · rfl
theorem find_ix {α : Type} (p : α → Bool) (l : List α) : l.find? p = (l.findIdx? p).bind fun k => l[k]? := by
  induction l with
  | nil => rfl
  | cons x l ih =>
    rw [List.find?_cons, List.findIdx?_cons]
    cases hx : p x
    · simp only [cond_false, Bool.false_eq_true, if_false]; rw [ih]; cases l.findIdx? p <;> rfl
    · rfl
theorem lk_ty (l : List Idn.AT) (n : Bs) : lk (tyE l) (Idn.lower n) = (Idn.ixT l n).bind fun k => l[k]?.map tyV := by
  rw [tyE, lk_map, find_ix]
  unfold Idn.ixT
  cases h : l.findIdx? _ <;> rfl
theorem lk_ty_none {l : List Idn.AT} {n : Bs} (h : Idn.ixT l n = none) : lk (tyE l) (Idn.lower n) = none := by rw [lk_ty, h]; rfl
theorem lk_ty_some {l : List Idn.AT} {n : Bs} {k : Nat} (h : Idn.ixT l n = some k) : ∃ t, l[k]? = some t ∧ lk (tyE l) (Idn.lower n) = some (tyV t) := by
  have hk := Idn.ixT_lt _ _ _ h
  exact ⟨l[k], List.getElem?_eq_getElem hk, by rw [lk_ty, h]; simp [hk]⟩

set_option maxHeartbeats 400000 in
set_option maxRecDepth 100000 in
theorem addType_any (b1 b2 : Nat) (prev : List Idn.AT) (t : Idn.AT) (w : World) (hm : MapIs w b1 (tyE prev)) (hs : t.name.length ≤ 1000000000) :
    Calls Tryz.prog 128 #[.agg #[.map (some b1), .map (some b2)], tyV t] w fun e w' => e = .returned (.int .i64 (Idn.tyErr prev t)) ∧ But b1 w w' ∧ (Idn.tyErr prev t = 0 → MapIs w' b1 (tyE (prev ++ [t]))) := by
  have hl := fun W => lower_any (B t.name) W (by rw [Idn.size_B]; omega)
  have hN := fun W => name_any (B t.name) W (by rw [Idn.size_B]; omega)
  unfold tyV
  rw [sv]
  rw [Idn.L_B] at hN hl
  have hlk : ∃ a b c, (lk (tyE prev) (L (B (Idn.lower t.name)))).getD (.agg #[.string ⟨#[]⟩, .int .i64 0, .bool false]) = .agg #[.string a, .int .i64 b, .bool c] := by
    rw [Idn.L_B]
    cases h : Idn.ixT prev t.name with
    | none => rw [lk_ty_none h]; exact ⟨_, _, _, rfl⟩
    | some k => obtain ⟨t', _, h2⟩ := lk_ty_some h; rw [h2]; exact ⟨_, _, _, rfl⟩
  obtain ⟨va, vb, vc, hva⟩ := hlk
  have hsome : (lk (tyE prev) (L (B (Idn.lower t.name)))).isSome = (Idn.ixT prev t.name).isSome := by
    rw [Idn.L_B]
    cases h : Idn.ixT prev t.name with
    | none => rw [lk_ty_none h]; rfl
    | some k => obtain ⟨t', _, h2⟩ := lk_ty_some h; rw [h2]; rfl
  generalize hrr : Idn.tyErr prev t = r
  have hR0 : Hid _ := hrr
  clear hrr
  go_enter Tryz.func128, Tryz.ntmps128
  go_wp2_with fail
  with_reducible refine gen2 (R := fun W => Calls Tryz.prog 83 _ W _) ?_
  intro W hbW hszW hc1 hc2
  refine (hl W).mono ?_
  rintro e w1 ⟨rfl, hb1⟩
  have b0 := cell_later hb1 (hc1 0 _ rfl)
  have d0 := cell_later hb1 (hc2 0 _ rfl)
  have d1 := cell_later hb1 (hc2 1 _ rfl)
  have d2 := cell_later hb1 (hc2 2 _ rfl)
  clear hc1 hc2 hl
  have hm1 : MapIs w1 b1 (tyE prev) := (hm.keep hbW).keep hb1
  have hbw1 : Below w.heap.size w w1 := hbW.trans (hb1.mono hbW.size)
  have ba := (Below.refl w1.heap.size w1).alloc (Nat.le_refl _) (.cells #[.string va, .int .i64 vb, .bool vc] 85)
  have B0 := cell_later ba b0
  have D0 := cell_later ba d0
  have D1 := cell_later ba d1
  have D2 := cell_later ba d2
  have hm2 := hm1.alloc (.cells #[.string va, .int .i64 vb, .bool vc] 85)
  have hbwa := hbw1.trans (ba.mono hbw1.size)
  clear ba d0 d1 d2
  cases n0 : Idn.name t.name
  · have HF : Hid (r = 5) := by show _ = _; rw [← hR0.out, Idn.tyErr, n0]; rfl
    rw [n0] at hN
    go_wp2_with (first | (at_lookup; refine wpList_look w1 rfl _ _ 126 rfl 9 85 Tryz.underlying9 Tryz.underlying126 (zeroAT _) hm1.v rfl _ rfl hva hsome ?_) | (go_at_call 89; refine (hN _).mono ?_; rintro e w' ⟨rfl, rfl⟩))
    go_ret
    exact ⟨ret_int (by rw [HF.out]), But.of_below hbwa _, fun h => by rw [HF.out] at h; cases h⟩
  rw [n0] at hN
  cases n1 : (Idn.ixT prev t.name).isSome
  · rw [n1] at hsome
    by_cases n2 : t.syn < 1
    · have HF : Hid (r = 8) := by show _ = _; rw [← hR0.out, Idn.tyErr, n0, n1, decide_eq_true n2]; rfl
      go_wp2_with (first | (at_lookup; refine wpList_look w1 rfl _ _ 126 rfl 9 85 Tryz.underlying9 Tryz.underlying126 (zeroAT _) hm1.v rfl _ rfl hva hsome ?_) | (go_at_call 89; refine (hN _).mono ?_; rintro e w' ⟨rfl, rfl⟩))
      go_ret
      exact ⟨ret_int (by rw [HF.out]), But.of_below hbwa _, fun h => by rw [HF.out] at h; cases h⟩
    by_cases n3 : 5 < t.syn
    · have HF : Hid (r = 8) := by show _ = _; rw [← hR0.out, Idn.tyErr, n0, n1, decide_eq_false n2, decide_eq_true n3]; rfl
      have n2' : (1 : Int) ≤ t.syn := by omega
      clear n2
      go_wp2_with (first | (at_lookup; refine wpList_look w1 rfl _ _ 126 rfl 9 85 Tryz.underlying9 Tryz.underlying126 (zeroAT _) hm1.v rfl _ rfl hva hsome ?_) | (go_at_call 89; refine (hN _).mono ?_; rintro e w' ⟨rfl, rfl⟩))
      go_ret
      exact ⟨ret_int (by rw [HF.out]), But.of_below hbwa _, fun h => by rw [HF.out] at h; cases h⟩
    have HF : Hid (r = 0) := by show _ = _; rw [← hR0.out, Idn.tyErr, n0, n1, decide_eq_false n2, decide_eq_false n3]; rfl
    have n2' : (1 : Int) ≤ t.syn := by omega
    have n3' : t.syn ≤ 5 := by omega
    have hnone : lk (tyE prev) (L (B (Idn.lower t.name))) = none := Option.isSome_eq_false_iff.1 hsome |> Option.isNone_iff_eq_none.1
    clear n2 n3
    go_wp2_with (first | (at_mapUpdate; refine wpList_put _ rfl _ _ _ 126 rfl 9 85 Tryz.underlying9 Tryz.underlying126 b1 rfl hm2 _ rfl _ rfl hnone ?_; intro w3 hm3 hbut) | (first | (at_lookup; refine wpList_look w1 rfl _ _ 126 rfl 9 85 Tryz.underlying9 Tryz.underlying126 (zeroAT _) hm1.v rfl _ rfl hva hsome ?_) | (go_at_call 89; refine (hN _).mono ?_; rintro e w' ⟨rfl, rfl⟩)))
    go_ret
    exact ⟨ret_int (by rw [HF.out]), (But.of_below hbwa _).trans hbut, fun _ => by rw [tyE, List.map_append]; exact hm3⟩
  · have HF : Hid (r = 7) := by show _ = _; rw [← hR0.out, Idn.tyErr, n0, n1]; rfl
    rw [n1] at hsome
    go_wp2_with (first | (at_lookup; refine wpList_look w1 rfl _ _ 126 rfl 9 85 Tryz.underlying9 Tryz.underlying126 (zeroAT _) hm1.v rfl _ rfl hva hsome ?_) | (go_at_call 89; refine (hN _).mono ?_; rintro e w' ⟨rfl, rfl⟩))
    go_ret
    exact ⟨ret_int (by rw [HF.out]), But.of_below hbwa _, fun h => by rw [HF.out] at h; cases h⟩
end Go.Proofs.YtgjllfonmgfhgaaGreatDoor
