/- Part 52 of the proof that the statements EntryChecks, EntryStable and EntryTexts of identitylaw08 return true at every argument: the package variables hold what the program lays; nothing else is asked. -/
import Derived.Test.YtoopoglkeeoamaaGreatDoorEca08
import Derived.Test.YtoopoglkeeoamaaGreatDoorEca30
import Derived.Test.YtoopoglkeeoamaaGreatDoorEca32
import Derived.Test.YtoopoglkeeoamaaGreatDoorEca40
import Derived.Test.YtoopoglkeeoamaaGreatDoorEca51
set_option linter.unusedVariables false
set_option linter.unusedSimpArgs false
/- law07: light, subset, raised. -/
namespace Go.Proofs.YtoopoglkeeoamaaGreatDoor
open Go.RowKit Go.Sort
open Idn (L B Bs drop_L take_L size_L)
end Go.Proofs.YtoopoglkeeoamaaGreatDoor
/- law07: raised. -/
namespace Go.Proofs.YtoopoglkeeoamaaGreatDoor
open Go.RowKit Go.Sort
open Idn (L B Bs drop_L take_L size_L)
theorem run_str {P : Program} {w : World} (src dst e : TypeId) (hs : P.underlying src = some (.slice e)) (hd : P.underlying dst = some .string) (he : P.underlying e = some (.int .u8))
    (base : Nat) (v : Value) (l : Bs) (hown : w.ownsRow base e 1 v l.length (l.map bc)) : (convert src dst v).run P w = .ok (.string (B l)) w := by
  rcases hown.2 with ⟨rfl, hn⟩ | ⟨g, cap, cur, rfl, _, hh, _, _, _, htake⟩
  · have : l = [] := List.eq_nil_of_length_eq_zero hn
    subst this
    exact run_convert_bytes_nil w src e hs he 0 0 dst hd
  · have h := run_convert_bytes_arg (P := P) w src e hs he g 0 l.length cap (l.map fun x => (x.toNat : Int)) (by simp) (fun i hi => by
      have hc := hown.cellAt i (by simpa using hi)
      rw [Nat.zero_add, hc]
      simp [bc, hi]) dst hd
    rw [h]
    congr 3
    show (⟨_⟩ : ByteArray) = _
    simp [B, Function.comp_def]
theorem PairAt.grown {w w' : World} {p : Nat} {a b : Value} {row : Option Nat} (h : PairAt w p a b) (hg : w.grownBy w' row) (hne : some p ≠ row) (hs : w.heap.size ≤ w'.heap.size) : PairAt w' p a b := by
  obtain ⟨⟨h0, h1⟩, ⟨g0, g1⟩, hl⟩ := h
  exact ⟨⟨grown_cell hg h0 hne, grown_cell hg h1 hne⟩, ⟨grown_frozen hg hl g0 hne, grown_frozen hg hl g1 hne⟩, Nat.lt_of_lt_of_le hl hs⟩
end Go.Proofs.YtoopoglkeeoamaaGreatDoor
/- identityref02: plain, digit. -/
namespace Go.Proofs.YtoopoglkeeoamaaGreatDoor
open Go.RowKit Go.Sort
open Idn (L B Bs drop_L take_L size_L)
theorem r2_plain_any (c : UInt8) (w : World) :
    Calls Tryz.prog 124 #[.int .u8 (c.toNat : Int)] w fun e w' => e = .returned (.bool (plainB c)) ∧ w = w' := by
  have hne : ∀ d : UInt8, c ≠ d → (c.toNat : Int) ≠ (d.toNat : Int) := fun d h => by
    intro e; exact h (UInt8.toNat_inj.1 (by omega))
  by_cases a1 : c = 37
  · subst a1; go_enter Tryz.func124, Tryz.ntmps124
    go_wp2
    go_ret
    exact ⟨rfl, rfl⟩
  by_cases a2 : c = 124
  · subst a2; go_enter Tryz.func124, Tryz.ntmps124
    go_wp2
    go_ret
    exact ⟨rfl, rfl⟩
  by_cases a3 : c = 44
  · subst a3; go_enter Tryz.func124, Tryz.ntmps124
    go_wp2
    go_ret
    exact ⟨rfl, rfl⟩
  by_cases a4 : c = 61
  · subst a4; go_enter Tryz.func124, Tryz.ntmps124
    go_wp2
    go_ret
    exact ⟨rfl, rfl⟩
  by_cases a5 : c = 59
  · subst a5; go_enter Tryz.func124, Tryz.ntmps124
    go_wp2
    go_ret
    exact ⟨rfl, rfl⟩
  by_cases a6 : c = 34
  · subst a6; go_enter Tryz.func124, Tryz.ntmps124
    go_wp2
    go_ret
    exact ⟨rfl, rfl⟩
  have e1 : (c.toNat : Int) ≠ 37 := hne 37 a1
  have e2 : (c.toNat : Int) ≠ 124 := hne 124 a2
  have e3 : (c.toNat : Int) ≠ 44 := hne 44 a3
  have e4 : (c.toNat : Int) ≠ 61 := hne 61 a4
  have e5 : (c.toNat : Int) ≠ 59 := hne 59 a5
  have e6 : (c.toNat : Int) ≠ 34 := hne 34 a6
  have hcon : [37, 124, 44, 61, 59, 34].contains c = false := by
    simp only [List.contains_cons, List.contains_nil, Bool.or_false, Bool.or_eq_false_iff, beq_eq_false_iff_ne]
    exact ⟨a1, a2, a3, a4, a5, a6⟩
  unfold plainB
  rw [hcon]
  clear hcon hne a1 a2 a3 a4 a5 a6
  by_cases h1 : (33 : Int) ≤ (c.toNat : Int)
  · have k1 : decide (33 ≤ c.toNat) = true := decide_eq_true (by omega)
    by_cases h2 : (c.toNat : Int) ≤ (126 : Int)
    · have k2 : decide (c.toNat ≤ 126) = true := decide_eq_true (by omega)
      rw [k1, k2]
      clear k1 k2
      go_enter Tryz.func124, Tryz.ntmps124
      go_wp2
      go_ret
      exact ⟨by simp [e1, e2, e3, e4, e5, e6], rfl⟩
    · have k2 : decide (c.toNat ≤ 126) = false := decide_eq_false (by omega)
      rw [k1, k2]
      clear k1 k2
      go_enter Tryz.func124, Tryz.ntmps124
      go_wp2
      go_ret
      exact ⟨rfl, rfl⟩
  · have k1 : decide (33 ≤ c.toNat) = false := decide_eq_false (by omega)
    rw [k1]
    clear k1
    go_enter Tryz.func124, Tryz.ntmps124
    go_wp2
    go_ret
    exact ⟨rfl, rfl⟩
set_option maxHeartbeats 2000000 in
set_option maxRecDepth 100000 in
theorem r2_escape_any (s : ByteArray) (w : World) (hs : s.size ≤ 1000000000) :
    Calls Tryz.prog 65 #[.string s] w fun e w' => e = .returned (.string (B (esc (L s)))) ∧ Below w.heap.size w w' := by
  generalize hr : esc (L s) = r
  have HR := Lib.hid hr
  clear hr
  go_enter Tryz.func65, Tryz.ntmps65
  go_wp2
  go_loopw [3, 4] (fun o i wr => ∃ (k : Nat) (acc : Bs), k ≤ s.size ∧ i = .int .i64 k ∧ wr.ownsRow w.heap.size 5 1 o acc.length (acc.map bc) ∧ Below w.heap.size w wr ∧ Hid (acc = esc ((L s).take k)) ∧ acc.length ≤ 3 * k) (fun _ i _ => s.size - (intOf i).toNat)
  case atStart => exact ⟨0, [], Nat.zero_le _, rfl, World.ownsRow_nil _ _ _ _, Below.refl _ _, rfl, Nat.le_refl _⟩
  case round =>
    obtain ⟨k, acc, hk, rfl, hown, hb, hinv, hal⟩ := hrel
    obtain ⟨wo, hwo⟩ : ∃ wo : World, wo = wr := ⟨_, rfl⟩
    subst hwo
    by_cases hlt : k < s.size
    · have hP := r2_plain_any s[k] wo
      have hstep : esc ((L s).take (k + 1)) = esc ((L s).take k) ++ esc1 s[k] := by rw [take_L s k hlt, esc_snoc]
      have hltI : (k : Int) < (s.size : Int) := by omega
      cases hp : plainB s[k]
      · have e1 : esc1 s[k] = [37, hexB (s[k].toNat / 16), hexB (s[k].toNat % 16)] := by unfold esc1; rw [hp]; rfl
        have HF : Hid (acc ++ [37, hexB (s[k].toNat / 16), hexB (s[k].toNat % 16)] = esc ((L s).take (k + 1))) := by
          show _ = _; rw [hstep, e1, hinv.out]
        rw [hp] at hP
        have hx1 : ∀ w, (Instr.index 9 (.string ⟨#[48, 49, 50, 51, 52, 53, 54, 55, 56, 57, 65, 66, 67, 68, 69, 70]⟩) (.int .u8 ((s[k].toNat : Int) / 16))).run Tryz.prog w = .ok (.int .u8 ((hexB (s[k].toNat / 16)).toNat : Int)) w := fun w => idx_hex (s[k].toNat / 16) (by have := byte_lt s[k]; omega) w
        have hx2 : ∀ w, (Instr.index 9 (.string ⟨#[48, 49, 50, 51, 52, 53, 54, 55, 56, 57, 65, 66, 67, 68, 69, 70]⟩) (.int .u8 (Int.tmod (s[k].toNat : Int) 16))).run Tryz.prog w = .ok (.int .u8 ((hexB (s[k].toNat % 16)).toNat : Int)) w := fun w => idx_hex (s[k].toNat % 16) (by omega) w
        have qw1 : IntKind.u8.wrap ((s[k].toNat : Int) / 16) = (s[k].toNat : Int) / 16 := IntWalk.u8_in _ ⟨by omega, by have := byte_lt s[k]; omega⟩
        have hdr : Below w.heap.size wo wo.drew := (Below.refl _ _).drew
        have hownD : wo.drew.ownsRow w.heap.size 5 1 u3 acc.length (acc.map bc) := hown
        have hbD : Below w.heap.size w wo.drew := hb.drew
        clear hp hstep e1 hinv
        go_wp2_with fail
        refine hP.mono ?_
        rintro e w1 ⟨rfl, rfl⟩
        clear hP hown
        obtain ⟨Ao, co, hov⟩ := own_shape hownD
        subst hov
        go_wp2_with fail
        go_region_law (refine step_pushN rfl _ _ 81 rfl w.heap.size 5 (.int .u8 0) 1 1 Tryz.underlying81 info_u8 rfl (by decide) _ acc.length _ hownD rfl [.int .u8 37, .int .u8 ((hexB (s[k].toNat / 16)).toNat : Int), .int .u8 ((hexB (s[k].toNat % 16)).toNat : Int)] 3 rfl rfl (by intro u hu; simp at hu; rcases hu with rfl | rfl | rfl <;> rfl) (by omega) hbD.size ?_ rfl; intro v' w' hown' hg' _)
        all_goals
          have hb' := hbD.grown hg' hbD.size (fun x hx => (hownD.lt x hx).1)
          go_wp2_with fail
          go_roundw
          case rel => exact ⟨k + 1, acc ++ [37, hexB (s[k].toNat / 16), hexB (s[k].toNat % 16)], by omega, by go_num, by rw [List.length_append, List.map_append]; exact hown', hb', HF, by rw [List.length_append]; simp; omega⟩
          case measure => simp [intOf]; omega
      · have e1 : esc1 s[k] = [s[k]] := by unfold esc1; rw [hp]; rfl
        have HF : Hid (acc ++ [s[k]] = esc ((L s).take (k + 1))) := by show _ = _; rw [hstep, e1, hinv.out]
        rw [hp] at hP
        clear hp hstep e1 hinv
        go_wp2_with fail
        refine hP.mono ?_
        rintro e w1 ⟨rfl, rfl⟩
        clear hP
        go_wp2_with (at_builtin; refine wpList_push wo rfl _ _ 81 rfl w.heap.size 5 (.int .u8 0) 1 1 Tryz.underlying81 info_u8 rfl (by decide) _ acc.length _ hown rfl [bc s[k]] rfl rfl (by intro u hu; simp at hu; subst hu; rfl) (by omega) hb.size ?_ rfl)
        intro v' w1' hown' _ _ hb' _
        clear hown
        go_wp2
        go_roundw
        case rel => exact ⟨k + 1, acc ++ [s[k]], by omega, by go_num, by simpa using hown', hb.trans hb', HF, by simp; omega⟩
        case measure => simp [intOf]; omega
    · have hltI : ¬ (k : Int) < (s.size : Int) := by omega
      have HF : Hid (r = acc) := by show _ = _; rw [← HR.out, hinv.out, List.take_of_length_le (by have := size_L s; omega)]
      obtain ⟨Ao, co, hov⟩ := own_shape hown
      subst hov
      have hcv := run_str (P := Tryz.prog) (w := wo) 81 9 5 Tryz.underlying81 Tryz.underlying9 Tryz.underlying5 w.heap.size _ _ hown
      clear hinv hown
      go_wp2
      go_ret
      exact ⟨by rw [HF.out] <;> rfl, hb⟩
end Go.Proofs.YtoopoglkeeoamaaGreatDoor
