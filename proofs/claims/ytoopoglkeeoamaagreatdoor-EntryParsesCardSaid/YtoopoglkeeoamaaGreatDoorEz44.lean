/- Part 44 of the proof that identitylaw08.EntryParses and EntryReturns return true: the package variables hold what the program lays; nothing else is asked. -/
import Derived.Test.YtoopoglkeeoamaaGreatDoorEz08
import Derived.Test.YtoopoglkeeoamaaGreatDoorEz25
import Derived.Test.YtoopoglkeeoamaaGreatDoorEz29
import Derived.Test.YtoopoglkeeoamaaGreatDoorEz30
import Derived.Test.YtoopoglkeeoamaaGreatDoorEz35
import Derived.Test.YtoopoglkeeoamaaGreatDoorEz40
set_option linter.unusedVariables false
set_option linter.unusedSimpArgs false
/- Plain law: the lines of a schema, written and read. -/
namespace Go.Proofs.YtoopoglkeeoamaaGreatDoor
open Idn (L B Bs)
end Go.Proofs.YtoopoglkeeoamaaGreatDoor
/- Plain law: Parse of a schema's text is the schema; the text of what Parse read is what it read. -/
namespace Go.Proofs.YtoopoglkeeoamaaGreatDoor
open Idn (L B Bs)
end Go.Proofs.YtoopoglkeeoamaaGreatDoor
/- Plain law: Parse by the reference is the layer's. -/
namespace Go.Proofs.YtoopoglkeeoamaaGreatDoor
open Go.RowKit Go.Sort
open Idn (L B Bs)
end Go.Proofs.YtoopoglkeeoamaaGreatDoor
/- identityref07: Cut, names. -/
namespace Go.Proofs.YtoopoglkeeoamaaGreatDoor
open Go.RowKit Go.Sort
open Idn (L B Bs drop_L take_L size_L)
theorem onHead_nil {ls : List Bs} (h : ls ≠ []) : Idn.onHead [] ls = ls := by
  cases ls with
  | nil => exact absurd rfl h
  | cons q l => rfl
theorem onHead_app (p q : Bs) {ls : List Bs} (h : ls ≠ []) : Idn.onHead p (Idn.onHead q ls) = Idn.onHead (p ++ q) ls := by
  cases ls with
  | nil => exact absurd rfl h
  | cons r l => simp [Idn.onHead]
def pend (s : Bs) (f k : Nat) : Bs := (s.drop f).take (k - f)
theorem pend_zero (s : Bs) (k : Nat) : pend s k k = [] := by unfold pend; simp
theorem pend_succ (s : ByteArray) (f k : Nat) (hf : f ≤ k) (hk : k < s.size) : pend (L s) f (k + 1) = pend (L s) f k ++ [s[k]] := by
  unfold pend
  rw [show k + 1 - f = (k - f) + 1 by omega]
  have hl : k - f < ((L s).drop f).length := by rw [List.length_drop, ← size_L]; omega
  rw [List.take_succ_eq_append_getElem hl, List.getElem_drop]
  have e : f + (k - f) = k := by omega
  simp only [e]
  rfl
end Go.Proofs.YtoopoglkeeoamaaGreatDoor
/- identityref08: cut, fields. -/
namespace Go.Proofs.YtoopoglkeeoamaaGreatDoor
open Go.RowKit Go.Sort
open Idn (L B Bs drop_L take_L size_L)
theorem onHead_drop (p : Bs) {ls : List Bs} (h : ls ≠ []) : (Idn.onHead p ([] :: ls)).dropLast = p :: ls.dropLast := by
  cases ls with
  | nil => exact absurd rfl h
  | cons q l => simp [Idn.onHead]
def fldV (l : Bs) : Bs × Bs × Bool := match Idn.fstC 32 l with
  | none => ([], [], false)
  | some i => (l.take i, l.drop (i + 1), true)
set_option maxHeartbeats 1000000 in
set_option maxRecDepth 100000 in
theorem r8_cut_any (s : ByteArray) (w : World) (hs : s.size ≤ 1000000000) :
    Calls Tryz.prog 77 #[.string s] w (RetS w (Idn.cutC 10 (L s)).dropLast) := by
  generalize hrr : (Idn.cutC 10 (L s)).dropLast = r
  have HR : Hid (r = (Idn.cutC 10 (L s)).dropLast) := hrr.symm
  clear hrr
  go_enter Tryz.func77, Tryz.ntmps77
  go_wp2
  go_loopw [3, 4, 5] (fun u f i wr => ∃ (k g : Nat) (acc : List Bs), k ≤ s.size ∧ g ≤ k ∧ i = .int .i64 k ∧ f = .int .i64 g ∧ wr.ownsRow w.heap.size 9 1 u acc.length (acc.map sv) ∧ Below w.heap.size w wr ∧ acc.length ≤ k ∧
    Hid (r = acc ++ (Idn.onHead (pend (L s) g k) (Idn.cutC 10 ((L s).drop k))).dropLast)) (fun _ _ i _ => s.size - (intOf i).toNat)
  case atStart => exact ⟨0, 0, [], Nat.zero_le _, Nat.le_refl _, rfl, rfl, World.ownsRow_nil _ _ _ _, Below.refl _ _, by simp, by show _ = _; rw [HR.out, pend_zero, onHead_nil (Idn.cutC_ne _ _)]; simp⟩
  case round =>
    obtain ⟨k, g, acc, hk, hg, rfl, rfl, hown, hb, hal, hinv⟩ := hrel
    clear HR
    have hgI : (g : Int) ≤ (k : Int) := by omega
    have hg0 : (0 : Int) ≤ (g : Int) := by omega
    have hkI : (k : Int) ≤ (s.size : Int) := by omega
    have hex : s.extract g k = B (pend (L s) g k) := extract_B s g k
    by_cases hlt : k < s.size
    · have hd := drop_L s k hlt
      have hltI : (k : Int) < (s.size : Int) := by omega
      by_cases hc : s[k] = 10
      · have ht : ((s[k].toNat : Int) == 10) = true := byte_is hc
        have HF : Hid (r = (acc ++ [pend (L s) g k]) ++ (Idn.onHead (pend (L s) (k + 1) (k + 1)) (Idn.cutC 10 ((L s).drop (k + 1)))).dropLast) := by
          show _ = _
          have e : Idn.cutC 10 ((L s).drop k) = [] :: Idn.cutC 10 ((L s).drop (k + 1)) := by
            rw [hd]
            show (if s[k] == 10 then _ else _) = _
            rw [if_pos (by simpa using hc)]
          rw [hinv.out, e, pend_zero, onHead_nil (Idn.cutC_ne _ _), List.append_assoc, onHead_drop _ (Idn.cutC_ne _ _)]
          rfl
        have HEX := Lib.hid hex
        clear hd hc hinv hex
        go_wp2_with (at_builtin; refine wpList_push wr rfl _ _ 45 rfl w.heap.size 9 (.string ⟨#[]⟩) 1 16 Tryz.underlying45 info_str rfl (by decide) _ _ _ hown rfl [.string (s.extract g k)] rfl rfl (by intro u hu; simp at hu; subst hu; rfl) (by omega) hb.size ?_ rfl)
        intro v1 x1 ho1 _ _ hx1 _
        go_wp2
        go_roundw
        case rel => exact ⟨k + 1, k + 1, acc ++ [pend (L s) g k], by omega, Nat.le_refl _, by go_num, by go_num, by rw [HEX.out] at ho1; simpa [sv] using ho1, hb.trans hx1, by simp; omega, HF⟩
        case measure => simp [intOf]; omega
      · have ht : ((s[k].toNat : Int) == 10) = false := byte_not hc
        have HF : Hid (r = acc ++ (Idn.onHead (pend (L s) g (k + 1)) (Idn.cutC 10 ((L s).drop (k + 1)))).dropLast) := by
          show _ = _
          have e : Idn.cutC 10 ((L s).drop k) = Idn.onHead [s[k]] (Idn.cutC 10 ((L s).drop (k + 1))) := by
            rw [hd]
            show (if s[k] == 10 then _ else _) = _
            rw [if_neg (by simpa using hc)]
          rw [hinv.out, e, onHead_app _ _ (Idn.cutC_ne _ _), pend_succ s g k hg hlt]
        clear hd hc hinv hex
        go_wp2
        go_roundw
        case rel => exact ⟨k + 1, g, acc, by omega, by omega, by go_num, rfl, hown, hb, by omega, HF⟩
        case measure => simp [intOf]; omega
    · have hltI : ¬ (k : Int) < (s.size : Int) := by omega
      have HF : Hid (r = acc) := by
        show _ = _
        rw [hinv.out, List.drop_eq_nil_of_le (by rw [← size_L]; omega)]
        simp [Idn.cutC, Idn.onHead]
      clear hinv hex
      go_wp2
      go_ret
      exact ⟨_, rfl, by rw [HF.out]; exact hown, hb⟩
set_option maxHeartbeats 1000000 in
set_option maxRecDepth 100000 in
theorem r8_fields_any (s : ByteArray) (w : World) (hs : s.size ≤ 1000000000) :
    Calls Tryz.prog 78 #[.string s] w fun e w' => e = .returned (.tuple #[.string (B (fldV (L s)).1), .string (B (fldV (L s)).2.1), .bool (fldV (L s)).2.2]) ∧ Below w.heap.size w w' := by
  generalize hrr : fldV (L s) = r
  have HR : Hid (r = match Idn.fstC 32 (L s) with
    | none => ([], [], false)
    | some i => ((L s).take i, (L s).drop (i + 1), true)) := hrr.symm
  clear hrr
  go_enter Tryz.func78, Tryz.ntmps78
  go_wp2
  go_loopw [5] (fun i wr => ∃ (k : Nat), k ≤ s.size ∧ i = .int .i64 k ∧ Below w.heap.size w wr ∧ Hid (Idn.fstC 32 (L s) = (Idn.fstC 32 ((L s).drop k)).map (· + k))) (fun i _ => s.size - (intOf i).toNat)
  case atStart => exact ⟨0, Nat.zero_le _, rfl, Below.refl _ _, by show _ = _; rw [List.drop_zero]; cases Idn.fstC 32 (L s) <;> rfl⟩
  case round =>
    obtain ⟨k, hk, rfl, hb, hinv⟩ := hrel
    obtain ⟨wo, hwo⟩ : ∃ wo : World, wo = wr := ⟨_, rfl⟩
    subst hwo
    by_cases hlt : k < s.size
    · have hd := drop_L s k hlt
      have hltI : (k : Int) < (s.size : Int) := by omega
      by_cases hc : s[k] = 32
      · have ht : ((s[k].toNat : Int) == 32) = true := byte_is hc
        have hF : Idn.fstC 32 (L s) = some k := by
          rw [hinv.out, hd, Idn.fstC_cons, if_pos (by simpa using hc)]; simp
        have HF : Hid (r = ((L s).take k, (L s).drop (k + 1), true)) := by show _ = _; rw [HR.out, hF]
        have hx1 : s.extract 0 k = B ((L s).take k) := by rw [extract_B]; simp
        have hx2 : s.extract (k + 1) s.size = B ((L s).drop (k + 1)) := by
          rw [extract_B, List.take_of_length_le (by rw [List.length_drop, ← size_L]; omega)]
        have HX1 := Lib.hid hx1
        have HX2 := Lib.hid hx2
        have hw1 : IntKind.i64.wrap ((k : Int) + 1) = ((k + 1 : Nat) : Int) := by rw [IntWalk.i64_in _ (by omega)]; rfl
        have hk1 : ((k + 1 : Nat) : Int) ≤ (s.size : Int) := by omega
        have hk0 : (k : Int) ≤ (s.size : Int) := by omega
        clear HR hd hc hinv hF hx1 hx2
        go_wp2
        refine wp_region_quiet_below (by kernel_rfl) (by kernel_rfl) ?_
        repeat (first | go_big_quiet_step ((fail)) | quiet_step ((fail)))
        refine wpQuiet_nil ?_
        intro _ hw'
        obtain ⟨⟨dq, osq⟩, hw''⟩ := hw'
        subst hw''
        have hb4 := below_regrown wo dq osq
        generalize grow (redrawn wo dq) osq = W4 at hb4 ⊢
        go_wp2
        exact bodyPost_ret (v := .tuple #[.string (s.extract 0 k), .string (s.extract (k + 1) s.size), .bool true]) (by simp [results, Tryz.results78, go_sem]) rfl ⟨by rw [HF.out, HX1.out, HX2.out], hb.trans (hb4.mono hb.size)⟩
      · have ht : ((s[k].toNat : Int) == 32) = false := byte_not hc
        have HF : Hid (Idn.fstC 32 (L s) = (Idn.fstC 32 ((L s).drop (k + 1))).map (· + (k + 1))) := by
          show _ = _
          rw [hinv.out, hd, Idn.fstC_cons, if_neg (by simpa using hc)]
          cases Idn.fstC 32 ((L s).drop (k + 1)) <;> simp; omega
        clear HR hd hc hinv
        go_wp2
        go_roundw
        case rel => exact ⟨k + 1, by omega, by go_num, hb, HF⟩
        case measure => simp [intOf]; omega
    · have hltI : ¬ (k : Int) < (s.size : Int) := by omega
      have HF : Hid (r = ([], [], false)) := by
        show _ = _
        rw [HR.out, hinv.out, List.drop_eq_nil_of_le (by rw [← size_L]; omega)]; rfl
      clear hinv HR
      go_wp2
      exact bodyPost_ret (v := .tuple #[.string ⟨#[]⟩, .string ⟨#[]⟩, .bool false]) (by simp [results, Tryz.results78, go_sem]) rfl ⟨by rw [HF.out]; rfl, hb⟩
end Go.Proofs.YtoopoglkeeoamaaGreatDoor
