/- Part 28 of the proof that identitylaw08.EntryApplies returns true: the package variables hold what the program lays; nothing else is asked. -/
import Derived.Test.YtoopoglkeeoamaaGreatDoorEap09
import Derived.Test.YtoopoglkeeoamaaGreatDoorEap20
import Derived.Test.YtoopoglkeeoamaaGreatDoorEap22
import Derived.Test.YtoopoglkeeoamaaGreatDoorEap23
import Derived.Test.YtoopoglkeeoamaaGreatDoorEap25
import Derived.Test.YtoopoglkeeoamaaGreatDoorEap26
import Derived.Test.YtoopoglkeeoamaaGreatDoorEap27
import Derived.Lib.ItoaLen
set_option linter.unusedVariables false
set_option linter.unusedSimpArgs false
set_option maxRecDepth 100000
set_option maxHeartbeats 8000000
/- schema: normal. -/
namespace Go.Proofs.YtoopoglkeeoamaaGreatDoor
open Go.RowKit
open Idn (L B Bs drop_L take_L size_L)
theorem mapGo_len (f : Int → Int) : ∀ (n : Nat) (l : Bs), (Lib.mapGoD f n l).length ≤ n * 4
  | 0, l => by simp [Lib.mapGoD]
  | n + 1, l => by
    unfold Lib.mapGoD
    split
    · simp
    · rw [List.length_append]
      have h1 := mapGo_len f n (l.drop (Lib.decodeL l).2)
      have h2 : (if 0 ≤ f (Lib.decodeL l).1 then Lib.encodeRune (f (Lib.decodeL l).1) else []).length ≤ 4 := by
        split
        · unfold Lib.encodeRune; rw [List.length_map]; exact (Lib.encodeRuneZ_length _).2
        · simp
      rw [Nat.add_mul]; omega
theorem cleanN_len (v : Bs) : (Idn.cleanN v).1.length ≤ 5000 := by
 unfold Idn.cleanN
 split
 ·simp
 ·unfold Idn.format
  split
  ·simp
  ·rename_i h
   obtain ⟨h8, hsm⟩ := check_zero (l := (Idn.parse v).1) (by simpa using h)
   have := fmtK_len hsm _ (Nat.le_refl _)
   unfold fmtK at this
   rw [List.take_length] at this
   dsimp only
   omega
theorem length_norm (x : Int) (v : Bs) (h : v.length ≤ 100000000) : (Idn.normSyn x v).1.length ≤ 1000000000 := by
 unfold Idn.normSyn
 split
 ·unfold Idn.integer
  split
  ·simp
  ·split
   ·simp
   ·have hb := readInt_bd (if Lib.hasPrefix v [45] = true then 45 :: Idn.stripD (Lib.trimPrefix v [45]) else Idn.stripD (Lib.trimPrefix v [45]))
    have := Lib.itoa_length_le _ hb.1 hb.2
    dsimp only
    omega
 ·split
  ·have := mapGo_len Lib.toUpperU (Idn.lower v).length (Idn.lower v)
   rw [Idn.length_lower] at this
   show (Lib.toUpperD (Idn.lower v)).length ≤ _
   unfold Lib.toUpperD Lib.mapD
   rw [Idn.length_lower]
   omega
  ·split
   ·have := Idn.length_fold v
    dsimp only
    omega
   ·split
    ·have := cleanN_len v
     dsimp only
     omega
    ·dsimp only; omega
theorem normal_any (x : Int) (s : ByteArray) (w : World) (hE : Env w) (hU : EnvU w) (hs : s.size ≤ 100000000) :
  Calls Tryz.prog 163 #[.int .i64 x, .string s] w fun e w' => e = .returned (.tuple #[.string (B (Idn.normV x (L s)).1), .bool (Idn.normV x (L s)).2]) ∧ Below w.heap.size w w' := by
 have hC1 := fun W => clean_any s W (by omega)
 have hln := length_norm x (L s) (by have := size_L s; omega)
 have hC2 := fun W => clean_any (B (Idn.normSyn x (L s)).1) W (by rw [Idn.size_B]; omega)
 rw [Idn.L_B] at hC2
 have HR : Hid (Idn.normV x (L s) = ((Idn.normSyn x (L s)).1, (Idn.normSyn x (L s)).2 && (Idn.clean (L s) && Idn.clean (Idn.normSyn x (L s)).1))) := rfl
 clear hln
 generalize Idn.normV x (L s) = r at *
 by_cases h3 : x = 3
 ·have hI := integer_any s w hE hs
  have hn : Idn.normSyn x (L s) = Idn.integer (L s) := by unfold Idn.normSyn; rw [if_pos h3]
  rw [hn] at hC2 HR
  have e3 : (x == 3) = true := by simpa using h3
  generalize Idn.integer (L s) = q at *
  obtain ⟨o, okb⟩ := q
  dsimp only at *
  clear hn h3
  generalize hco : Idn.clean o = co at *
  generalize hcv : Idn.clean (L s) = cv at *
  clear hco hcv
  cases okb
  ·have HF : Hid (r = (o, false)) := by show _ = _; rw [HR.out]; rfl
   go_enter Tryz.func163, Tryz.ntmps163
   go_wp2_with (first | (go_at_call 211; refine hI.mono ?_; rintro e w1 ⟨rfl, hb1⟩))
   go_ret2
   exact ⟨by rw [HF.out]; rfl, hb1⟩
  cases cv
  ·have HF : Hid (r = (o, false)) := by show _ = _; rw [HR.out]; rfl
   have tok1 : True := trivial
   go_enter Tryz.func163, Tryz.ntmps163
   go_wp2_with (first | (go_at_call 211; refine hI.mono ?_; rintro e w1 ⟨rfl, hb1⟩) | (go_at_call 139; have _t := tok1; refine (hC1 _).mono ?_; rintro e w2 ⟨rfl, hb2⟩; clear tok1))
   go_ret2
   exact ⟨by rw [HF.out]; rfl, hb1.trans (hb2.mono hb1.size)⟩
  have HF : Hid (r = (o, co)) := by show _ = _; rw [HR.out]; rfl
  have tok1 : True := trivial
  go_enter Tryz.func163, Tryz.ntmps163
  go_wp2_with (first | (go_at_call 211; refine hI.mono ?_; rintro e w1 ⟨rfl, hb1⟩) | (go_at_call 139; have _t := tok1; refine (hC1 _).mono ?_; rintro e w2 ⟨rfl, hb2⟩; clear tok1) | (go_at_call 139; refine (hC2 _).mono ?_; rintro e w3 ⟨rfl, hb3⟩))
  go_ret2
  exact ⟨by rw [HF.out]; rfl, (hb1.trans (hb2.mono hb1.size)).trans (hb3.mono (hb1.trans (hb2.mono hb1.size)).size)⟩
 have e3 : (x == 3) = false := by simpa using h3
 by_cases h5 : x = 5
 ·have hI := truth_any s w hU hs
  have hn : Idn.normSyn x (L s) = Idn.truth (L s) := by unfold Idn.normSyn; rw [if_neg h3, if_pos h5]
  rw [hn] at hC2 HR
  have e5 : (x == 5) = true := by simpa using h5
  generalize Idn.truth (L s) = q at *
  obtain ⟨o, okb⟩ := q
  dsimp only at *
  clear hn h3 h5
  generalize hco : Idn.clean o = co at *
  generalize hcv : Idn.clean (L s) = cv at *
  clear hco hcv
  cases okb
  ·have HF : Hid (r = (o, false)) := by show _ = _; rw [HR.out]; rfl
   go_enter Tryz.func163, Tryz.ntmps163
   go_wp2_with (first | (go_at_call 212; refine hI.mono ?_; rintro e w1 ⟨rfl, hb1⟩))
   go_ret2
   exact ⟨by rw [HF.out]; rfl, hb1⟩
  cases cv
  ·have HF : Hid (r = (o, false)) := by show _ = _; rw [HR.out]; rfl
   have tok1 : True := trivial
   go_enter Tryz.func163, Tryz.ntmps163
   go_wp2_with (first | (go_at_call 212; refine hI.mono ?_; rintro e w1 ⟨rfl, hb1⟩) | (go_at_call 139; have _t := tok1; refine (hC1 _).mono ?_; rintro e w2 ⟨rfl, hb2⟩; clear tok1))
   go_ret2
   exact ⟨by rw [HF.out]; rfl, hb1.trans (hb2.mono hb1.size)⟩
  have HF : Hid (r = (o, co)) := by show _ = _; rw [HR.out]; rfl
  have tok1 : True := trivial
  go_enter Tryz.func163, Tryz.ntmps163
  go_wp2_with (first | (go_at_call 212; refine hI.mono ?_; rintro e w1 ⟨rfl, hb1⟩) | (go_at_call 139; have _t := tok1; refine (hC1 _).mono ?_; rintro e w2 ⟨rfl, hb2⟩; clear tok1) | (go_at_call 139; refine (hC2 _).mono ?_; rintro e w3 ⟨rfl, hb3⟩))
  go_ret2
  exact ⟨by rw [HF.out]; rfl, (hb1.trans (hb2.mono hb1.size)).trans (hb3.mono (hb1.trans (hb2.mono hb1.size)).size)⟩
 have e5 : (x == 5) = false := by simpa using h5
 by_cases h1 : x = 1
 ·have hI := fold_any s w (by omega)
  have hn : Idn.normSyn x (L s) = (Idn.fold (L s), true) := by unfold Idn.normSyn; rw [if_neg h3, if_neg h5, if_pos h1]
  rw [hn] at hC2 HR
  have e1 : (x == 1) = true := by simpa using h1
  dsimp only at *
  generalize Idn.fold (L s) = o at *
  clear hn h3 h5 h1
  generalize hco : Idn.clean o = co at *
  generalize hcv : Idn.clean (L s) = cv at *
  clear hco hcv
  cases cv
  ·have HF : Hid (r = (o, false)) := by show _ = _; rw [HR.out]; rfl
   have tok1 : True := trivial
   go_enter Tryz.func163, Tryz.ntmps163
   go_wp2_with (first | (go_at_call 148; refine hI.mono ?_; rintro e w1 ⟨rfl, hb1⟩) | (go_at_call 139; have _t := tok1; refine (hC1 _).mono ?_; rintro e w2 ⟨rfl, hb2⟩; clear tok1))
   go_ret2
   exact ⟨by rw [HF.out]; rfl, hb1.trans (hb2.mono hb1.size)⟩
  have HF : Hid (r = (o, co)) := by show _ = _; rw [HR.out]; rfl
  have tok1 : True := trivial
  go_enter Tryz.func163, Tryz.ntmps163
  go_wp2_with (first | (go_at_call 148; refine hI.mono ?_; rintro e w1 ⟨rfl, hb1⟩) | (go_at_call 139; have _t := tok1; refine (hC1 _).mono ?_; rintro e w2 ⟨rfl, hb2⟩; clear tok1) | (go_at_call 139; refine (hC2 _).mono ?_; rintro e w3 ⟨rfl, hb3⟩))
  go_ret2
  exact ⟨by rw [HF.out]; rfl, (hb1.trans (hb2.mono hb1.size)).trans (hb3.mono (hb1.trans (hb2.mono hb1.size)).size)⟩
 have e1 : (x == 1) = false := by simpa using h1
 by_cases h4 : x = 4
 ·have hI := nm_clean_any s w (by omega)
  have hn : Idn.normSyn x (L s) = ((Idn.cleanN (L s)).1, (Idn.cleanN (L s)).2 == 0) := by unfold Idn.normSyn; rw [if_neg h3, if_neg h5, if_neg h1, if_pos h4]
  rw [hn] at hC2 HR
  have e4 : (x == 4) = true := by simpa using h4
  generalize Idn.cleanN (L s) = q at *
  obtain ⟨o, oc⟩ := q
  dsimp only at *
  clear hn h3 h5 h1 h4
  generalize hco : Idn.clean o = co at *
  generalize hcv : Idn.clean (L s) = cv at *
  clear hco hcv
  by_cases hc : oc = 0
  case neg =>
   have hcz : (oc == 0) = false := by simpa using hc
   have HF : Hid (r = (o, false)) := by show _ = _; rw [HR.out, hcz]; rfl
   clear hc HR
   go_enter Tryz.func163, Tryz.ntmps163
   go_wp2_with (first | (go_at_call 44; refine hI.mono ?_; rintro e w1 ⟨rfl, hb1⟩))
   go_ret2
   exact ⟨by rw [HF.out]; rfl, hb1⟩
  subst hc
  cases cv
  ·have HF : Hid (r = (o, false)) := by show _ = _; rw [HR.out]; rfl
   have tok1 : True := trivial
   go_enter Tryz.func163, Tryz.ntmps163
   go_wp2_with (first | (go_at_call 44; refine hI.mono ?_; rintro e w1 ⟨rfl, hb1⟩) | (go_at_call 139; have _t := tok1; refine (hC1 _).mono ?_; rintro e w2 ⟨rfl, hb2⟩; clear tok1))
   go_ret2
   exact ⟨by rw [HF.out]; rfl, hb1.trans (hb2.mono hb1.size)⟩
  have HF : Hid (r = (o, co)) := by show _ = _; rw [HR.out]; rfl
  have tok1 : True := trivial
  go_enter Tryz.func163, Tryz.ntmps163
  go_wp2_with (first | (go_at_call 44; refine hI.mono ?_; rintro e w1 ⟨rfl, hb1⟩) | (go_at_call 139; have _t := tok1; refine (hC1 _).mono ?_; rintro e w2 ⟨rfl, hb2⟩; clear tok1) | (go_at_call 139; refine (hC2 _).mono ?_; rintro e w3 ⟨rfl, hb3⟩))
  go_ret2
  exact ⟨by rw [HF.out]; rfl, (hb1.trans (hb2.mono hb1.size)).trans (hb3.mono (hb1.trans (hb2.mono hb1.size)).size)⟩
 have e4 : (x == 4) = false := by simpa using h4
 by_cases h2 : x = 2
 ·have hn : Idn.normSyn x (L s) = (L s, true) := by unfold Idn.normSyn; rw [if_neg h3, if_neg h5, if_neg h1, if_neg h4]
  rw [hn] at hC2 HR
  have e2 : (x == 2) = true := by simpa using h2
  dsimp only at *
  clear hn h3 h5 h1 h2 h4
  generalize hcv : Idn.clean (L s) = cv at *
  clear hcv
  cases cv
  ·have HF : Hid (r = ((L s), false)) := by show _ = _; rw [HR.out]; rfl
   have tok1 : True := trivial
   go_enter Tryz.func163, Tryz.ntmps163
   go_wp2_with (first | (go_at_call 139; have _t := tok1; refine (hC1 _).mono ?_; rintro e w2 ⟨rfl, hb2⟩; clear tok1))
   go_ret2
   exact ⟨by rw [HF.out]; rfl, hb2⟩
  have HF : Hid (r = ((L s), true)) := by show _ = _; rw [HR.out]; rfl
  have tok1 : True := trivial
  go_enter Tryz.func163, Tryz.ntmps163
  go_wp2_with (first | (go_at_call 139; have _t := tok1; refine (hC1 _).mono ?_; rintro e w2 ⟨rfl, hb2⟩; clear tok1) | (go_at_call 139; refine (hC2 _).mono ?_; rintro e w3 ⟨rfl, hb3⟩))
  go_ret2
  exact ⟨by rw [HF.out]; rfl, hb2.trans (hb3.mono hb2.size)⟩
 have e2 : (x == 2) = false := by simpa using h2
 have hn : Idn.normSyn x (L s) = (L s, true) := by unfold Idn.normSyn; rw [if_neg h3, if_neg h5, if_neg h1, if_neg h4]
 rw [hn] at hC2 HR
 dsimp only at *
 clear hn h3 h5 h1 h2 h4
 generalize hcv : Idn.clean (L s) = cv at *
 clear hcv
 cases cv
 ·have HF : Hid (r = ((L s), false)) := by show _ = _; rw [HR.out]; rfl
  have tok1 : True := trivial
  go_enter Tryz.func163, Tryz.ntmps163
  go_wp2_with (first | (go_at_call 139; have _t := tok1; refine (hC1 _).mono ?_; rintro e w2 ⟨rfl, hb2⟩; clear tok1))
  go_ret2
  exact ⟨by rw [HF.out]; rfl, hb2⟩
 have HF : Hid (r = ((L s), true)) := by show _ = _; rw [HR.out]; rfl
 have tok1 : True := trivial
 go_enter Tryz.func163, Tryz.ntmps163
 go_wp2_with (first | (go_at_call 139; have _t := tok1; refine (hC1 _).mono ?_; rintro e w2 ⟨rfl, hb2⟩; clear tok1) | (go_at_call 139; refine (hC2 _).mono ?_; rintro e w3 ⟨rfl, hb3⟩))
 go_ret2
 exact ⟨by rw [HF.out]; rfl, hb2.trans (hb3.mono hb2.size)⟩
end Go.Proofs.YtoopoglkeeoamaaGreatDoor
/- schema: (known).normal, Normal. -/
namespace Go.Proofs.YtoopoglkeeoamaaGreatDoor
open Go.RowKit Go.Sort
open Idn (L B Bs drop_L take_L size_L)
def kNorm (s : Idn.Sch) (n v : Bs) : Idn.AT × Bs × Int :=
 if !(tyLook s n).2 then ((tyLook s n).1, [], 6)
 else if !(Idn.normV (tyLook s n).1.syn v).2 then ((tyLook s n).1, [], 8)
 else ((tyLook s n).1, (Idn.normV (tyLook s n).1.syn v).1, 0)
def ThreeAt (X : World) (p : Nat) (a b c : Value) : Prop :=
 (X.cell? ⟨p, 0, none⟩ = some a ∧ X.cell? ⟨p, 1, none⟩ = some b ∧ X.cell? ⟨p, 2, none⟩ = some c) ∧ p < X.heap.size
theorem threeA (W : World) (a b c : Value) (t : TypeId) : ThreeAt (W.alloc (.cells #[a, b, c] t)) W.heap.size a b c := by
 have e := heap_alloc_new W (.cells #[a, b, c] t)
 refine ⟨⟨?_, ?_, ?_⟩, by simp⟩
 ·rw [cell_of_row _ W.heap.size 0 _ _ (0, 0) e]; rfl
 ·rw [cell_of_row _ W.heap.size 1 _ _ (0, 0) e]; rfl
 ·rw [cell_of_row _ W.heap.size 2 _ _ (0, 0) e]; rfl
theorem threeB {X : World} {p : Nat} {a0 b0 c0 : Value} (h0 : X.cell? ⟨p, 0, none⟩ = some a0) (h1 : X.cell? ⟨p, 1, none⟩ = some b0) (h2 : X.cell? ⟨p, 2, none⟩ = some c0) (a b c : Value) :
  ThreeAt (((X.setCell ⟨p, 0, none⟩ a).setCell ⟨p, 1, none⟩ b).setCell ⟨p, 2, none⟩ c) p a b c := by
 have hp := World.block_lt_of_cell? _ _ h0
 refine ⟨⟨?_, ?_, ?_⟩, by simpa using hp⟩ <;> go_simp
theorem ThreeAt.keep {X Y : World} {p : Nat} {a b c : Value} (h : ThreeAt X p a b c) (hb : Below X.heap.size X Y) : ThreeAt Y p a b c :=
 ⟨⟨cell_later hb h.1.1, cell_later hb h.1.2.1, cell_later hb h.1.2.2⟩, Nat.lt_of_lt_of_le h.2 hb.size⟩
theorem kNormal_any (m1 m2 : Value) (s : Idn.Sch) (n v : ByteArray) (w : World) (hm : MapV w m1 (tyE s.types)) (h2 : ∃ o2, m2 = .map o2) (hE : Env w) (hU : EnvU w) (hn : n.size ≤ 1000000000) (hv : v.size ≤ 100000000) :
  Calls Tryz.prog 161 #[.agg #[m1, m2], .string n, .string v] w fun e w' => e = .returned (.tuple #[tyV (kNorm s (L n) (L v)).1, .string (B (kNorm s (L n) (L v)).2.1), .int .i64 (kNorm s (L n) (L v)).2.2]) ∧ Below w.heap.size w w' := by
 obtain ⟨o1, rfl⟩ := hm.shape
 obtain ⟨o2, rfl⟩ := h2
 have hl := fun W => lower_any n W (by omega)
 obtain ⟨hva, hsome⟩ := tyLook_lk s (L n)
 have hkn : kNorm s (L n) (L v) = if !(tyLook s (L n)).2 then ((tyLook s (L n)).1, [], 6)
  else if !(Idn.normV (tyLook s (L n)).1.syn (L v)).2 then ((tyLook s (L n)).1, [], 8)
  else ((tyLook s (L n)).1, (Idn.normV (tyLook s (L n)).1.syn (L v)).1, 0) := rfl
 generalize hrr : kNorm s (L n) (L v) = r at *
 clear hrr
 generalize tyLook s (L n) = rr at *
 obtain ⟨⟨ta, tb, tc⟩, td⟩ := rr
 unfold tyV at hva
 dsimp only [sv] at hva hsome hkn
 have hNv := fun W h1 h2 => normal_any tb v W h1 h2 hv
 generalize Idn.normV tb (L v) = nv at *
 obtain ⟨no, nb⟩ := nv
 dsimp only at *
 have HR := Lib.hid hkn
 clear hkn
 go_enter Tryz.func161, Tryz.ntmps161
 go_wp2
 with_reducible refine gen2g (R := fun W => Code.wp Tryz.prog _ _ _ W) ?_
 intro W hbW hszW hc1 hc2 hf1 hf2
 have k0 : W.cell? ⟨w.heap.size, 0, none⟩ = some (.map o1) := hc1 0 _ rfl
 have r0 : W.cell? ⟨w.heap.size + 1, 0, none⟩ = some (.string ⟨#[]⟩) := hc2 0 _ rfl
 have r1 : W.cell? ⟨w.heap.size + 1, 1, none⟩ = some (.int .i64 0) := hc2 1 _ rfl
 have r2 : W.cell? ⟨w.heap.size + 1, 2, none⟩ = some (.bool false) := hc2 2 _ rfl
 have g0 := hf2 0
 have g1 := hf2 1
 have g2 := hf2 2
 clear hc1 hc2 hf1 hf2
 have hl1 : w.heap.size < W.heap.size := by omega
 have hl2 : w.heap.size + 1 < W.heap.size := by omega
 clear hszW
 have hS : ∀ W', Below W.heap.size W W' → W'.cell? ⟨w.heap.size, 0, none⟩ = some (.map o1) ∧ (Instr.lookup 116 (.map o1) (.string (B (Idn.lower (L n)))) true).run Tryz.prog W' = .ok (.tuple #[.agg #[.string (B ta), .int .i64 tb, .bool tc], .bool td]) W' ∧ Below W.heap.size W W' := fun W' hW => by
  refine ⟨cell_later hW k0, ?_, hW⟩
  have := ((hm.keep hbW).keep hW).run (P := Tryz.prog) Tryz.underlying9 Tryz.underlying116 (zeroAT _) (B (Idn.lower (L n)))
  rw [Idn.L_B, hva, hsome] at this
  exact this
 have hw0 := Below.refl W.heap.size W
 go_upto_region 1 with fail
 go_cut [9, 10] (fun p ok wx => ∃ g : Nat, p = .pointer (some ⟨g, 0, none⟩) ∧ ok = .bool td ∧ ThreeAt wx g (.string (B ta)) (.int .i64 tb) (.bool tc) ∧ Below W.heap.size W wx)
 case first =>
  go_region_held3 (fun W' => W'.cell? ⟨w.heap.size, 0, none⟩ = some (.map o1) ∧ (Instr.lookup 116 (.map o1) (.string (B (Idn.lower (L n)))) true).run Tryz.prog W' = .ok (.tuple #[.agg #[.string (B ta), .int .i64 tb, .bool tc], .bool td]) W' ∧ Below W.heap.size W W')
   (first | (refine hS _ ?_; repeat (first | with_reducible exact Below.refl _ _ | with_reducible apply Below.drew | with_reducible refine Below.lay ?_ _ | with_reducible refine Below.setCell ?_ (by simp) _ | with_reducible refine Below.on ?_ hb1)))
   (first | (go_at_call 49; refine (hl _).mono ?_; rintro e w1 ⟨rfl, hb1⟩; first | have hn := three_new hb1 | skip))
  all_goals (go_wp2_with fail; go_meet)
  all_goals first | exact ⟨_, rfl, rfl, threeA _ _ _ _ _, And.right (And.right (by assumption))⟩ | exact ⟨_, rfl, rfl, threeB hn.1.1 hn.1.2.1 hn.1.2.2 _ _ _, And.right (And.right (by assumption))⟩
 case rest =>
  obtain ⟨g, rfl, rfl, hT, hb⟩ := hcut
  have hbw := hbW.trans (hb.mono hbW.size)
  replace r0 := cell_later hb r0
  replace r1 := cell_later hb r1
  replace r2 := cell_later hb r2
  replace g0 := frozen_later hb g0 hl2
  replace g1 := frozen_later hb g1 hl2
  replace g2 := frozen_later hb g2 hl2
  have hl3 : w.heap.size + 1 < wc.heap.size := by have := hb.size; omega
  obtain ⟨⟨t0, t1, t2⟩, hgl⟩ := hT
  clear hS hw0 k0 hl
  cases td
  ·have HF : Hid (r = (⟨ta, tb, tc⟩, [], 6)) := HR
   go_wp2
   exact bodyPost_ret (v := .tuple #[.agg #[.string (B ta), .int .i64 tb, .bool tc], .string ⟨#[]⟩, .int .i64 6]) (by simp [results, Tryz.results161, go_sem, r0, r1, r2, g0, g1, g2]) rfl ⟨by rw [HF.out]; rfl, ((hbw.setCell (p := ⟨w.heap.size + 1, 0, none⟩) (Nat.le_succ _) _).setCell (p := ⟨w.heap.size + 1, 1, none⟩) (Nat.le_succ _) _).setCell (p := ⟨w.heap.size + 1, 2, none⟩) (Nat.le_succ _) _⟩
  ·have hN := hNv wc (hE.keep hbw) (hU.keep hbw)
   clear hNv
   go_wp2_with fail
   refine hN.mono ?_
   rintro e w4 ⟨rfl, hb4⟩
   clear hN
   replace r0 := cell_later hb4 r0
   replace r1 := cell_later hb4 r1
   replace r2 := cell_later hb4 r2
   replace t0 := cell_later hb4 t0
   replace t1 := cell_later hb4 t1
   replace t2 := cell_later hb4 t2
   replace g0 := frozen_later hb4 g0 (by omega)
   replace g1 := frozen_later hb4 g1 (by omega)
   replace g2 := frozen_later hb4 g2 (by omega)
   have hl4 : w.heap.size + 1 < w4.heap.size := by have := hb4.size; omega
   have hbw4 := hbw.trans (hb4.mono hbw.size)
   cases nb
   ·have HF : Hid (r = (⟨ta, tb, tc⟩, [], 8)) := HR
    go_wp2
    exact bodyPost_ret (v := .tuple #[.agg #[.string (B ta), .int .i64 tb, .bool tc], .string ⟨#[]⟩, .int .i64 8]) (by simp [results, Tryz.results161, go_sem, r0, r1, r2, g0, g1, g2]) rfl ⟨by rw [HF.out]; rfl, ((hbw4.setCell (p := ⟨w.heap.size + 1, 0, none⟩) (Nat.le_succ _) _).setCell (p := ⟨w.heap.size + 1, 1, none⟩) (Nat.le_succ _) _).setCell (p := ⟨w.heap.size + 1, 2, none⟩) (Nat.le_succ _) _⟩
   ·have HF : Hid (r = (⟨ta, tb, tc⟩, no, 0)) := HR
    go_wp2
    exact bodyPost_ret (v := .tuple #[.agg #[.string (B ta), .int .i64 tb, .bool tc], .string (B no), .int .i64 0]) (by simp [results, Tryz.results161, go_sem, r0, r1, r2, g0, g1, g2]) rfl ⟨by rw [HF.out]; rfl, ((hbw4.setCell (p := ⟨w.heap.size + 1, 0, none⟩) (Nat.le_succ _) _).setCell (p := ⟨w.heap.size + 1, 1, none⟩) (Nat.le_succ _) _).setCell (p := ⟨w.heap.size + 1, 2, none⟩) (Nat.le_succ _) _⟩
def sNorm (s : Idn.Sch) (n v : Bs) : Bs × Int := ((kNorm (sound s) n v).2.1, (kNorm (sound s) n v).2.2)
theorem schNormal_any (u : Value) (s : Idn.Sch) (n v : ByteArray) (w : World) (hu : SchV w w.heap.size u s) (hs : SSm s) (hE : Env w) (hU : EnvU w) (hn : n.size ≤ 1000000000) (hv : v.size ≤ 100000000) :
  Calls Tryz.prog 97 #[u, .string n, .string v] w fun e w' => e = .returned (.tuple #[.string (B (sNorm s (L n) (L v)).1), .int .i64 (sNorm s (L n) (L v)).2]) ∧ Below w.heap.size w w' := by
 have hLk := fun W (hW : Below w.heap.size w W) => look_any u s W (SchV.mono (SchV.keep hu hW) hW.size) hs
 obtain ⟨a, b, rfl, hT, hC⟩ := hu
 obtain ⟨A, ca, rfl, hca⟩ := SlV.shape hT
 obtain ⟨A', cb, rfl, hcb⟩ := SlV.shape hC
 clear hT hC
 have HR : Hid (sNorm s (L n) (L v) = ((kNorm (sound s) (L n) (L v)).2.1, (kNorm (sound s) (L n) (L v)).2.2)) := rfl
 generalize sNorm s (L n) (L v) = r at *
 go_enter Tryz.func97, Tryz.ntmps97
 go_wp2_with fail
 with_reducible refine gen1 (R := fun W => Calls Tryz.prog 98 _ W _) ?_
 intro W hbW hszW _ _
 refine (hLk W hbW).mono ?_
 rintro e w1 ⟨m1, m2, rfl, hb1, hk⟩
 have hbw1 := hbW.trans (hb1.mono hbW.size)
 obtain ⟨es, h2, _⟩ := hk.2
 have hKN := kNormal_any m1 m2 (sound s) n v w1 hk.1 h2.shape (hE.keep hbw1) (hU.keep hbw1) hn hv
 clear hLk hk h2
 generalize kNorm (sound s) (L n) (L v) = kn at *
 obtain ⟨⟨ta, tb, tc⟩, no, ne⟩ := kn
 unfold tyV at hKN
 dsimp only [sv] at *
 clear hszW
 go_wp2_with fail
 refine hKN.mono ?_
 rintro e w2 ⟨rfl, hb2⟩
 clear hKN
 go_wp2
 go_ret2
 exact ⟨by rw [HR.out]; rfl, (hbw1.trans (hb2.mono hbw1.size)).alloc (by have := hbw1.size; have := hb2.size; omega) _⟩
end Go.Proofs.YtoopoglkeeoamaaGreatDoor
/- schema: attribute. -/
namespace Go.Proofs.YtoopoglkeeoamaaGreatDoor
open Go.RowKit Go.Sort
open Idn (L B Bs drop_L take_L size_L)
def badV (x : Int) (vs : List Bs) : Bool := vs.any fun v => !(Idn.normV x v).2
def attrE (s : Idn.Sch) (n : Bs) (vs : List Bs) : Int :=
 if !(tyLook s n).2 then 6
 else if badV (tyLook s n).1.syn vs then 8
 else if (tyLook s n).1.single && decide (1 < vs.length) then 9 else 0
theorem attribute_any (m1 m2 : Value) (s : Idn.Sch) (nm : ByteArray) (va : Value) (vs : List Bs) (w : World) (hm : MapV w m1 (tyE s.types)) (h2 : ∃ o2, m2 = .map o2) (hva : StrsV w w.heap.size va vs) (hE : Env w) (hU : EnvU w) (hn : nm.size ≤ 1000000000) (hvl : vs.length ≤ 1000000000) (hvs : ∀ x ∈ vs, x.length ≤ 100000000) :
  Calls Tryz.prog 99 #[.agg #[m1, m2], .agg #[.string nm, va]] w fun e w' => e = .returned (.int .i64 (attrE s (L nm) vs)) ∧ Below w.heap.size w w' := by
 obtain ⟨o1, rfl⟩ := hm.shape
 obtain ⟨o2, rfl⟩ := h2
 obtain ⟨A, c, rfl, hc⟩ := hva.shape
 have hl := fun W => lower_any nm W (by omega)
 obtain ⟨hvaL, hsome⟩ := tyLook_lk s (L nm)
 have hkn : attrE s (L nm) vs = if !(tyLook s (L nm)).2 then 6
  else if badV (tyLook s (L nm)).1.syn vs then 8
  else if (tyLook s (L nm)).1.single && decide (1 < vs.length) then 9 else 0 := rfl
 generalize hrr : attrE s (L nm) vs = r at *
 clear hrr
 generalize tyLook s (L nm) = rr at *
 obtain ⟨⟨ta, tb, tc⟩, td⟩ := rr
 unfold tyV at hvaL
 dsimp only [sv] at hvaL hsome hkn
 have HR := Lib.hid hkn
 clear hkn
 go_enter Tryz.func99, Tryz.ntmps99
 go_wp2
 with_reducible refine gen2 (R := fun W => Code.wp Tryz.prog _ _ _ W) ?_
 intro W hbW hszW hc1 hc2
 have k0 : W.cell? ⟨w.heap.size, 0, none⟩ = some (.map o1) := hc1 0 _ rfl
 have r0 : W.cell? ⟨w.heap.size + 1, 0, none⟩ = some (.string nm) := hc2 0 _ rfl
 have r1 : W.cell? ⟨w.heap.size + 1, 1, none⟩ = some (.slice A vs.length c) := hc2 1 _ rfl
 clear hc1 hc2
 have hl2 : w.heap.size + 1 < W.heap.size := by omega
 clear hszW
 have hS : ∀ W', Below W.heap.size W W' → W'.cell? ⟨w.heap.size, 0, none⟩ = some (.map o1) ∧ W'.cell? ⟨w.heap.size + 1, 0, none⟩ = some (.string nm) ∧ (Instr.lookup 116 (.map o1) (.string (B (Idn.lower (L nm)))) true).run Tryz.prog W' = .ok (.tuple #[.agg #[.string (B ta), .int .i64 tb, .bool tc], .bool td]) W' ∧ Below W.heap.size W W' := fun W' hW => by
  refine ⟨cell_later hW k0, cell_later hW r0, ?_, hW⟩
  have := ((hm.keep hbW).keep hW).run (P := Tryz.prog) Tryz.underlying9 Tryz.underlying116 (zeroAT _) (B (Idn.lower (L nm)))
  rw [Idn.L_B, hvaL, hsome] at this
  exact this
 have hw0 := Below.refl W.heap.size W
 go_upto_region 1 with fail
 go_cut [5, 6] (fun p ok wx => ∃ g : Nat, p = .pointer (some ⟨g, 0, none⟩) ∧ ok = .bool td ∧ ThreeAt wx g (.string (B ta)) (.int .i64 tb) (.bool tc) ∧ Below W.heap.size W wx)
 case first =>
  go_region_held3 (fun W' => W'.cell? ⟨w.heap.size, 0, none⟩ = some (.map o1) ∧ W'.cell? ⟨w.heap.size + 1, 0, none⟩ = some (.string nm) ∧ (Instr.lookup 116 (.map o1) (.string (B (Idn.lower (L nm)))) true).run Tryz.prog W' = .ok (.tuple #[.agg #[.string (B ta), .int .i64 tb, .bool tc], .bool td]) W' ∧ Below W.heap.size W W')
   (first | (refine hS _ ?_; repeat (first | with_reducible exact Below.refl _ _ | with_reducible apply Below.drew | with_reducible refine Below.lay ?_ _ | with_reducible refine Below.setCell ?_ (by simp) _ | with_reducible refine Below.on ?_ hb1)))
   (first | (go_at_call 49; refine (hl _).mono ?_; rintro e w1 ⟨rfl, hb1⟩; first | have hn := three_new hb1 | skip))
  all_goals (go_wp2_with fail; go_meet)
  all_goals first | exact ⟨_, rfl, rfl, threeA _ _ _ _ _, And.right (And.right (And.right (by assumption)))⟩ | exact ⟨_, rfl, rfl, threeB hn.1.1 hn.1.2.1 hn.1.2.2 _ _ _, And.right (And.right (And.right (by assumption)))⟩
 case rest =>
  obtain ⟨g, rfl, rfl, hT, hb⟩ := hcut
  have hbw := hbW.trans (hb.mono hbW.size)
  replace r1 := cell_later hb r1
  replace hl2 : w.heap.size + 1 < wc.heap.size := Nat.lt_of_lt_of_le hl2 hb.size
  obtain ⟨⟨t0, t1, t2⟩, hgl⟩ := hT
  clear hS hw0 k0 hl r0
  cases td
  ·have HF : Hid (r = 6) := HR
   go_wp2
   go_ret
   exact ⟨ret_int (by rw [HF.out]), hbw⟩
  ·have HR : Hid (r = if badV tb vs then 8 else if tc && decide (1 < vs.length) then 9 else 0) := HR
   go_wp2
   go_loopw [25] (fun i wr => ∃ k : Nat, k ≤ vs.length ∧ i = .int .i64 k ∧ Below wc.heap.size wc wr ∧ Hid (badV tb vs = badV tb (vs.drop k))) (fun i _ => vs.length - (intOf i).toNat)
   case atStart => exact ⟨0, Nat.zero_le _, rfl, Below.refl _ _, by show _ = _; simp⟩
   case round =>
    obtain ⟨k, hk, rfl, hbr, hinv⟩ := hrel
    have hbwr := hbw.trans (hbr.mono hbw.size)
    replace r1 := cell_later hbr r1
    replace t1 := cell_later hbr t1
    replace t2 := cell_later hbr t2
    by_cases hlt : k < vs.length
    ·obtain ⟨b, off, rfl, hbl, c0⟩ := StrsV.cell (SlV.keep hva hbwr) hlt
     have hltI : (k : Int) < (vs.length : Int) := by omega
     have hsz := hvs vs[k] (List.getElem_mem hlt)
     obtain ⟨s1, s2⟩ := Idn.any_drop _ vs k hlt _ hinv.out
     have hN := normal_any tb (B vs[k]) wr (hE.keep hbwr) (hU.keep hbwr) (by rw [Idn.size_B]; omega)
     rw [Idn.L_B] at hN
     generalize Idn.normV tb vs[k] = nv at *
     obtain ⟨no, nb⟩ := nv
     dsimp only at *
     clear hinv
     cases nb
     ·have HF : Hid (r = 8) := by show _ = _; rw [HR.out, s1 rfl]; rfl
      clear s1 s2
      go_wp2_with (go_at_call 163; refine hN.mono ?_; rintro e w4 ⟨rfl, hb4⟩)
      go_ret
      exact ⟨ret_int (by rw [HF.out]), hbwr.trans (hb4.mono hbwr.size)⟩
     ·have HF : Hid (badV tb vs = badV tb (vs.drop (k + 1))) := s2 rfl
      clear s1 s2
      go_wp2_with (go_at_call 163; refine hN.mono ?_; rintro e w4 ⟨rfl, hb4⟩)
      go_roundw
      case rel => exact ⟨k + 1, by omega, by go_num, hbr.trans (hb4.mono hbr.size), HF⟩
      case measure => simp [intOf]; omega
    ·have hkl : k = vs.length := by omega
     have hltI : ¬ (k : Int) < (vs.length : Int) := by omega
     have HR : Hid (r = if tc && decide (1 < vs.length) then 9 else 0) := by
      show _ = _
      rw [HR.out, hinv.out, List.drop_eq_nil_of_le (by omega)]; rfl
     clear hinv
     cases tc
     ·have HF : Hid (r = 0) := HR
      go_wp2
      go_ret
      exact ⟨ret_int (by rw [HF.out]), hbwr⟩
     ·by_cases h1 : 1 < vs.length
      ·have h1I : (1 : Int) < (vs.length : Int) := by omega
       have HF : Hid (r = 9) := by show _ = _; rw [HR.out]; simp [h1]
       go_wp2
       go_ret
       exact ⟨ret_int (by rw [HF.out]), hbwr⟩
      ·have h1I : ¬ (1 : Int) < (vs.length : Int) := by omega
       have HF : Hid (r = 0) := by show _ = _; rw [HR.out]; simp [h1]
       go_wp2
       go_ret
       exact ⟨ret_int (by rw [HF.out]), hbwr⟩
end Go.Proofs.YtoopoglkeeoamaaGreatDoor
/- attrs: Check. -/
namespace Go.Proofs.YtoopoglkeeoamaaGreatDoor
open Go.RowKit Go.Sort
open Idn (L B Bs drop_L take_L size_L)
theorem ixA_none {l : List Idn.Att} {n : Bs} (h : ∀ (i : Nat) (hi : i < l.length), Idn.lower l[i].name ≠ Idn.lower n) : Idn.ixA l n = none := by
 unfold Idn.ixA
 rw [List.findIdx?_eq_none_iff]
 intro x hx
 obtain ⟨i, hi, rfl⟩ := List.getElem_of_mem hx
 exact decide_eq_false (h i hi)
theorem ixA_some {l : List Idn.Att} {n : Bs} (i : Nat) (hi : i < l.length) (h : Idn.lower l[i].name = Idn.lower n) : (Idn.ixA l n).isSome = true := by
 unfold Idn.ixA
 rw [List.findIdx?_isSome, List.any_eq_true]
 exact ⟨l[i], List.getElem_mem hi, decide_eq_true h⟩
def TwoAt (X : World) (p : Nat) (a b : Value) : Prop := (X.cell? ⟨p, 0, none⟩ = some a ∧ X.cell? ⟨p, 1, none⟩ = some b) ∧ p < X.heap.size
theorem twoA (W : World) (a b : Value) (t : TypeId) : TwoAt (W.alloc (.cells #[a, b] t)) W.heap.size a b := by
 have e := heap_alloc_new W (.cells #[a, b] t)
 refine ⟨⟨?_, ?_⟩, by simp⟩
 ·rw [cell_of_row _ W.heap.size 0 _ _ (0, 0) e]; rfl
 ·rw [cell_of_row _ W.heap.size 1 _ _ (0, 0) e]; rfl
theorem TwoAt.keep {X Y : World} {p : Nat} {a b : Value} (h : TwoAt X p a b) (hb : Below X.heap.size X Y) : TwoAt Y p a b :=
 ⟨⟨cell_later hb h.1.1, cell_later hb h.1.2⟩, Nat.lt_of_lt_of_le h.2 hb.size⟩
theorem attsCheck_any (v : Value) (l : List Idn.Att) (w : World) (hv : AttsV w w.heap.size v l) (hs : ASm l) :
  Calls Tryz.prog 41 #[v] w fun e w' => e = .returned (.int .i64 (Idn.aCheck l)) ∧ Below w.heap.size w w' := by
 obtain ⟨A, c, rfl, hc⟩ := SlV.shape hv
 generalize hrr : Idn.aCheck l = r
 have HR0 : Hid (r = if 32 < l.length then 3 else Idn.attsErr [] l) := hrr.symm
 clear hrr
 have hl9 := hs.1
 by_cases h32 : 32 < l.length
 ·have HF : Hid (r = 3) := by show _ = _; rw [HR0.out, if_pos h32]
  have h' : (32 : Int) < (l.length : Int) := by omega
  clear h32 HR0
  go_enter Tryz.func41, Tryz.ntmps41
  go_wp2
  go_ret
  exact ⟨ret_int (by rw [HF.out]), Below.refl _ _⟩
 have HR : Hid (r = Idn.attsErr [] l) := by show _ = _; rw [HR0.out, if_neg h32]
 have h' : (l.length : Int) ≤ (32 : Int) := by omega
 clear HR0
 go_enter Tryz.func41, Tryz.ntmps41
 go_wp2
 clear h'
 go_loopw [3, 13] (fun _ i wr => ∃ k : Nat, k ≤ l.length ∧ i = .int .i64 k ∧ Below w.heap.size w wr ∧ Hid (r = Idn.attsErr (l.take k) (l.drop k))) (fun _ i _ => l.length - (intOf i).toNat)
 case atStart => exact ⟨0, Nat.zero_le _, rfl, Below.refl _ _, by show _ = _; rw [HR.out]; simp⟩
 case round =>
  obtain ⟨k, hk, rfl, hb, hinv⟩ := hrel
  clear HR
  obtain ⟨wo, hwo⟩ : ∃ wo : World, wo = wr := ⟨_, rfl⟩
  subst hwo
  by_cases hlt : k < l.length
  ·obtain ⟨b, off, va, rfl, hbl, c0, c1, hva⟩ := AttsV.cell (AttsV.keep hv hb) hlt
   obtain ⟨Av, cv, rfl, hcv⟩ := SlV.shape hva
   have hltI : (k : Int) < (l.length : Int) := by omega
   have hkc : (k : Int) ≤ (c : Int) := by omega
   have hk0 : (0 : Int) ≤ (k : Int) := by omega
   obtain ⟨s1, s2⟩ := Idn.atts_step l k hlt _ hinv.out
   obtain ⟨hn9, hsv⟩ := hs.2 l[k] (List.getElem_mem hlt)
   have hN := fun W => name_any (B l[k].name) W (by rw [Idn.size_B]; omega)
   rw [Idn.L_B] at hN
   have ba := (Below.refl wo.heap.size wo).alloc (Nat.le_refl _) (.cells #[.string (B l[k].name), .slice Av l[k].vals.length cv] 48)
   have hTw := twoA wo (.string (B l[k].name)) (.slice Av l[k].vals.length cv) 48
   have hbA := hb.trans (ba.mono hb.size)
   clear hinv
   cases h1 : Idn.name l[k].name
   ·have he : Idn.attErr (l.take k) l[k] = 5 := by unfold Idn.attErr; rw [h1]; rfl
    have HF : Hid (r = 5) := by show _ = _; rw [s1 (by rw [he]; decide), he]
    rw [h1] at hN
    clear s1 s2 h1 he
    go_wp2_with (go_at_call 86; refine (hN _).mono ?_; rintro e w2 ⟨rfl, rfl⟩)
    go_ret
    exact ⟨ret_int (by rw [HF.out]), hbA⟩
   rw [h1] at hN
   have hAt : Idn.attErr (l.take k) l[k] = if (Idn.ixA (l.take k) l[k].name).isSome then 7 else if l[k].vals.length = 0 then 6 else if 16 < l[k].vals.length then 3 else Idn.valsErr [] l[k].vals := by
    unfold Idn.attErr; rw [h1]; rfl
   have HA := Lib.hid hAt
   have S1 : Hid (Idn.attErr (l.take k) l[k] ≠ 0 → r = Idn.attErr (l.take k) l[k]) := s1
   have S2 : Hid (Idn.attErr (l.take k) l[k] = 0 → r = Idn.attsErr (l.take (k + 1)) (l.drop (k + 1))) := s2
   have hVs := fun W (hW : Below wo.heap.size wo W) => values_any _ l[k].vals W (SlV.mono (SlV.keep hva (hW.mono hb.size)) (Nat.le_trans hb.size hW.size)) hsv
   clear s1 s2 h1 hAt
   go_wp2_with (go_at_call 86; refine (hN _).mono ?_; rintro e w2 ⟨rfl, rfl⟩)
   with_reducible refine gen1 (R := fun W => Code.wp Tryz.prog _ _ _ W) ?_
   intro W1 hbW1 hszW1 hc1 _
   have d0 : W1.cell? ⟨wo.heap.size, 0, none⟩ = some (.string (B l[k].name)) := hc1 0 _ rfl
   have d1 : W1.cell? ⟨wo.heap.size, 1, none⟩ = some (.slice Av l[k].vals.length cv) := hc1 1 _ rfl
   have hbw1 := hb.trans (hbW1.mono hb.size)
   have hlp : wo.heap.size < W1.heap.size := by omega
   clear hc1 hTw hbA ba hN c0 c1 hszW1
   go_loopw [26] (fun i wr => ∃ j : Nat, j ≤ k ∧ i = .int .i64 j ∧ Below W1.heap.size W1 wr ∧ Hid (∀ (i : Nat) (h : i < l.length), i < j → Idn.lower l[i].name ≠ Idn.lower l[k].name)) (fun i _ => k - (intOf i).toNat)
   case atStart => exact ⟨0, Nat.zero_le _, rfl, Below.refl _ _, by intro i h hi; omega⟩
   case round =>
    obtain ⟨j, hj, rfl, hb2, hne⟩ := hrel
    have hbw2 := hbw1.trans (hb2.mono hbw1.size)
    have D0 := cell_later hb2 d0
    have D1 := cell_later hb2 d1
    by_cases hjk : j < k
    ·have hjl : j < l.length := by omega
     have hjI : (j : Int) < (k : Int) := by omega
     obtain ⟨b', off', va', hbo, hbl', c0', c1', hva'⟩ := AttsV.cell (AttsV.keep hv hbw2) hjl
     injection hbo with hbo
     injection hbo with hb1e hb2e
     subst hb1e hb2e
     obtain ⟨Av', cv', rfl, hcv'⟩ := SlV.shape hva'
     have hn9' := (hs.2 l[j] (List.getElem_mem hjl)).1
     have hL1 := fun W => lower_any (B l[k].name) W (by rw [Idn.size_B]; omega)
     have hL2 := fun W => lower_any (B l[j].name) W (by rw [Idn.size_B]; omega)
     rw [Idn.L_B] at hL1 hL2
     have hsame : (((B (Idn.lower l[k].name)).toList == (B (Idn.lower l[j].name)).toList)) = decide (Idn.lower l[j].name = Idn.lower l[k].name) := by
      rw [str_beq]; exact decide_eq_decide.2 ⟨fun h => h.symm, fun h => h.symm⟩
     have HX : Hid (Idn.lower l[j].name = Idn.lower l[k].name → r = 7) := fun h => by
      have hi : (Idn.ixA (l.take k) l[k].name).isSome = true := ixA_some (l := l.take k) j (by rw [List.length_take]; omega) (by simpa using h)
      have e7 : Idn.attErr (l.take k) l[k] = 7 := by rw [HA.out, if_pos hi]
      rw [S1.out (by rw [e7]; decide), e7]
     generalize Idn.lower l[k].name = nk at *
     generalize hnj : Idn.lower l[j].name = nj at *
     have Hnj := Lib.hid hnj
     clear hnj
     go_wp2
     with_reducible refine gen1 (R := fun W => Code.wp Tryz.prog _ _ _ W) ?_
     intro W3 hbW3 hszW3 hc3 _
     have x0 : W3.cell? ⟨wr.heap.size, 0, none⟩ = some (.string (B l[j].name)) := hc3 0 _ rfl
     have y0 := cell_later hbW3 D0
     clear hc3
     have k0 := cell_regrown x0
     have k1 := cell_regrown y0
     have q1 := cq (W := W3) fun W' _ => hL1 W'
     have q2 := cq (W := W3) fun W' _ => hL2 W'
     by_cases he : nj = nk
     ·have HF : Hid (r = 7) := HX.out he
      have ht : (((B nk).toList == (B nj).toList)) = true := by rw [hsame]; exact decide_eq_true he
      clear hsame he
      refine wp_region_quiet_below (by kernel_rfl) (by kernel_rfl) ?_
      repeat (first | go_big_quiet_step ((go_at_call 49; first | with_reducible exact q1 _ _ | with_reducible exact q2 _ _)) | quiet_step ((go_at_call 49; first | with_reducible exact q1 _ _ | with_reducible exact q2 _ _)))
      refine wpQuiet_nil ?_
      intro _ hw'
      obtain ⟨⟨dq, osq⟩, hw''⟩ := hw'
      subst hw''
      have hb4 := below_regrown W3 dq osq
      generalize grow (redrawn W3 dq) osq = W4 at hb4 ⊢
      go_wp2
      go_ret
      exact ⟨ret_int (by rw [HF.out]), hbw2.trans ((hbW3.trans (hb4.mono hbW3.size)).mono hbw2.size)⟩
     ·have ht : (((B nk).toList == (B nj).toList)) = false := by rw [hsame]; exact decide_eq_false he
      have HN : Hid (∀ (i : Nat) (h : i < l.length), i < j + 1 → Idn.lower l[i].name ≠ nk) := fun i h hi => by
       by_cases hij : i = j
       ·subst hij; rw [Hnj.out]; exact he
       ·exact hne.out i h (by omega)
      clear hsame he
      refine wp_region_quiet_below (by kernel_rfl) (by kernel_rfl) ?_
      repeat (first | go_big_quiet_step ((go_at_call 49; first | with_reducible exact q1 _ _ | with_reducible exact q2 _ _)) | quiet_step ((go_at_call 49; first | with_reducible exact q1 _ _ | with_reducible exact q2 _ _)))
      refine wpQuiet_nil ?_
      intro _ hw'
      obtain ⟨⟨dq, osq⟩, hw''⟩ := hw'
      subst hw''
      have hb4 := below_regrown W3 dq osq
      generalize grow (redrawn W3 dq) osq = W4 at hb4 ⊢
      go_wp2
      go_roundw
      case rel => exact ⟨j + 1, by omega, by go_num, hb2.trans ((hbW3.trans (hb4.mono hbW3.size)).mono hb2.size), HN⟩
      case measure => simp [intOf]; omega
    ·have hjkI : ¬ (j : Int) < (k : Int) := by omega
     have hno : Idn.ixA (l.take k) l[k].name = none := ixA_none fun i hi => by
      rw [List.length_take] at hi
      rw [List.getElem_take]
      exact hne.out i (by omega) (by omega)
     have HB : Hid (Idn.attErr (l.take k) l[k] = if l[k].vals.length = 0 then 6 else if 16 < l[k].vals.length then 3 else Idn.valsErr [] l[k].vals) := by
      show _ = _; rw [HA.out, hno]; rfl
     clear hno hne HA
     by_cases n0 : l[k].vals.length = 0
     ·have he : Idn.attErr (l.take k) l[k] = 6 := by rw [HB.out, if_pos n0]
      have HF : Hid (r = 6) := by show _ = _; rw [S1.out (by rw [he]; decide), he]
      have e0 : ((l[k].vals.length : Int) == 0) = true := by rw [n0]; rfl
      clear he n0
      go_wp2
      go_ret
      exact ⟨ret_int (by rw [HF.out]), hbw2⟩
     have e0 : ((l[k].vals.length : Int) == 0) = false := by rw [beq_eq_false_iff_ne]; omega
     by_cases n1 : 16 < l[k].vals.length
     ·have he : Idn.attErr (l.take k) l[k] = 3 := by rw [HB.out, if_neg n0, if_pos n1]
      have HF : Hid (r = 3) := by show _ = _; rw [S1.out (by rw [he]; decide), he]
      have e1 : (16 : Int) < (l[k].vals.length : Int) := by omega
      clear he n0 n1
      go_wp2
      go_ret
      exact ⟨ret_int (by rw [HF.out]), hbw2⟩
     have e1 : (l[k].vals.length : Int) ≤ (16 : Int) := by omega
     have he : Idn.attErr (l.take k) l[k] = Idn.valsErr [] l[k].vals := by rw [HB.out, if_neg n0, if_neg n1]
     have hV := hVs wr (hbW1.trans (hb2.mono hbW1.size))
     rw [← he] at hV
     clear hVs n0 n1 he HB
     by_cases hz : Idn.attErr (l.take k) l[k] = 0
     ·have HF : Hid (r = Idn.attsErr (l.take (k + 1)) (l.drop (k + 1))) := S2.out hz
      rw [hz] at hV
      clear hz S1 S2
      go_wp2_with (go_at_call 87; refine hV.mono ?_; rintro e w5 ⟨rfl, hb5⟩)
      go_roundw
      case rel => exact ⟨k + 1, by omega, by go_num, hbw2.trans (hb5.mono hbw2.size), HF⟩
      case measure => simp [intOf]; omega
     ·have HF : Hid (r = Idn.attErr (l.take k) l[k]) := S1.out hz
      generalize Idn.attErr (l.take k) l[k] = ae at *
      have z1 : (ae == 0) = false := by simpa using hz
      have z2 : (ae != 0) = true := by simpa using hz
      clear hz
      go_wp2_with (go_at_call 87; refine hV.mono ?_; rintro e w5 ⟨rfl, hb5⟩)
      go_ret
      exact ⟨ret_int (by rw [HF.out]), hbw2.trans (hb5.mono hbw2.size)⟩
  ·have HF : Hid (r = 0) := by show _ = _; rw [hinv.out, List.drop_eq_nil_of_le (by omega)]; rfl
   have hltI : ¬ (k : Int) < (l.length : Int) := by omega
   clear hinv
   go_wp2
   go_ret
   exact ⟨ret_int (by rw [HF.out]), hb⟩
end Go.Proofs.YtoopoglkeeoamaaGreatDoor
/- attrs: find's and Sorted's closures, slices.IndexFunc at attributes. -/
namespace Go.Proofs.YtoopoglkeeoamaaGreatDoor
open Go.RowKit Go.Sort
open Idn (L B Bs drop_L take_L size_L)
def PredA (g : Nat) (lb : Array Value) (p : Bs × Nat → Bool) (l : List (Bs × Nat)) (w : World) : Prop :=
 ∀ (W : World) (x : Bs × Nat) (A : Option Addr) (c : Nat), x ∈ l → Below w.heap.size w W → Calls Tryz.prog g (#[.agg #[.string (B x.1), .slice A x.2 c]] ++ lb) W fun e w' => e = .returned (.bool (p x)) ∧ Below W.heap.size W w'
def EN (x : Bs × Nat) (cs : List Value) : Prop := ∃ A c, cs = [sv x.1, .slice A x.2 c]
abbrev NamesV (w : World) (hi : Nat) (v : Value) (l : List (Bs × Nat)) : Prop := SlV EN w hi 2 v l
theorem NamesV.cell {w : World} {hi : Nat} {A : Option Addr} {n c : Nat} {l : List (Bs × Nat)} (h : NamesV w hi (.slice A n c) l) {k : Nat} (hk : k < l.length) :
  ∃ b off A' c', A = some ⟨b, off, none⟩ ∧ b < hi ∧ w.cell? ⟨b, off + k * 2, none⟩ = some (.string (B l[k].1)) ∧ w.cell? ⟨b, off + k * 2 + 1, none⟩ = some (.slice A' l[k].2 c') := by
 obtain ⟨b, off, hA, hb, cs, h1, ⟨A', c', h2⟩, h3⟩ := h.at_ hk
 subst h2
 exact ⟨b, off, A', c', hA, hb, by simpa [sv] using h3 0 _ rfl, by simpa [Nat.add_assoc] using h3 1 _ rfl⟩
def idxP {α : Type} (p : α → Bool) (l : List α) : Int := match l.findIdx? p with | none => -1 | some k => k
theorem idxP_none {α : Type} {p : α → Bool} {l : List α} (h : l.findIdx? p = none) : idxP p l = -1 := by rw [idxP, h]
theorem idxP_some {α : Type} {p : α → Bool} {l : List α} {k : Nat} (h : l.findIdx? p = some k) : idxP p l = k := by rw [idxP, h]
theorem idxP_drop {α : Type} (p : α → Bool) (l : List α) (k : Nat) (hk : k < l.length) (h : l.findIdx? p = ((l.drop k).findIdx? p).map (· + k)) :
  (p l[k] = true → l.findIdx? p = some k) ∧ (p l[k] = false → l.findIdx? p = ((l.drop (k + 1)).findIdx? p).map (· + (k + 1))) := by
 rw [List.drop_eq_getElem_cons hk, List.findIdx?_cons] at h
 constructor
 ·intro hp; rw [hp] at h; simpa using h
 ·intro hp; rw [hp] at h; rw [h]; simp [Function.comp_def, Nat.add_assoc, Nat.add_comm 1 k]
theorem idxA_any (g : Nat) (lb : Array Value) (eg : FnB g) (p : Bs × Nat → Bool) (v : Value) (l : List (Bs × Nat)) (w : World) (hv : NamesV w w.heap.size v l) (hl : l.length ≤ 1000000000) (hp : PredA g lb p l w) :
  Calls Tryz.prog 80 #[v, .func (.func g) #[] lb] w fun e w' => e = .returned (.int .i64 (idxP p l)) ∧ Below w.heap.size w w' := by
 obtain ⟨A, ca, rfl, hca⟩ := SlV.shape hv
 unfold FnB at eg
 generalize hr : idxP p l = r
 have hR := Lib.hid hr
 clear hr
 go_enter Tryz.func80, Tryz.ntmps80
 go_wp2
 go_loopw [5, 8] (fun _ i wr => ∃ k : Nat, k ≤ l.length ∧ i = .int .i64 k ∧ Below w.heap.size w wr ∧ Hid (l.findIdx? p = ((l.drop k).findIdx? p).map (· + k))) (fun _ i _ => l.length - (intOf i).toNat)
 case atStart => exact ⟨0, Nat.zero_le _, rfl, Below.refl _ _, by show _ = _; simp⟩
 case round =>
  obtain ⟨k, hk, rfl, hb, hinv⟩ := hrel
  by_cases hlt : k < l.length
  ·obtain ⟨b, off, A', c', rfl, hbl, c0, c1⟩ := NamesV.cell (SlV.keep hv hb) hlt
   have hcall := hp wr l[k] A' c' (List.getElem_mem hlt) hb
   have hltI : (k : Int) < (l.length : Int) := by omega
   have hfd := idxP_drop p l k hlt hinv.out
   clear hp hinv
   cases hq : p l[k]
   ·have HF : Hid (l.findIdx? p = ((l.drop (k + 1)).findIdx? p).map (· + (k + 1))) := hfd.2 hq
    rw [hq] at hcall
    clear hfd hq
    go_wp2_with (refine hcall.mono ?_; rintro e w' ⟨rfl, hb'⟩)
    go_roundw
    case rel => exact ⟨k + 1, by omega, by go_num, hb.trans (hb'.mono hb.size), HF⟩
    case measure => simp [intOf]; omega
   ·have HF : Hid (r = k) := by show _ = _; rw [← hR.out, idxP_some (hfd.1 hq)]
    rw [hq] at hcall
    clear hfd hq
    go_wp2_with (refine hcall.mono ?_; rintro e w' ⟨rfl, hb'⟩)
    go_ret
    exact ⟨ret_int (by rw [HF.out]), hb.trans (hb'.mono hb.size)⟩
  ·have HF : Hid (r = -1) := by show _ = _; rw [← hR.out, idxP_none]; rw [hinv.out, List.drop_eq_nil_of_le (by omega)]; rfl
   have hltI : ¬ (k : Int) < (l.length : Int) := by omega
   go_wp2
   go_ret
   exact ⟨ret_int (by rw [HF.out]), hb⟩
def CLOS (f : Nat) : Prop := ∀ (x : Bs) (A : Option Addr) (n c q : Nat) (nm : ByteArray) (w : World), w.cell? ⟨q, 0, none⟩ = some (.string nm) → 
  Calls Tryz.prog f #[.agg #[.string (B x), .slice A n c], .pointer (some ⟨q, 0, none⟩)] w fun e w' => e = .returned (.bool (decide (x = L nm))) ∧ Below w.heap.size w w'
theorem find1_any : CLOS 194 := by
 intro x A n c q nm w hc
 have hq : q < w.heap.size := World.block_lt_of_cell? _ _ hc
 have ht : ((B x).toList == nm.toList) = decide (x = L nm) := by rw [str_beq, Idn.L_B]
 generalize decide (x = L nm) = d at *
 generalize B x = bx at *
 go_enter Tryz.func194, Tryz.ntmps194
 go_wp2
 go_ret
 exact ⟨rfl, (Below.refl _ _).alloc (Nat.le_refl _) _⟩
theorem sorted1_any : CLOS 81 := by
 intro x A n c q nm w hc
 have hq : q < w.heap.size := World.block_lt_of_cell? _ _ hc
 have ht : ((B x).toList == nm.toList) = decide (x = L nm) := by rw [str_beq, Idn.L_B]
 generalize decide (x = L nm) = d at *
 generalize B x = bx at *
 go_enter Tryz.func81, Tryz.ntmps81
 go_wp2
 go_ret
 exact ⟨rfl, (Below.refl _ _).alloc (Nat.le_refl _) _⟩
theorem fn_find1 : FnB 194 := by intro a w; kernel_rfl
theorem fn_sorted1 : FnB 81 := by intro a w; kernel_rfl
theorem fn_sorted2 : FnB 83 := by intro a w; kernel_rfl
theorem fn_sorted3 : FnB 84 := by intro a w; kernel_rfl
theorem CLOS.pred {f : Nat} (h : CLOS f) (q : Nat) (nm : ByteArray) (l : List (Bs × Nat)) (w : World) (hc : w.cell? ⟨q, 0, none⟩ = some (.string nm)) : PredA f #[.pointer (some ⟨q, 0, none⟩)] (fun x => decide (x.1 = L nm)) l w :=
 fun W x A c _ hb => h x.1 A x.2 c q nm W (cell_later hb hc)
theorem sorted2_any (x : Bs) (A : Option Addr) (n c : Nat) (w : World) : Calls Tryz.prog 83 #[.agg #[.string (B x), .slice A n c]] w fun e w' => e = .returned (.bool ((n : Int) == 0)) ∧ Below w.heap.size w w' := by
 go_enter Tryz.func83, Tryz.ntmps83
 go_wp2
 go_ret
 exact ⟨rfl, (Below.refl _ _).alloc (Nat.le_refl _) _⟩
theorem AttsV.names {w : World} {hi : Nat} {v : Value} {l : List Idn.Att} (h : AttsV w hi v l) : NamesV w hi v (l.map fun a => (a.name, a.vals.length)) := by
 obtain ⟨A, c, hv, hc, h⟩ := h
 refine ⟨A, c, by rw [hv, List.length_map], by simpa using hc, fun hp => ?_⟩
 obtain ⟨b, off, hA, hbb, hx⟩ := h (by simpa using hp)
 refine ⟨b, off, hA, hbb, fun i x hix => ?_⟩
 rw [List.getElem?_map] at hix
 obtain ⟨a, ha, rfl⟩ := Option.map_eq_some_iff.1 hix
 obtain ⟨cs, h1, ⟨u, h2, h4⟩, h3⟩ := hx i a ha
 obtain ⟨A', c', hu, _⟩ := h4.shape
 exact ⟨cs, h1, ⟨A', c', by rw [h2, hu]⟩, h3⟩
theorem find_any (v : Value) (l : List Idn.Att) (n : ByteArray) (w : World) (hv : AttsV w w.heap.size v l) (hl : l.length ≤ 1000000000) (hn : n.size ≤ 1000000000) :
  Calls Tryz.prog 127 #[v, .string n] w fun e w' => e = .returned (.int .i64 (idxP (fun a : Idn.Att => decide (a.name = Idn.lower (L n))) l)) ∧ Below w.heap.size w w' := by
 have hL := lower_any n w (by omega)
 have hI := fun (W : World) (hW : Below w.heap.size w W) (q : Nat) (hc : W.cell? ⟨q, 0, none⟩ = some (.string (B (Idn.lower (L n))))) =>
  idxA_any 194 #[.pointer (some ⟨q, 0, none⟩)] fn_find1 _ v (l.map fun a => (a.name, a.vals.length)) W (SlV.mono (SlV.keep hv.names hW) hW.size) (by simpa using hl) (find1_any.pred q _ _ W hc)
 have he : idxP (fun x : Bs × Nat => decide (x.1 = L (B (Idn.lower (L n))))) (l.map fun a => (a.name, a.vals.length)) = idxP (fun a : Idn.Att => decide (a.name = Idn.lower (L n))) l := by
  unfold idxP
  rw [findIdx_map]; rfl
 rw [he] at hI
 generalize idxP (fun a : Idn.Att => decide (a.name = Idn.lower (L n))) l = r at *
 clear he
 obtain ⟨A, c, rfl, hc⟩ := SlV.shape hv
 clear hv
 go_enter Tryz.func127, Tryz.ntmps127
 go_wp2_with fail
 refine hL.mono ?_
 rintro e w1 ⟨rfl, hb1⟩
 clear hL
 generalize B (Idn.lower (L n)) = nm at *
 go_wp2_with fail
 with_reducible refine gen1 (R := fun W => Calls Tryz.prog 80 _ W _) ?_
 intro W hbW hszW hc1 _
 have q0 : W.cell? ⟨w1.heap.size, 0, none⟩ = some (.string nm) := hc1 0 _ rfl
 have hbw := hb1.trans (hbW.mono hb1.size)
 refine (hI W hbw w1.heap.size q0).mono ?_
 rintro e w2 ⟨rfl, hb2⟩
 clear hI hc1
 go_wp2
 go_ret
 exact ⟨rfl, hbw.trans (hb2.mono hbw.size)⟩
end Go.Proofs.YtoopoglkeeoamaaGreatDoor
/- schema: Compare. -/
namespace Go.Proofs.YtoopoglkeeoamaaGreatDoor
open Go.RowKit Go.Sort
open Idn (L B Bs drop_L take_L size_L)
end Go.Proofs.YtoopoglkeeoamaaGreatDoor
/- identityref06: twice, checkValues, Check. -/
namespace Go.Proofs.YtoopoglkeeoamaaGreatDoor
open Go.RowKit Go.Sort
open Idn (L B Bs drop_L take_L size_L)
theorem r_twice_any (v : Value) (l : List Idn.Att) (k : Nat) (w : World) (hv : AttsV w w.heap.size v l) (hs : ASm l) (hk : k < l.length) :
  Calls Tryz.prog 89 #[v, .int .i64 (k : Int)] w fun e w' => e = .returned (.bool (Idn.ixA (l.take k) l[k].name).isSome) ∧ Below w.heap.size w w' := by
 obtain ⟨A, c, rfl, hc⟩ := SlV.shape hv
 have hl9 := hs.1
 have hn9 := (hs.2 l[k] (List.getElem_mem hk)).1
 generalize hr : (Idn.ixA (l.take k) l[k].name).isSome = r
 have HR : Hid (r = (Idn.ixA (l.take k) l[k].name).isSome) := hr.symm
 clear hr
 go_enter Tryz.func89, Tryz.ntmps89
 go_wp2
 go_loopw [5] (fun i wr => ∃ j : Nat, j ≤ k ∧ i = .int .i64 j ∧ Below w.heap.size w wr ∧ Hid (∀ (i : Nat) (h : i < l.length), i < j → Idn.lower l[i].name ≠ Idn.lower l[k].name)) (fun i _ => k - (intOf i).toNat)
 case atStart => exact ⟨0, Nat.zero_le _, rfl, Below.refl _ _, by intro i h hi; omega⟩
 case round =>
  obtain ⟨j, hj, rfl, hb, hne⟩ := hrel
  by_cases hjk : j < k
  ·have hjl : j < l.length := by omega
   have hjI : (j : Int) < (k : Int) := by omega
   have hjlI : (j : Int) < (l.length : Int) := by omega
   have hklI : (k : Int) < (l.length : Int) := by omega
   have hvr := AttsV.keep hv hb
   obtain ⟨b, off, va, rfl, hbl, c0, c1, hva⟩ := AttsV.cell hvr hk
   obtain ⟨b', off', va', hbo, hbl', d0, d1, hva'⟩ := AttsV.cell hvr hjl
   injection hbo with hbo
   injection hbo with hb1e hb2e
   subst hb1e hb2e
   have hn9' := (hs.2 l[j] (List.getElem_mem hjl)).1
   have hL1 := fun W => r_lower_any (B l[k].name) W (by rw [Idn.size_B]; omega)
   have hL2 := fun W => r_lower_any (B l[j].name) W (by rw [Idn.size_B]; omega)
   rw [Idn.L_B] at hL1 hL2
   have k0 := cell_regrown c0
   have k1 := cell_regrown d0
   have q1 := cq (W := wr) fun W' _ => hL1 W'
   have q2 := cq (W := wr) fun W' _ => hL2 W'
   have hsame : (((B (Idn.lower l[j].name)).toList == (B (Idn.lower l[k].name)).toList)) = decide (Idn.lower l[j].name = Idn.lower l[k].name) := by
    rw [str_beq, Idn.L_B, Idn.L_B]
   by_cases he : Idn.lower l[j].name = Idn.lower l[k].name
   ·have HF : Hid (r = true) := by show _ = _; rw [HR.out]; exact ixA_some (l := l.take k) j (by rw [List.length_take]; omega) (by simpa using he)
    rw [decide_eq_true he] at hsame
    generalize Idn.lower l[k].name = nk at *
    generalize Idn.lower l[j].name = nj at *
    clear he hL1 hL2 c0 c1 d0 d1
    go_wp2
    refine wp_region_quiet_below (by kernel_rfl) (by kernel_rfl) ?_
    repeat (first | go_big_quiet_step ((go_at_call 55; first | with_reducible exact q1 _ _ | with_reducible exact q2 _ _)) | quiet_step ((go_at_call 55; first | with_reducible exact q1 _ _ | with_reducible exact q2 _ _)))
    refine wpQuiet_nil ?_
    intro _ hw'
    obtain ⟨⟨dq, osq⟩, hw''⟩ := hw'
    subst hw''
    have hb4 := below_regrown wr dq osq
    generalize grow (redrawn wr dq) osq = W4 at hb4 ⊢
    go_wp2
    go_ret
    exact ⟨ret_bool HF.out.symm, hb.trans (hb4.mono hb.size)⟩
   ·have HN : Hid (∀ (i : Nat) (h : i < l.length), i < j + 1 → Idn.lower l[i].name ≠ Idn.lower l[k].name) := fun i h hi => by
     by_cases hij : i = j
     ·subst hij; exact he
     ·exact hne.out i h (by omega)
    rw [decide_eq_false he] at hsame
    generalize hnk : Idn.lower l[k].name = nk at *
    generalize hnj : Idn.lower l[j].name = nj at *
    have HNK := Lib.hid hnk
    have HNJ := Lib.hid hnj
    clear he hL1 hL2 c0 c1 d0 d1 hnk hnj
    go_wp2
    refine wp_region_quiet_below (by kernel_rfl) (by kernel_rfl) ?_
    repeat (first | go_big_quiet_step ((go_at_call 55; first | with_reducible exact q1 _ _ | with_reducible exact q2 _ _)) | quiet_step ((go_at_call 55; first | with_reducible exact q1 _ _ | with_reducible exact q2 _ _)))
    refine wpQuiet_nil ?_
    intro _ hw'
    obtain ⟨⟨dq, osq⟩, hw''⟩ := hw'
    subst hw''
    have hb4 := below_regrown wr dq osq
    generalize grow (redrawn wr dq) osq = W4 at hb4 ⊢
    go_wp2
    go_roundw
    case rel => exact ⟨j + 1, by omega, by go_num, hb.trans (hb4.mono hb.size), HN⟩
    case measure => simp [intOf]; omega
  ·have hjkI : ¬ (j : Int) < (k : Int) := by omega
   have HF : Hid (r = false) := by
    show _ = _
    rw [HR.out, ixA_none fun i hi => ?_]
    ·rfl
    ·rw [List.length_take] at hi
     rw [List.getElem_take]
     exact hne.out i (by omega) (by omega)
   go_wp2
   go_ret
   exact ⟨ret_bool HF.out.symm, hb⟩
def vErr (old : List Bs) : List Bs → List Bs → Int
 | _, [] => 0
 | p, v :: l => if Idn.clean v = false then 4 else if old.contains v = true then 7 else if p.contains v = true then 7 else vErr old (p ++ [v]) l
theorem vErr_nil : ∀ (l p : List Bs), vErr [] p l = Idn.valsErr p l
  | [], _ => rfl
  | v :: l, p => by
    rw [vErr, Idn.valsErr, vErr_nil l]
    cases Idn.clean v <;> cases p.contains v <;> rfl
theorem vErr_step (old l : List Bs) (k : Nat) (hk : k < l.length) (e : Int) (h : e = vErr old (l.take k) (l.drop k)) :
  (Idn.clean l[k] = false → e = 4) ∧ (Idn.clean l[k] = true → old.contains l[k] = true → e = 7) ∧ (Idn.clean l[k] = true → old.contains l[k] = false → (l.take k).contains l[k] = true → e = 7) ∧
   (Idn.clean l[k] = true → old.contains l[k] = false → (l.take k).contains l[k] = false → e = vErr old (l.take (k + 1)) (l.drop (k + 1))) := by
 rw [List.drop_eq_getElem_cons hk, vErr] at h
 refine ⟨fun h1 => ?_, fun h1 h2 => ?_, fun h1 h2 h3 => ?_, fun h1 h2 h3 => ?_⟩
 ·rw [h, if_pos h1]
 ·rw [h, if_neg (by simp [h1]), if_pos h2]
 ·rw [h, if_neg (by simp [h1]), if_neg (by simp only [h2]; decide), if_pos h3]
 ·rw [h, if_neg (by simp [h1]), if_neg (by simp only [h2]; decide), if_neg (by simp only [h3]; decide), List.take_succ_eq_append_getElem hk]
theorem r_values_any (v u : Value) (l old : List Bs) (w : World) (hv : StrsV w w.heap.size v l) (hu : StrsV w w.heap.size u old) (hs : Sm l) (ho : old.length ≤ 1000000000) :
  Calls Tryz.prog 90 #[v, u] w fun e w' => e = .returned (.int .i64 (vErr old [] l)) ∧ Below w.heap.size w w' := by
 obtain ⟨A, c, rfl, hc⟩ := hv.shape
 obtain ⟨A', c', rfl, hc'⟩ := hu.shape
 generalize hrr : vErr old [] l = r
 have HR := Lib.hid hrr
 clear hrr
 have hl9 := hs.1
 go_enter Tryz.func90, Tryz.ntmps90
 go_wp2
 go_loopw [5] (fun i wr => ∃ k : Nat, k ≤ l.length ∧ i = .int .i64 k ∧ Below w.heap.size w wr ∧ Hid (r = vErr old (l.take k) (l.drop k))) (fun i _ => l.length - (intOf i).toNat)
 case atStart => exact ⟨0, Nat.zero_le _, rfl, Below.refl _ _, by show _ = _; rw [← HR.out]; simp⟩
 case round =>
  obtain ⟨k, hk, rfl, hb, hinv⟩ := hrel
  by_cases hlt : k < l.length
  ·have hvr := SlV.keep hv hb
   obtain ⟨b, off, rfl, hbl, c0⟩ := StrsV.cell hvr hlt
   have hltI : (k : Int) < (l.length : Int) := by omega
   have hkc : (k : Int) ≤ (c : Int) := by omega
   have hk0 : (0 : Int) ≤ (k : Int) := by omega
   obtain ⟨s1, s2, s3, s4⟩ := vErr_step old l k hlt _ hinv.out
   have hsz := hs.2 l[k] (List.getElem_mem hlt)
   have hC := r_clean_any (B l[k]) wr (by rw [Idn.size_B]; omega)
   rw [Idn.L_B] at hC
   have hH1 := fun W (hW : Below wr.heap.size wr W) => r6_has_any _ old (B l[k]) W (SlV.mono (SlV.keep (SlV.keep hu hb) (hW.mono hb.size)) (Nat.le_trans hb.size hW.size)) ho
   have hH2 := fun W (hW : Below wr.heap.size wr W) => r6_has_any _ (l.take k) (B l[k]) W (SlV.take (SlV.mono (SlV.keep hvr (hW.mono hb.size)) (Nat.le_trans hb.size hW.size)) k hk) (by rw [List.length_take]; omega)
   rw [Idn.L_B] at hH1 hH2
   have k0 := cell_regrown c0
   clear hinv
   cases h1 : Idn.clean l[k]
   ·have HF : Hid (r = 4) := s1 h1
    rw [h1] at hC
    clear s1 s2 s3 s4 h1
    go_wp2_with (go_at_call 143; refine hC.mono ?_; rintro e w2 ⟨rfl, rfl⟩)
    go_ret
    exact ⟨ret_int (by rw [HF.out]), hb⟩
   rw [h1] at hC
   cases h2 : old.contains l[k]
   ·rw [h2] at hH1
    cases h3 : (l.take k).contains l[k]
    ·rw [h3] at hH2
     have HF : Hid (r = vErr old (l.take (k + 1)) (l.drop (k + 1))) := s4 h1 h2 h3
     have q1 := cq hH1
     have q2 := cq hH2
     clear s1 s2 s3 s4 h1 h2 h3 hH1 hH2
     go_wp2_with (go_at_call 143; refine hC.mono ?_; rintro e w2 ⟨rfl, rfl⟩)
     refine wp_region_quiet_below (by kernel_rfl) (by kernel_rfl) ?_
     repeat (first | go_big_quiet_step ((go_at_call 144; first | with_reducible exact q1 _ _ | with_reducible exact q2 _ _)) | quiet_step ((go_at_call 144; first | with_reducible exact q1 _ _ | with_reducible exact q2 _ _)))
     refine wpQuiet_nil ?_
     intro _ hw'
     obtain ⟨⟨dq, osq⟩, hw''⟩ := hw'
     subst hw''
     have hb4 := below_regrown wr dq osq
     generalize grow (redrawn wr dq) osq = W4 at hb4 ⊢
     go_wp2
     go_roundw
     case rel => exact ⟨k + 1, by omega, by go_num, hb.trans (hb4.mono hb.size), HF⟩
     case measure => simp [intOf]; omega
    ·rw [h3] at hH2
     have HF : Hid (r = 7) := s3 h1 h2 h3
     have q1 := cq hH1
     have q2 := cq hH2
     clear s1 s2 s3 s4 h1 h2 h3 hH1 hH2
     go_wp2_with (go_at_call 143; refine hC.mono ?_; rintro e w2 ⟨rfl, rfl⟩)
     refine wp_region_quiet_below (by kernel_rfl) (by kernel_rfl) ?_
     repeat (first | go_big_quiet_step ((go_at_call 144; first | with_reducible exact q1 _ _ | with_reducible exact q2 _ _)) | quiet_step ((go_at_call 144; first | with_reducible exact q1 _ _ | with_reducible exact q2 _ _)))
     refine wpQuiet_nil ?_
     intro _ hw'
     obtain ⟨⟨dq, osq⟩, hw''⟩ := hw'
     subst hw''
     have hb4 := below_regrown wr dq osq
     generalize grow (redrawn wr dq) osq = W4 at hb4 ⊢
     go_wp2
     go_ret
     exact ⟨ret_int (by rw [HF.out]), hb.trans (hb4.mono hb.size)⟩
   ·rw [h2] at hH1
    have HF : Hid (r = 7) := s2 h1 h2
    have q1 := cq hH1
    clear s1 s2 s3 s4 h1 h2 hH1 hH2
    go_wp2_with (go_at_call 143; refine hC.mono ?_; rintro e w2 ⟨rfl, rfl⟩)
    refine wp_region_quiet_below (by kernel_rfl) (by kernel_rfl) ?_
    repeat (first | go_big_quiet_step ((go_at_call 144; with_reducible exact q1 _ _)) | quiet_step ((go_at_call 144; with_reducible exact q1 _ _)))
    refine wpQuiet_nil ?_
    intro _ hw'
    obtain ⟨⟨dq, osq⟩, hw''⟩ := hw'
    subst hw''
    have hb4 := below_regrown wr dq osq
    generalize grow (redrawn wr dq) osq = W4 at hb4 ⊢
    go_wp2
    go_ret
    exact ⟨ret_int (by rw [HF.out]), hb.trans (hb4.mono hb.size)⟩
  ·have HF : Hid (r = 0) := by show _ = _; rw [hinv.out, List.drop_eq_nil_of_le (by omega)]; rfl
   have hltI : ¬ (k : Int) < (l.length : Int) := by omega
   clear hinv
   go_wp2
   go_ret
   exact ⟨ret_int (by rw [HF.out]), hb⟩
theorem r6_Check_any (v : Value) (l : List Idn.Att) (w : World) (hv : AttsV w w.heap.size v l) (hs : ASm l) :
  Calls Tryz.prog 43 #[v] w fun e w' => e = .returned (.int .i64 (Idn.aCheck l)) ∧ Below w.heap.size w w' := by
 have hv0 := hv
 obtain ⟨A, c, rfl, hc⟩ := SlV.shape hv
 generalize hrr : Idn.aCheck l = r
 have HR0 : Hid (r = if 32 < l.length then 3 else Idn.attsErr [] l) := hrr.symm
 clear hrr
 have hl9 := hs.1
 by_cases h32 : 32 < l.length
 ·have HF : Hid (r = 3) := by show _ = _; rw [HR0.out, if_pos h32]
  have h' : (32 : Int) < (l.length : Int) := by omega
  clear h32 HR0
  go_enter Tryz.func43, Tryz.ntmps43
  go_wp2
  go_ret
  exact ⟨ret_int (by rw [HF.out]), Below.refl _ _⟩
 have HR : Hid (r = Idn.attsErr [] l) := by show _ = _; rw [HR0.out, if_neg h32]
 have h' : (l.length : Int) ≤ (32 : Int) := by omega
 clear HR0
 go_enter Tryz.func43, Tryz.ntmps43
 go_wp2
 clear h'
 go_loopw [3] (fun i wr => ∃ k : Nat, k ≤ l.length ∧ i = .int .i64 k ∧ Below w.heap.size w wr ∧ Hid (r = Idn.attsErr (l.take k) (l.drop k))) (fun i _ => l.length - (intOf i).toNat)
 case atStart => exact ⟨0, Nat.zero_le _, rfl, Below.refl _ _, by show _ = _; rw [HR.out]; simp⟩
 case round =>
  obtain ⟨k, hk, rfl, hb, hinv⟩ := hrel
  clear HR
  by_cases hlt : k < l.length
  ·have hT := fun W (hW : Below wr.heap.size wr W) => r_twice_any _ l k W (AttsV.mono (AttsV.keep hv0 (hb.trans (hW.mono hb.size))) (Nat.le_trans hb.size hW.size)) hs hlt
   obtain ⟨b, off, va, rfl, hbl, c0, c1, hva⟩ := AttsV.cell (AttsV.keep hv hb) hlt
   obtain ⟨Av, cv, rfl, hcv⟩ := SlV.shape hva
   have hltI : (k : Int) < (l.length : Int) := by omega
   obtain ⟨s1, s2⟩ := Idn.atts_step l k hlt _ hinv.out
   obtain ⟨hn9, hsv⟩ := hs.2 l[k] (List.getElem_mem hlt)
   have hN := r_name_any (B l[k].name) wr (by rw [Idn.size_B]; omega)
   rw [Idn.L_B] at hN
   have hVs := fun W (hW : Below wr.heap.size wr W) => r_values_any _ _ l[k].vals [] W (SlV.mono (SlV.keep hva (hW.mono hb.size)) (Nat.le_trans hb.size hW.size)) (SlV.nil _ _ _ _) hsv (by simp)
   rw [vErr_nil] at hVs
   have HA : Hid (Idn.attErr (l.take k) l[k] = if !Idn.name l[k].name then 5 else if (Idn.ixA (l.take k) l[k].name).isSome then 7 else if l[k].vals.length = 0 then 6 else if 16 < l[k].vals.length then 3 else Idn.valsErr [] l[k].vals) := rfl
   have S1 := Lib.hid s1
   have S2 := Lib.hid s2
   generalize Idn.attErr (l.take k) l[k] = er at *
   clear hinv s1 s2
   cases h1 : Idn.name l[k].name
   ·have HF : Hid (r = 5) := by
     show _ = _
     have : er = 5 := by rw [HA.out, h1]; rfl
     rw [S1.out (by rw [this]; decide), this]
    rw [h1] at hN
    clear h1 HA S1 S2
    go_wp2_with (go_at_call 88; refine hN.mono ?_; rintro e w2 ⟨rfl, rfl⟩)
    go_ret
    exact ⟨ret_int (by rw [HF.out]), hb⟩
   rw [h1] at hN
   cases h2 : (Idn.ixA (l.take k) l[k].name).isSome
   case true =>
    have HF : Hid (r = 7) := by
     show _ = _
     have : er = 7 := by rw [HA.out, h1, h2]; rfl
     rw [S1.out (by rw [this]; decide), this]
    have hT1 := hT wr (Below.refl _ _)
    rw [h2] at hT1
    clear h1 h2 HA S1 S2 hT
    go_wp2_with (first | (go_at_call 88; refine hN.mono ?_; rintro e w2 ⟨rfl, rfl⟩) | (go_at_call 89; refine hT1.mono ?_; rintro e w3 ⟨rfl, hb3⟩))
    go_ret
    exact ⟨ret_int (by rw [HF.out]), hb.trans (hb3.mono hb.size)⟩
   have hT1 := hT wr (Below.refl _ _)
   rw [h2] at hT1
   have HB : Hid (er = if l[k].vals.length = 0 then 6 else if 16 < l[k].vals.length then 3 else Idn.valsErr [] l[k].vals) := by
    show _ = _; rw [HA.out, h1, h2]; rfl
   clear h1 h2 HA hT
   go_wp2_with (first | (go_at_call 88; refine hN.mono ?_; rintro e w2 ⟨rfl, rfl⟩) | fail)
   refine hT1.mono ?_
   rintro e w3 ⟨rfl, hb3⟩
   have d1 := cell_later hb3 c1
   have hbw3 := hb.trans (hb3.mono hb.size)
   clear hN hT1 c0 c1
   by_cases n0 : l[k].vals.length = 0
   ·have HF : Hid (r = 6) := by
     show _ = _
     have : er = 6 := by rw [HB.out, if_pos n0]
     rw [S1.out (by rw [this]; decide), this]
    have e0 : ((l[k].vals.length : Int) == 0) = true := by rw [n0]; rfl
    clear n0 HB S1 S2
    go_wp2
    go_ret
    exact ⟨ret_int (by rw [HF.out]), hbw3⟩
   have e0 : ((l[k].vals.length : Int) == 0) = false := by rw [beq_eq_false_iff_ne]; omega
   by_cases n1 : 16 < l[k].vals.length
   ·have HF : Hid (r = 3) := by
     show _ = _
     have : er = 3 := by rw [HB.out, if_neg n0, if_pos n1]
     rw [S1.out (by rw [this]; decide), this]
    have e1 : (16 : Int) < (l[k].vals.length : Int) := by omega
    clear n0 n1 HB S1 S2
    go_wp2
    go_ret
    exact ⟨ret_int (by rw [HF.out]), hbw3⟩
   have e1 : (l[k].vals.length : Int) ≤ (16 : Int) := by omega
   have he : er = Idn.valsErr [] l[k].vals := by rw [HB.out, if_neg n0, if_neg n1]
   have hV := hVs w3 hb3
   rw [← he] at hV
   clear hVs n0 n1 he HB
   by_cases hz : er = 0
   ·have HF : Hid (r = Idn.attsErr (l.take (k + 1)) (l.drop (k + 1))) := S2.out hz
    subst hz
    clear S1 S2
    go_wp2_with fail
    refine hV.mono ?_
    rintro e w4 ⟨rfl, hb4⟩
    go_wp2
    go_roundw
    case rel => exact ⟨k + 1, by omega, by go_num, hbw3.trans (hb4.mono hbw3.size), HF⟩
    case measure => simp [intOf]; omega
   ·have HF : Hid (r = er) := S1.out hz
    have ez : (er != 0) = true := by rw [bne_iff_ne]; exact hz
    clear S1 S2 hz
    go_wp2_with fail
    refine hV.mono ?_
    rintro e w4 ⟨rfl, hb4⟩
    go_wp2
    go_ret
    exact ⟨ret_int (by rw [HF.out]), hbw3.trans (hb4.mono hbw3.size)⟩
  ·have HF : Hid (r = 0) := by show _ = _; rw [hinv.out, List.drop_eq_nil_of_le (by omega)]; rfl
   have hltI : ¬ (k : Int) < (l.length : Int) := by omega
   clear hinv
   go_wp2
   go_ret
   exact ⟨ret_int (by rw [HF.out]), hb⟩
end Go.Proofs.YtoopoglkeeoamaaGreatDoor
/- Plain law: normal forms of values are their own normal forms, and are totally ordered. -/
namespace Go.Proofs.YtoopoglkeeoamaaGreatDoor
open Go.RowKit Go.Sort
open Idn (L B Bs)
theorem read_itoa {n : Int} (h1 : -9223372036854775808 ≤ n) (h2 : n ≤ 9223372036854775807) : Idn.read2 (Lib.itoa n) = (n, 0) ∧ Idn.mag2 (Lib.itoa n) = Lib.decDigits n.natAbs ∧ Idn.isMinus (Lib.itoa n) = decide (n < 0) := by
 obtain ⟨v1, v2, v3, v4⟩ := Idn.dig_val n.natAbs
 have hne : (Lib.decDigits n.natAbs).isEmpty = false := by cases hx : Lib.decDigits n.natAbs with | nil => exact absurd hx v3 | cons _ _ => rfl
 have hnm := Idn.not_minus (Idn.all_head v3 v2)
 by_cases hn : n < 0
 ·have e : Lib.itoa n = 45 :: Lib.decDigits n.natAbs := by unfold Lib.itoa; rw [if_pos hn]
  have em : Idn.mag2 (Lib.itoa n) = Lib.decDigits n.natAbs := by rw [e]; simp [Idn.mag2, Idn.isMinus]
  have ei : Idn.isMinus (Lib.itoa n) = true := by rw [e]; rfl
  refine ⟨?_, em, by rw [ei]; simp [hn]⟩
  unfold Idn.read2
  rw [em, ei, v1]
  have hd : Idn.dec2 (Lib.decDigits n.natAbs) (!true) = true := by
   unfold Idn.dec2
   have : ((Lib.decDigits n.natAbs).headD 0 == 48) = false := by simpa using v4 (by omega)
   rw [hne, this, v2]; rfl
  rw [if_neg (by rw [hd]; simp), if_pos rfl, if_pos (by omega)]
  congr 1
  omega
 ·have e : Lib.itoa n = Lib.decDigits n.natAbs := by unfold Lib.itoa; rw [if_neg hn]; congr 1; omega
  have ei : Idn.isMinus (Lib.itoa n) = false := by rw [e]; exact hnm
  have em : Idn.mag2 (Lib.itoa n) = Lib.decDigits n.natAbs := by unfold Idn.mag2; rw [ei, e]; rfl
  refine ⟨?_, em, by rw [ei]; simp [hn]⟩
  unfold Idn.read2
  rw [em, ei, v1]
  have hd : Idn.dec2 (Lib.decDigits n.natAbs) (!false) = true := by
   unfold Idn.dec2
   by_cases h0 : n.natAbs = 0
   ·rw [h0, Lib.decDigits_one (by decide)]; decide
   ·have : ((Lib.decDigits n.natAbs).headD 0 == 48) = false := by simpa using v4 (by omega)
    rw [hne, this, v2]; rfl
  rw [if_neg (by rw [hd]; simp), if_neg (by simp), if_pos (by omega)]
  congr 1
  omega
theorem integer_itoa {n : Int} (h1 : -9223372036854775808 ≤ n) (h2 : n ≤ 9223372036854775807) : Idn.integer (Lib.itoa n) = (Lib.itoa n, true) := by
  obtain ⟨r1, r2, r3⟩ := read_itoa h1 h2
  obtain ⟨v1, v2, v3, v4⟩ := Idn.dig_val n.natAbs
  have hne : (Lib.decDigits n.natAbs).isEmpty = false := by cases hx : Lib.decDigits n.natAbs with | nil => exact absurd hx v3 | cons _ _ => rfl
  unfold Idn.integer
  rw [Idn.trimP_eq, Idn.hasP_eq, r2, r3]
  rw [if_neg (by unfold Idn.isDigs; rw [hne, v2]; simp)]
  by_cases h0 : n = 0
  · subst h0
    rw [show (0 : Int).natAbs = 0 from rfl, Lib.decDigits_one (by decide)]
    rw [if_pos (by decide), Idn.itoa_zero]
  · have hs : Idn.stripD (Lib.decDigits n.natAbs) = Lib.decDigits n.natAbs := by
      have := v4 (by omega)
      cases hx : Lib.decDigits n.natAbs with
      | nil => exact absurd hx v3
      | cons c r =>
        rw [hx] at this
        have hc : (c == 48) = false := by simpa using this
        unfold Idn.stripD
        rw [List.dropWhile_cons, hc]; rfl
    rw [hs, hne, if_neg (by simp)]
    have e : (if decide (n < 0) = true then 45 :: Lib.decDigits n.natAbs else Lib.decDigits n.natAbs) = Lib.itoa n := by
      unfold Lib.itoa
      by_cases hn : n < 0
      · rw [if_pos (by simpa using hn), if_pos hn]
      · rw [if_neg (by simpa using hn), if_neg hn]; congr 1; omega
    rw [e, Idn.read2_eq, r1]
    rfl
theorem integer_form {v : Bs} (h : (Idn.integer v).2 = true) : ∃ n : Int, -9223372036854775808 ≤ n ∧ n ≤ 9223372036854775807 ∧ (Idn.integer v).1 = Lib.itoa n := by
 unfold Idn.integer at *
 split at h
 ·cases h
 ·rename_i h1
  rw [if_neg h1]
  split at h
  ·rename_i h2
   rw [if_pos h2]
   exact ⟨0, by decide, by decide, Idn.itoa_zero.symm⟩
  ·rename_i h2
   rw [if_neg h2]
   have hb := readInt_bd (if Lib.hasPrefix v [45] = true then 45 :: Idn.stripD (Lib.trimPrefix v [45]) else Idn.stripD (Lib.trimPrefix v [45]))
   exact ⟨_, hb.1, hb.2, rfl⟩
theorem up_true : Lib.toUpperD [116, 114, 117, 101] = [84, 82, 85, 69] := by kernel_rfl
theorem up_false : Lib.toUpperD [102, 97, 108, 115, 101] = [70, 65, 76, 83, 69] := by kernel_rfl
theorem truth_form {v : Bs} (h : (Idn.truth v).2 = true) : Idn.truth (Idn.truth v).1 = ((Idn.truth v).1, true) := by
 unfold Idn.truth at *
 dsimp only at *
 rw [Bool.or_eq_true] at h
 rcases h with h | h
 ·have e : Idn.lower v = [116, 114, 117, 101] := by simpa using h
  rw [e, up_true]
  rw [show Idn.lower [84, 82, 85, 69] = [116, 114, 117, 101] from by decide, up_true]; rfl
 ·have e : Idn.lower v = [102, 97, 108, 115, 101] := by simpa using h
  rw [e, up_false]
  rw [show Idn.lower [70, 65, 76, 83, 69] = [102, 97, 108, 115, 101] from by decide, up_false]; rfl
theorem normSyn_idem {x : Int} {v u : Bs} (h : Idn.normSyn x v = (u, true)) : Idn.normSyn x u = (u, true) := by
 unfold Idn.normSyn at *
 by_cases h3 : x = 3
 ·rw [if_pos h3] at *
  obtain ⟨n, n1, n2, e⟩ := integer_form (v := v) (by rw [h])
  rw [h] at e
  dsimp only at e
  subst e
  exact integer_itoa n1 n2
 ·rw [if_neg h3] at *
  by_cases h5 : x = 5
  ·rw [if_pos h5] at *
   have := truth_form (v := v) (by rw [h])
   rw [h] at this; exact this
  ·rw [if_neg h5] at *
   by_cases h1 : x = 1
   ·rw [if_pos h1] at *
    injection h with h _
    rw [← h, Idn.fold_fold]
   ·rw [if_neg h1] at *
    by_cases h4 : x = 4
    ·rw [if_pos h4] at *
     injection h with h6 h7
     obtain ⟨l, _, _, _, hc, _⟩ := Idn.clean_form (v := v) (u := u) (by rw [← h6]; exact Prod.ext rfl (by simpa using h7))
     rw [hc]; rfl
    ·rw [if_neg h4] at *
theorem normV_parts {x : Int} {v u : Bs} (h : Idn.normV x v = (u, true)) : Idn.normSyn x v = (u, true) ∧ Idn.clean u = true := by
 unfold Idn.normV at h
 injection h with h1 h2
 simp only [Bool.and_eq_true] at h2
 rw [h1] at h2
 exact ⟨Prod.ext h1 h2.1, h2.2.2⟩
theorem normV_idem {x : Int} {v u : Bs} (h : Idn.normV x v = (u, true)) : Idn.normV x u = (u, true) := by
 obtain ⟨h1, h2⟩ := normV_parts h
 unfold Idn.normV
 rw [normSyn_idem h1, h2]; rfl
theorem cmpB_eq (a : Bs) : ∀ b, cmpB a b = Lib.compareBytes a b := by
  induction a with
  | nil => intro b; cases b <;> simp [cmpB, Lib.compareBytes]
  | cons x a ih =>
    intro b
    cases b with
    | nil => simp [cmpB, Lib.compareBytes]
    | cons y b =>
      rw [Idn.cb_cons, ← ih b]
      unfold cmpB
      simp only [List.cons_lt_cons_iff]
      by_cases h1 : x < y
      · simp [h1]
      · by_cases h2 : y < x
        · have hne : ¬ x = y := fun e => by subst e; exact h1 h2
          have hne' : ¬ y = x := fun e => hne e.symm
          simp [h1, h2, hne]
        · have e := Idn.u8_ext h1 h2
          subst e
          simp [h1]
theorem sNorm_ok {s : Idn.Sch} {n v a : Bs} (h : sNorm s n v = (a, 0)) : (tyLook (sound s) n).2 = true ∧ Idn.normV (tyLook (sound s) n).1.syn v = (a, true) ∧ kNorm (sound s) n v = ((tyLook (sound s) n).1, a, 0) := by
 unfold sNorm at h
 have hk : kNorm (sound s) n v = if !(tyLook (sound s) n).2 then ((tyLook (sound s) n).1, [], 6) else if !(Idn.normV (tyLook (sound s) n).1.syn v).2 then ((tyLook (sound s) n).1, [], 8) else ((tyLook (sound s) n).1, (Idn.normV (tyLook (sound s) n).1.syn v).1, 0) := rfl
 cases h1 : (tyLook (sound s) n).2
 ·rw [hk, h1] at h; simp at h
 ·cases h2 : (Idn.normV (tyLook (sound s) n).1.syn v).2
  ·rw [hk, h1, h2] at h; simp at h
  ·rw [hk, h1, h2] at h
   simp at h
   refine ⟨rfl, Prod.ext h h2, ?_⟩
   rw [hk, h1, h2]
   simp [h]
theorem sNorm_of {s : Idn.Sch} {n v a : Bs} (h1 : (tyLook (sound s) n).2 = true) (h2 : Idn.normV (tyLook (sound s) n).1.syn v = (a, true)) : sNorm s n v = (a, 0) := by
 unfold sNorm kNorm
 rw [h1, h2]; rfl
end Go.Proofs.YtoopoglkeeoamaaGreatDoor
/- Plain law: Normal and Compare by the reference are the layer's. -/
namespace Go.Proofs.YtoopoglkeeoamaaGreatDoor
open Go.RowKit Go.Sort
open Idn (L B Bs)
def tTrue : Bs := [116, 114, 117, 101]
def tFalse : Bs := [102, 97, 108, 115, 101]
def form2 (x : Int) (v : Bs) : Bs × Bool :=
 if x = 1 then (Idn.fold v, true) else if x = 2 then (v, true) else if x = 3 then (Lib.itoa (Idn.number2 v).1, (Idn.number2 v).2)
 else if x = 4 then ((Idn.cleanN v).1, (Idn.cleanN v).2 == 0) else if Idn.lower v = tTrue then ([84, 82, 85, 69], true) else ([70, 65, 76, 83, 69], Idn.lower v == tFalse)
theorem form2_eq {x : Int} (h1 : 1 ≤ x) (h5 : x ≤ 5) (v : Bs) : (form2 x v).2 = (Idn.normSyn x v).2 ∧ ((Idn.normSyn x v).2 = true → (form2 x v).1 = (Idn.normSyn x v).1) := by
 have hx : x = 1 ∨ x = 2 ∨ x = 3 ∨ x = 4 ∨ x = 5 := by omega
 unfold form2 Idn.normSyn
 rcases hx with rfl | rfl | rfl | rfl | rfl
 ·exact ⟨rfl, fun _ => rfl⟩
 ·exact ⟨rfl, fun _ => rfl⟩
 ·exact Idn.number_eq v
 ·exact ⟨rfl, fun _ => rfl⟩
 ·simp only [show ¬ (5 : Int) = 1 by decide, show ¬ (5 : Int) = 2 by decide, show ¬ (5 : Int) = 3 by decide, show ¬ (5 : Int) = 4 by decide, if_false, if_true]
  unfold Idn.truth tTrue tFalse
  by_cases ht : Idn.lower v = [116, 114, 117, 101]
  ·rw [if_pos ht, ht]; exact ⟨rfl, fun _ => up_true.symm⟩
  ·rw [if_neg ht]
   have e : (Idn.lower v == [116, 114, 117, 101]) = false := by simpa using ht
   dsimp only
   rw [e, Bool.false_or]
   refine ⟨rfl, fun h => ?_⟩
   have h2 : Idn.lower v = [102, 97, 108, 115, 101] := by simpa using h
   rw [h2]; exact up_false.symm
theorem syn_range {s : Idn.Sch} {n : Bs} (h : (tyLook (sound s) n).2 = true) : 1 ≤ (tyLook (sound s) n).1.syn ∧ (tyLook (sound s) n).1.syn ≤ 5 := by
  unfold tyLook at h ⊢
  cases hx : Idn.ixT (sound s).types n with
  | none => rw [hx] at h; cases h
  | some k =>
    rw [hx] at h
    dsimp only at h ⊢
    cases hy : (sound s).types[k]? with
    | none => rw [hy] at h; cases h
    | some t =>
      dsimp only
      have hm := List.mem_of_getElem? hy
      unfold sound at hm
      by_cases hs : Idn.sCheck s = 0
      · rw [if_pos hs] at hm
        exact ((Idn.sCheck_ok hs).1 t hm).2
      · rw [if_neg hs] at hm; simp at hm
def rNorm (s : Idn.Sch) (n v : Bs) : Bs × Int :=
 if (tyLook (sound s) n).2 = false then ([], 6)
 else if Idn.clean v = false then ([], 8)
 else if (!(form2 (tyLook (sound s) n).1.syn v).2 || !Idn.clean (form2 (tyLook (sound s) n).1.syn v).1) = true then ([], 8)
 else ((form2 (tyLook (sound s) n).1.syn v).1, 0)
theorem rNorm_eq (s : Idn.Sch) (n v : Bs) : rNorm s n v = sNorm s n v := by
 unfold rNorm sNorm kNorm
 cases hok : (tyLook (sound s) n).2
 ·simp
 ·obtain ⟨h1, h5⟩ := syn_range hok
  obtain ⟨e1, e2⟩ := form2_eq h1 h5 v
  generalize (tyLook (sound s) n).1.syn = x at *
  unfold Idn.normV
  generalize form2 x v = f at *
  generalize Idn.normSyn x v = g at *
  obtain ⟨f1, f2⟩ := f
  obtain ⟨g1, g2⟩ := g
  dsimp only at e1 e2 ⊢
  subst e1
  cases f2
  ·cases Idn.clean v <;> simp
  ·have := e2 rfl
   subst this
   cases Idn.clean v <;> cases Idn.clean f1 <;> simp
end Go.Proofs.YtoopoglkeeoamaaGreatDoor
/- identityref05: Compare. -/
namespace Go.Proofs.YtoopoglkeeoamaaGreatDoor
open Go.RowKit Go.Sort
open Idn (L B Bs drop_L take_L size_L)
end Go.Proofs.YtoopoglkeeoamaaGreatDoor
