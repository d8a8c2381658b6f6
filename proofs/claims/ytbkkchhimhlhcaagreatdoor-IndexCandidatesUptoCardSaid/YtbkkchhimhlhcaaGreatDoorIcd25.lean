/- Part 25 of the proof that identitylaw11.IndexCandidates returns true for every data that it may be called with: proof: the package variables hold what the program lays; nothing else is asked. -/
import Derived.Test.YtbkkchhimhlhcaaGreatDoorIcd12
import Derived.Test.YtbkkchhimhlhcaaGreatDoorIcd20
import Derived.Test.YtbkkchhimhlhcaaGreatDoorIcd22
import Derived.Test.YtbkkchhimhlhcaaGreatDoorIcd23
import Derived.Test.YtbkkchhimhlhcaaGreatDoorIcd24
import Derived.Lib.ItoaLen
set_option linter.unusedVariables false
set_option linter.unusedSimpArgs false
set_option maxRecDepth 100000
set_option maxHeartbeats 16000000
/- schema: normal. -/
namespace Go.Proofs.YtbkkchhimhlhcaaGreatDoor
open Go.RowKit
open Idn (L B Bs drop_L take_L size_L)
theorem mapGo_len (f : Int → Int) : ∀ (n : Nat) (l : Bs), (Lib.mapGoD f n l).length ≤ n * 4
 | 0, l => by simp [Lib.mapGoD]
 | n + 1, l => by
  unfold Lib.mapGoD
  split
  ·simp
  ·rw [List.length_append]
   have h1 := mapGo_len f n (l.drop (Lib.decodeL l).2)
   have h2 : (if 0 ≤ f (Lib.decodeL l).1 then Lib.encodeRune (f (Lib.decodeL l).1) else []).length ≤ 4 := by
    split
    ·unfold Lib.encodeRune; rw [List.length_map]; exact (Lib.encodeRuneZ_length _).2
    ·simp
   rw [Nat.add_mul]; omega
theorem cleanN_len (v : Bs) : (Idn.cleanN v).1.length ≤ 5000 := by
 unfold Idn.cleanN
 split
 ·simp
 ·unfold Idn.format
  split
  ·simp
  ·rename_i h
   obtain ⟨h8, hsm⟩ := check_zero (l := (Idn.parse v).1) (by simpa using h)
   have := fmtK_len hsm _ (Nat.le_refl _)
   unfold fmtK at this
   rw [List.take_length] at this
   dsimp only
   omega
theorem length_norm (x : Int) (v : Bs) (h : v.length ≤ 100000000) : (Idn.normSyn x v).1.length ≤ 1000000000 := by
 unfold Idn.normSyn
 split
 ·unfold Idn.integer
  split
  ·simp
  ·split
   ·simp
   ·have hb := readInt_bd (if Lib.hasPrefix v [45] = true then 45 :: Idn.stripD (Lib.trimPrefix v [45]) else Idn.stripD (Lib.trimPrefix v [45]))
    have := Lib.itoa_length_le _ hb.1 hb.2
    dsimp only
    omega
 ·split
  ·have := mapGo_len Lib.toUpperU (Idn.lower v).length (Idn.lower v)
   rw [Idn.length_lower] at this
   show (Lib.toUpperD (Idn.lower v)).length ≤ _
   unfold Lib.toUpperD Lib.mapD
   rw [Idn.length_lower]
   omega
  ·split
   ·have := Idn.length_fold v
    dsimp only
    omega
   ·split
    ·have := cleanN_len v
     dsimp only
     omega
    ·dsimp only; omega
theorem normal_any (x : Int) (s : ByteArray) (w : World) (hE : Env w) (hU : EnvU w) (hs : s.size ≤ 100000000) :
  Calls Tryz.prog 231 #[.int .i64 x, .string s] w fun e w' => e = .returned (.tuple #[.string (B (Idn.normV x (L s)).1), .bool (Idn.normV x (L s)).2]) ∧ Below w.heap.size w w' := by
 have hC1 := fun W => clean_any s W (by omega)
 have hln := length_norm x (L s) (by have := size_L s; omega)
 have hC2 := fun W => clean_any (B (Idn.normSyn x (L s)).1) W (by rw [Idn.size_B]; omega)
 rw [Idn.L_B] at hC2
 have HR : Hid (Idn.normV x (L s) = ((Idn.normSyn x (L s)).1, (Idn.normSyn x (L s)).2 && (Idn.clean (L s) && Idn.clean (Idn.normSyn x (L s)).1))) := rfl
 clear hln
 generalize Idn.normV x (L s) = r at *
 by_cases h3 : x = 3
 ·have hI := integer_any s w hE hs
  have hn : Idn.normSyn x (L s) = Idn.integer (L s) := by unfold Idn.normSyn; rw [if_pos h3]
  rw [hn] at hC2 HR
  have e3 : (x == 3) = true := by simpa using h3
  generalize Idn.integer (L s) = q at *
  obtain ⟨o, okb⟩ := q
  dsimp only at *
  clear hn h3
  generalize hco : Idn.clean o = co at *
  generalize hcv : Idn.clean (L s) = cv at *
  clear hco hcv
  cases okb
  ·have HF : Hid (r = (o, false)) := by show _ = _; rw [HR.out]; rfl
   go_enter Tryz.func231, Tryz.ntmps231
   go_wp2_with (first | (go_at_call 287; refine hI.mono ?_; rintro e w1 ⟨rfl, hb1⟩))
   go_ret2
   exact ⟨by rw [HF.out]; rfl, hb1⟩
  cases cv
  ·have HF : Hid (r = (o, false)) := by show _ = _; rw [HR.out]; rfl
   have tok1 : True := trivial
   go_enter Tryz.func231, Tryz.ntmps231
   go_wp2_with (first | (go_at_call 287; refine hI.mono ?_; rintro e w1 ⟨rfl, hb1⟩) | (go_at_call 193; have _t := tok1; refine (hC1 _).mono ?_; rintro e w2 ⟨rfl, hb2⟩; clear tok1))
   go_ret2
   exact ⟨by rw [HF.out]; rfl, hb1.trans (hb2.mono hb1.size)⟩
  have HF : Hid (r = (o, co)) := by show _ = _; rw [HR.out]; rfl
  have tok1 : True := trivial
  go_enter Tryz.func231, Tryz.ntmps231
  go_wp2_with (first | (go_at_call 287; refine hI.mono ?_; rintro e w1 ⟨rfl, hb1⟩) | (go_at_call 193; have _t := tok1; refine (hC1 _).mono ?_; rintro e w2 ⟨rfl, hb2⟩; clear tok1) | (go_at_call 193; refine (hC2 _).mono ?_; rintro e w3 ⟨rfl, hb3⟩))
  go_ret2
  exact ⟨by rw [HF.out]; rfl, (hb1.trans (hb2.mono hb1.size)).trans (hb3.mono (hb1.trans (hb2.mono hb1.size)).size)⟩
 have e3 : (x == 3) = false := by simpa using h3
 by_cases h5 : x = 5
 ·have hI := truth_any s w hU hs
  have hn : Idn.normSyn x (L s) = Idn.truth (L s) := by unfold Idn.normSyn; rw [if_neg h3, if_pos h5]
  rw [hn] at hC2 HR
  have e5 : (x == 5) = true := by simpa using h5
  generalize Idn.truth (L s) = q at *
  obtain ⟨o, okb⟩ := q
  dsimp only at *
  clear hn h3 h5
  generalize hco : Idn.clean o = co at *
  generalize hcv : Idn.clean (L s) = cv at *
  clear hco hcv
  cases okb
  ·have HF : Hid (r = (o, false)) := by show _ = _; rw [HR.out]; rfl
   go_enter Tryz.func231, Tryz.ntmps231
   go_wp2_with (first | (go_at_call 288; refine hI.mono ?_; rintro e w1 ⟨rfl, hb1⟩))
   go_ret2
   exact ⟨by rw [HF.out]; rfl, hb1⟩
  cases cv
  ·have HF : Hid (r = (o, false)) := by show _ = _; rw [HR.out]; rfl
   have tok1 : True := trivial
   go_enter Tryz.func231, Tryz.ntmps231
   go_wp2_with (first | (go_at_call 288; refine hI.mono ?_; rintro e w1 ⟨rfl, hb1⟩) | (go_at_call 193; have _t := tok1; refine (hC1 _).mono ?_; rintro e w2 ⟨rfl, hb2⟩; clear tok1))
   go_ret2
   exact ⟨by rw [HF.out]; rfl, hb1.trans (hb2.mono hb1.size)⟩
  have HF : Hid (r = (o, co)) := by show _ = _; rw [HR.out]; rfl
  have tok1 : True := trivial
  go_enter Tryz.func231, Tryz.ntmps231
  go_wp2_with (first | (go_at_call 288; refine hI.mono ?_; rintro e w1 ⟨rfl, hb1⟩) | (go_at_call 193; have _t := tok1; refine (hC1 _).mono ?_; rintro e w2 ⟨rfl, hb2⟩; clear tok1) | (go_at_call 193; refine (hC2 _).mono ?_; rintro e w3 ⟨rfl, hb3⟩))
  go_ret2
  exact ⟨by rw [HF.out]; rfl, (hb1.trans (hb2.mono hb1.size)).trans (hb3.mono (hb1.trans (hb2.mono hb1.size)).size)⟩
 have e5 : (x == 5) = false := by simpa using h5
 by_cases h1 : x = 1
 ·have hI := fold_any s w (by omega)
  have hn : Idn.normSyn x (L s) = (Idn.fold (L s), true) := by unfold Idn.normSyn; rw [if_neg h3, if_neg h5, if_pos h1]
  rw [hn] at hC2 HR
  have e1 : (x == 1) = true := by simpa using h1
  dsimp only at *
  generalize Idn.fold (L s) = o at *
  clear hn h3 h5 h1
  generalize hco : Idn.clean o = co at *
  generalize hcv : Idn.clean (L s) = cv at *
  clear hco hcv
  cases cv
  ·have HF : Hid (r = (o, false)) := by show _ = _; rw [HR.out]; rfl
   have tok1 : True := trivial
   go_enter Tryz.func231, Tryz.ntmps231
   go_wp2_with (first | (go_at_call 218; refine hI.mono ?_; rintro e w1 ⟨rfl, hb1⟩) | (go_at_call 193; have _t := tok1; refine (hC1 _).mono ?_; rintro e w2 ⟨rfl, hb2⟩; clear tok1))
   go_ret2
   exact ⟨by rw [HF.out]; rfl, hb1.trans (hb2.mono hb1.size)⟩
  have HF : Hid (r = (o, co)) := by show _ = _; rw [HR.out]; rfl
  have tok1 : True := trivial
  go_enter Tryz.func231, Tryz.ntmps231
  go_wp2_with (first | (go_at_call 218; refine hI.mono ?_; rintro e w1 ⟨rfl, hb1⟩) | (go_at_call 193; have _t := tok1; refine (hC1 _).mono ?_; rintro e w2 ⟨rfl, hb2⟩; clear tok1) | (go_at_call 193; refine (hC2 _).mono ?_; rintro e w3 ⟨rfl, hb3⟩))
  go_ret2
  exact ⟨by rw [HF.out]; rfl, (hb1.trans (hb2.mono hb1.size)).trans (hb3.mono (hb1.trans (hb2.mono hb1.size)).size)⟩
 have e1 : (x == 1) = false := by simpa using h1
 by_cases h4 : x = 4
 ·have hI := nm_clean_any s w (by omega)
  have hn : Idn.normSyn x (L s) = ((Idn.cleanN (L s)).1, (Idn.cleanN (L s)).2 == 0) := by unfold Idn.normSyn; rw [if_neg h3, if_neg h5, if_neg h1, if_pos h4]
  rw [hn] at hC2 HR
  have e4 : (x == 4) = true := by simpa using h4
  generalize Idn.cleanN (L s) = q at *
  obtain ⟨o, oc⟩ := q
  dsimp only at *
  clear hn h3 h5 h1 h4
  generalize hco : Idn.clean o = co at *
  generalize hcv : Idn.clean (L s) = cv at *
  clear hco hcv
  by_cases hc : oc = 0
  case neg =>
   have hcz : (oc == 0) = false := by simpa using hc
   have HF : Hid (r = (o, false)) := by show _ = _; rw [HR.out, hcz]; rfl
   clear hc HR
   go_enter Tryz.func231, Tryz.ntmps231
   go_wp2_with (first | (go_at_call 289; refine hI.mono ?_; rintro e w1 ⟨rfl, hb1⟩))
   go_ret2
   exact ⟨by rw [HF.out]; rfl, hb1⟩
  subst hc
  cases cv
  ·have HF : Hid (r = (o, false)) := by show _ = _; rw [HR.out]; rfl
   have tok1 : True := trivial
   go_enter Tryz.func231, Tryz.ntmps231
   go_wp2_with (first | (go_at_call 289; refine hI.mono ?_; rintro e w1 ⟨rfl, hb1⟩) | (go_at_call 193; have _t := tok1; refine (hC1 _).mono ?_; rintro e w2 ⟨rfl, hb2⟩; clear tok1))
   go_ret2
   exact ⟨by rw [HF.out]; rfl, hb1.trans (hb2.mono hb1.size)⟩
  have HF : Hid (r = (o, co)) := by show _ = _; rw [HR.out]; rfl
  have tok1 : True := trivial
  go_enter Tryz.func231, Tryz.ntmps231
  go_wp2_with (first | (go_at_call 289; refine hI.mono ?_; rintro e w1 ⟨rfl, hb1⟩) | (go_at_call 193; have _t := tok1; refine (hC1 _).mono ?_; rintro e w2 ⟨rfl, hb2⟩; clear tok1) | (go_at_call 193; refine (hC2 _).mono ?_; rintro e w3 ⟨rfl, hb3⟩))
  go_ret2
  exact ⟨by rw [HF.out]; rfl, (hb1.trans (hb2.mono hb1.size)).trans (hb3.mono (hb1.trans (hb2.mono hb1.size)).size)⟩
 have e4 : (x == 4) = false := by simpa using h4
 by_cases h2 : x = 2
 ·have hn : Idn.normSyn x (L s) = (L s, true) := by unfold Idn.normSyn; rw [if_neg h3, if_neg h5, if_neg h1, if_neg h4]
  rw [hn] at hC2 HR
  have e2 : (x == 2) = true := by simpa using h2
  dsimp only at *
  clear hn h3 h5 h1 h2 h4
  generalize hcv : Idn.clean (L s) = cv at *
  clear hcv
  cases cv
  ·have HF : Hid (r = ((L s), false)) := by show _ = _; rw [HR.out]; rfl
   have tok1 : True := trivial
   go_enter Tryz.func231, Tryz.ntmps231
   go_wp2_with (first | (go_at_call 193; have _t := tok1; refine (hC1 _).mono ?_; rintro e w2 ⟨rfl, hb2⟩; clear tok1))
   go_ret2
   exact ⟨by rw [HF.out]; rfl, hb2⟩
  have HF : Hid (r = ((L s), true)) := by show _ = _; rw [HR.out]; rfl
  have tok1 : True := trivial
  go_enter Tryz.func231, Tryz.ntmps231
  go_wp2_with (first | (go_at_call 193; have _t := tok1; refine (hC1 _).mono ?_; rintro e w2 ⟨rfl, hb2⟩; clear tok1) | (go_at_call 193; refine (hC2 _).mono ?_; rintro e w3 ⟨rfl, hb3⟩))
  go_ret2
  exact ⟨by rw [HF.out]; rfl, hb2.trans (hb3.mono hb2.size)⟩
 have e2 : (x == 2) = false := by simpa using h2
 have hn : Idn.normSyn x (L s) = (L s, true) := by unfold Idn.normSyn; rw [if_neg h3, if_neg h5, if_neg h1, if_neg h4]
 rw [hn] at hC2 HR
 dsimp only at *
 clear hn h3 h5 h1 h2 h4
 generalize hcv : Idn.clean (L s) = cv at *
 clear hcv
 cases cv
 ·have HF : Hid (r = ((L s), false)) := by show _ = _; rw [HR.out]; rfl
  have tok1 : True := trivial
  go_enter Tryz.func231, Tryz.ntmps231
  go_wp2_with (first | (go_at_call 193; have _t := tok1; refine (hC1 _).mono ?_; rintro e w2 ⟨rfl, hb2⟩; clear tok1))
  go_ret2
  exact ⟨by rw [HF.out]; rfl, hb2⟩
 have HF : Hid (r = ((L s), true)) := by show _ = _; rw [HR.out]; rfl
 have tok1 : True := trivial
 go_enter Tryz.func231, Tryz.ntmps231
 go_wp2_with (first | (go_at_call 193; have _t := tok1; refine (hC1 _).mono ?_; rintro e w2 ⟨rfl, hb2⟩; clear tok1) | (go_at_call 193; refine (hC2 _).mono ?_; rintro e w3 ⟨rfl, hb3⟩))
 go_ret2
 exact ⟨by rw [HF.out]; rfl, hb2.trans (hb3.mono hb2.size)⟩
end Go.Proofs.YtbkkchhimhlhcaaGreatDoor
/- schema: (known).normal, Normal. -/
namespace Go.Proofs.YtbkkchhimhlhcaaGreatDoor
open Go.RowKit Go.Sort
open Idn (L B Bs drop_L take_L size_L)
def kNorm (s : Idn.Sch) (n v : Bs) : Idn.AT × Bs × Int :=
 if !(tyLook s n).2 then ((tyLook s n).1, [], 6)
 else if !(Idn.normV (tyLook s n).1.syn v).2 then ((tyLook s n).1, [], 8)
 else ((tyLook s n).1, (Idn.normV (tyLook s n).1.syn v).1, 0)
def ThreeAt (X : World) (p : Nat) (a b c : Value) : Prop :=
 (X.cell? ⟨p, 0, none⟩ = some a ∧ X.cell? ⟨p, 1, none⟩ = some b ∧ X.cell? ⟨p, 2, none⟩ = some c) ∧ p < X.heap.size
theorem threeA (W : World) (a b c : Value) (t : TypeId) : ThreeAt (W.alloc (.cells #[a, b, c] t)) W.heap.size a b c := by
 have e := heap_alloc_new W (.cells #[a, b, c] t)
 refine ⟨⟨?_, ?_, ?_⟩, by simp⟩
 ·rw [cell_of_row _ W.heap.size 0 _ _ (0, 0) e]; rfl
 ·rw [cell_of_row _ W.heap.size 1 _ _ (0, 0) e]; rfl
 ·rw [cell_of_row _ W.heap.size 2 _ _ (0, 0) e]; rfl
theorem threeB {X : World} {p : Nat} {a0 b0 c0 : Value} (h0 : X.cell? ⟨p, 0, none⟩ = some a0) (h1 : X.cell? ⟨p, 1, none⟩ = some b0) (h2 : X.cell? ⟨p, 2, none⟩ = some c0) (a b c : Value) :
  ThreeAt (((X.setCell ⟨p, 0, none⟩ a).setCell ⟨p, 1, none⟩ b).setCell ⟨p, 2, none⟩ c) p a b c := by
 have hp := World.block_lt_of_cell? _ _ h0
 refine ⟨⟨?_, ?_, ?_⟩, by simpa using hp⟩ <;> go_simp
theorem ThreeAt.keep {X Y : World} {p : Nat} {a b c : Value} (h : ThreeAt X p a b c) (hb : Below X.heap.size X Y) : ThreeAt Y p a b c :=
 ⟨⟨cell_later hb h.1.1, cell_later hb h.1.2.1, cell_later hb h.1.2.2⟩, Nat.lt_of_lt_of_le h.2 hb.size⟩
theorem kNormal_any (m1 m2 : Value) (s : Idn.Sch) (n v : ByteArray) (w : World) (hm : MapV w m1 (tyE s.types)) (h2 : ∃ o2, m2 = .map o2) (hE : Env w) (hU : EnvU w) (hn : n.size ≤ 1000000000) (hv : v.size ≤ 100000000) :
  Calls Tryz.prog 184 #[.agg #[m1, m2], .string n, .string v] w fun e w' => e = .returned (.tuple #[tyV (kNorm s (L n) (L v)).1, .string (B (kNorm s (L n) (L v)).2.1), .int .i64 (kNorm s (L n) (L v)).2.2]) ∧ Below w.heap.size w w' := by
 obtain ⟨o1, rfl⟩ := hm.shape
 obtain ⟨o2, rfl⟩ := h2
 have hl := fun W => lower_any n W (by omega)
 obtain ⟨hva, hsome⟩ := tyLook_lk s (L n)
 have hkn : kNorm s (L n) (L v) = if !(tyLook s (L n)).2 then ((tyLook s (L n)).1, [], 6)
  else if !(Idn.normV (tyLook s (L n)).1.syn (L v)).2 then ((tyLook s (L n)).1, [], 8)
  else ((tyLook s (L n)).1, (Idn.normV (tyLook s (L n)).1.syn (L v)).1, 0) := rfl
 generalize hrr : kNorm s (L n) (L v) = r at *
 clear hrr
 generalize tyLook s (L n) = rr at *
 obtain ⟨⟨ta, tb, tc⟩, td⟩ := rr
 unfold tyV at hva
 dsimp only [sv] at hva hsome hkn
 have hNv := fun W h1 h2 => normal_any tb v W h1 h2 hv
 generalize Idn.normV tb (L v) = nv at *
 obtain ⟨no, nb⟩ := nv
 dsimp only at *
 have HR := Lib.hid hkn
 clear hkn
 go_enter Tryz.func184, Tryz.ntmps184
 go_wp2
 with_reducible refine gen2g (R := fun W => Code.wp Tryz.prog _ _ _ W) ?_
 intro W hbW hszW hc1 hc2 hf1 hf2
 have k0 : W.cell? ⟨w.heap.size, 0, none⟩ = some (.map o1) := hc1 0 _ rfl
 have r0 : W.cell? ⟨w.heap.size + 1, 0, none⟩ = some (.string ⟨#[]⟩) := hc2 0 _ rfl
 have r1 : W.cell? ⟨w.heap.size + 1, 1, none⟩ = some (.int .i64 0) := hc2 1 _ rfl
 have r2 : W.cell? ⟨w.heap.size + 1, 2, none⟩ = some (.bool false) := hc2 2 _ rfl
 have g0 := hf2 0
 have g1 := hf2 1
 have g2 := hf2 2
 clear hc1 hc2 hf1 hf2
 have hl1 : w.heap.size < W.heap.size := by omega
 have hl2 : w.heap.size + 1 < W.heap.size := by omega
 clear hszW
 have hS : ∀ W', Below W.heap.size W W' → W'.cell? ⟨w.heap.size, 0, none⟩ = some (.map o1) ∧ (Instr.lookup 166 (.map o1) (.string (B (Idn.lower (L n)))) true).run Tryz.prog W' = .ok (.tuple #[.agg #[.string (B ta), .int .i64 tb, .bool tc], .bool td]) W' ∧ Below W.heap.size W W' := fun W' hW => by
  refine ⟨cell_later hW k0, ?_, hW⟩
  have := ((hm.keep hbW).keep hW).run (P := Tryz.prog) Tryz.underlying9 Tryz.underlying166 (zeroAT _) (B (Idn.lower (L n)))
  rw [Idn.L_B, hva, hsome] at this
  exact this
 have hw0 := Below.refl W.heap.size W
 go_upto_region 1 with fail
 go_cut [9, 10] (fun p ok wx => ∃ g : Nat, p = .pointer (some ⟨g, 0, none⟩) ∧ ok = .bool td ∧ ThreeAt wx g (.string (B ta)) (.int .i64 tb) (.bool tc) ∧ Below W.heap.size W wx)
 case first =>
  go_region_held3 (fun W' => W'.cell? ⟨w.heap.size, 0, none⟩ = some (.map o1) ∧ (Instr.lookup 166 (.map o1) (.string (B (Idn.lower (L n)))) true).run Tryz.prog W' = .ok (.tuple #[.agg #[.string (B ta), .int .i64 tb, .bool tc], .bool td]) W' ∧ Below W.heap.size W W')
   (first | (refine hS _ ?_; repeat (first | with_reducible exact Below.refl _ _ | with_reducible apply Below.drew | with_reducible refine Below.lay ?_ _ | with_reducible refine Below.setCell ?_ (by simp) _ | with_reducible refine Below.on ?_ hb1)))
   (first | (go_at_call 125; refine (hl _).mono ?_; rintro e w1 ⟨rfl, hb1⟩; first | have hn := three_new hb1 | skip))
  all_goals (go_wp2_with fail; go_meet)
  all_goals first | exact ⟨_, rfl, rfl, threeA _ _ _ _ _, And.right (And.right (by assumption))⟩ | exact ⟨_, rfl, rfl, threeB hn.1.1 hn.1.2.1 hn.1.2.2 _ _ _, And.right (And.right (by assumption))⟩
 case rest =>
  obtain ⟨g, rfl, rfl, hT, hb⟩ := hcut
  have hbw := hbW.trans (hb.mono hbW.size)
  replace r0 := cell_later hb r0
  replace r1 := cell_later hb r1
  replace r2 := cell_later hb r2
  replace g0 := frozen_later hb g0 hl2
  replace g1 := frozen_later hb g1 hl2
  replace g2 := frozen_later hb g2 hl2
  have hl3 : w.heap.size + 1 < wc.heap.size := by have := hb.size; omega
  obtain ⟨⟨t0, t1, t2⟩, hgl⟩ := hT
  clear hS hw0 k0 hl
  cases td
  ·have HF : Hid (r = (⟨ta, tb, tc⟩, [], 6)) := HR
   go_wp2
   exact bodyPost_ret (v := .tuple #[.agg #[.string (B ta), .int .i64 tb, .bool tc], .string ⟨#[]⟩, .int .i64 6]) (by simp [results, Tryz.results184, go_sem, r0, r1, r2, g0, g1, g2]) rfl ⟨by rw [HF.out]; rfl, ((hbw.setCell (p := ⟨w.heap.size + 1, 0, none⟩) (Nat.le_succ _) _).setCell (p := ⟨w.heap.size + 1, 1, none⟩) (Nat.le_succ _) _).setCell (p := ⟨w.heap.size + 1, 2, none⟩) (Nat.le_succ _) _⟩
  ·have hN := hNv wc (hE.keep hbw) (hU.keep hbw)
   clear hNv
   go_wp2_with fail
   refine hN.mono ?_
   rintro e w4 ⟨rfl, hb4⟩
   clear hN
   replace r0 := cell_later hb4 r0
   replace r1 := cell_later hb4 r1
   replace r2 := cell_later hb4 r2
   replace t0 := cell_later hb4 t0
   replace t1 := cell_later hb4 t1
   replace t2 := cell_later hb4 t2
   replace g0 := frozen_later hb4 g0 (by omega)
   replace g1 := frozen_later hb4 g1 (by omega)
   replace g2 := frozen_later hb4 g2 (by omega)
   have hl4 : w.heap.size + 1 < w4.heap.size := by have := hb4.size; omega
   have hbw4 := hbw.trans (hb4.mono hbw.size)
   cases nb
   ·have HF : Hid (r = (⟨ta, tb, tc⟩, [], 8)) := HR
    go_wp2
    exact bodyPost_ret (v := .tuple #[.agg #[.string (B ta), .int .i64 tb, .bool tc], .string ⟨#[]⟩, .int .i64 8]) (by simp [results, Tryz.results184, go_sem, r0, r1, r2, g0, g1, g2]) rfl ⟨by rw [HF.out]; rfl, ((hbw4.setCell (p := ⟨w.heap.size + 1, 0, none⟩) (Nat.le_succ _) _).setCell (p := ⟨w.heap.size + 1, 1, none⟩) (Nat.le_succ _) _).setCell (p := ⟨w.heap.size + 1, 2, none⟩) (Nat.le_succ _) _⟩
   ·have HF : Hid (r = (⟨ta, tb, tc⟩, no, 0)) := HR
    go_wp2
    exact bodyPost_ret (v := .tuple #[.agg #[.string (B ta), .int .i64 tb, .bool tc], .string (B no), .int .i64 0]) (by simp [results, Tryz.results184, go_sem, r0, r1, r2, g0, g1, g2]) rfl ⟨by rw [HF.out]; rfl, ((hbw4.setCell (p := ⟨w.heap.size + 1, 0, none⟩) (Nat.le_succ _) _).setCell (p := ⟨w.heap.size + 1, 1, none⟩) (Nat.le_succ _) _).setCell (p := ⟨w.heap.size + 1, 2, none⟩) (Nat.le_succ _) _⟩
def sNorm (s : Idn.Sch) (n v : Bs) : Bs × Int := ((kNorm (sound s) n v).2.1, (kNorm (sound s) n v).2.2)
theorem schNormal_any (u : Value) (s : Idn.Sch) (n v : ByteArray) (w : World) (hu : SchV w w.heap.size u s) (hs : SSm s) (hE : Env w) (hU : EnvU w) (hn : n.size ≤ 1000000000) (hv : v.size ≤ 100000000) :
  Calls Tryz.prog 116 #[u, .string n, .string v] w fun e w' => e = .returned (.tuple #[.string (B (sNorm s (L n) (L v)).1), .int .i64 (sNorm s (L n) (L v)).2]) ∧ Below w.heap.size w w' := by
 have hLk := fun W (hW : Below w.heap.size w W) => look_any u s W (SchV.mono (SchV.keep hu hW) hW.size) hs
 obtain ⟨a, b, rfl, hT, hC⟩ := hu
 obtain ⟨A, ca, rfl, hca⟩ := SlV.shape hT
 obtain ⟨A', cb, rfl, hcb⟩ := SlV.shape hC
 clear hT hC
 have HR : Hid (sNorm s (L n) (L v) = ((kNorm (sound s) (L n) (L v)).2.1, (kNorm (sound s) (L n) (L v)).2.2)) := rfl
 generalize sNorm s (L n) (L v) = r at *
 go_enter Tryz.func116, Tryz.ntmps116
 go_wp2_with fail
 with_reducible refine gen1 (R := fun W => Calls Tryz.prog 124 _ W _) ?_
 intro W hbW hszW _ _
 refine (hLk W hbW).mono ?_
 rintro e w1 ⟨m1, m2, rfl, hb1, hk⟩
 have hbw1 := hbW.trans (hb1.mono hbW.size)
 obtain ⟨es, h2, _⟩ := hk.2
 have hKN := kNormal_any m1 m2 (sound s) n v w1 hk.1 h2.shape (hE.keep hbw1) (hU.keep hbw1) hn hv
 clear hLk hk h2
 generalize kNorm (sound s) (L n) (L v) = kn at *
 obtain ⟨⟨ta, tb, tc⟩, no, ne⟩ := kn
 unfold tyV at hKN
 dsimp only [sv] at *
 clear hszW
 go_wp2_with fail
 refine hKN.mono ?_
 rintro e w2 ⟨rfl, hb2⟩
 clear hKN
 go_wp2
 go_ret2
 exact ⟨by rw [HR.out]; rfl, (hbw1.trans (hb2.mono hbw1.size)).alloc (by have := hbw1.size; have := hb2.size; omega) _⟩
end Go.Proofs.YtbkkchhimhlhcaaGreatDoor
/- schema: attribute. -/
namespace Go.Proofs.YtbkkchhimhlhcaaGreatDoor
open Go.RowKit Go.Sort
open Idn (L B Bs drop_L take_L size_L)
def badV (x : Int) (vs : List Bs) : Bool := vs.any fun v => !(Idn.normV x v).2
def attrE (s : Idn.Sch) (n : Bs) (vs : List Bs) : Int :=
 if !(tyLook s n).2 then 6
 else if badV (tyLook s n).1.syn vs then 8
 else if (tyLook s n).1.single && decide (1 < vs.length) then 9 else 0
end Go.Proofs.YtbkkchhimhlhcaaGreatDoor
/- schema: Compare. -/
namespace Go.Proofs.YtbkkchhimhlhcaaGreatDoor
open Go.RowKit Go.Sort
open Idn (L B Bs drop_L take_L size_L)
def sComp (s : Idn.Sch) (n a b : Bs) : Int × Int :=
 if (kNorm (sound s) n a).2.2 != 0 then (0, (kNorm (sound s) n a).2.2)
 else if (kNorm (sound s) n b).2.2 != 0 then (0, (kNorm (sound s) n b).2.2)
 else if (tyLook (sound s) n).1.syn = 3 then (Lib.compareInt (Idn.readInt (kNorm (sound s) n a).2.1).1 (Idn.readInt (kNorm (sound s) n b).2.1).1, 0)
 else if (tyLook (sound s) n).1.syn = 4 then (cmpNm (kNorm (sound s) n a).2.1 (kNorm (sound s) n b).2.1, 0)
 else (Lib.compareBytes (kNorm (sound s) n a).2.1 (kNorm (sound s) n b).2.1, 0)
theorem kNorm_ty (s : Idn.Sch) (n v : Bs) : (kNorm s n v).1 = (tyLook s n).1 := by
 unfold kNorm; split
 ·rfl
 ·split <;> rfl
theorem kNorm_len (s : Idn.Sch) (n v : Bs) (h : v.length ≤ 100000000) : (kNorm s n v).2.1.length ≤ 1000000000 := by
 unfold kNorm
 split
 ·simp
 ·split
  ·simp
  ·exact length_norm _ v h
theorem schCompare_any (u : Value) (s : Idn.Sch) (n v v2 : ByteArray) (w : World) (hu : SchV w w.heap.size u s) (hs : SSm s) (hE : Env w) (hU : EnvU w) (hn : n.size ≤ 1000000000) (hv : v.size ≤ 100000000) (hv2 : v2.size ≤ 100000000) :
  Calls Tryz.prog 187 #[u, .string n, .string v, .string v2] w fun e w' => e = .returned (.tuple #[.int .i64 (sComp s (L n) (L v) (L v2)).1, .int .i64 (sComp s (L n) (L v) (L v2)).2]) ∧ Below w.heap.size w w' := by
 have hLk := fun W (hW : Below w.heap.size w W) => look_any u s W (SchV.mono (SchV.keep hu hW) hW.size) hs
 obtain ⟨a, b, rfl, hT, hC⟩ := hu
 obtain ⟨A, ca, rfl, hca⟩ := SlV.shape hT
 obtain ⟨A', cb, rfl, hcb⟩ := SlV.shape hC
 clear hT hC
 generalize hrr : sComp s (L n) (L v) (L v2) = r at *
 have hty1 := kNorm_ty (sound s) (L n) (L v)
 have hty2 := kNorm_ty (sound s) (L n) (L v2)
 have hl1 := kNorm_len (sound s) (L n) (L v) (by have := size_L v; omega)
 have hl2 := kNorm_len (sound s) (L n) (L v2) (by have := size_L v2; omega)
 have HR0 : Hid (r = if (kNorm (sound s) (L n) (L v)).2.2 != 0 then (0, (kNorm (sound s) (L n) (L v)).2.2)
  else if (kNorm (sound s) (L n) (L v2)).2.2 != 0 then (0, (kNorm (sound s) (L n) (L v2)).2.2)
  else if (tyLook (sound s) (L n)).1.syn = 3 then (Lib.compareInt (Idn.readInt (kNorm (sound s) (L n) (L v)).2.1).1 (Idn.readInt (kNorm (sound s) (L n) (L v2)).2.1).1, 0)
  else if (tyLook (sound s) (L n)).1.syn = 4 then (cmpNm (kNorm (sound s) (L n) (L v)).2.1 (kNorm (sound s) (L n) (L v2)).2.1, 0)
  else (Lib.compareBytes (kNorm (sound s) (L n) (L v)).2.1 (kNorm (sound s) (L n) (L v2)).2.1, 0)) := hrr.symm
 clear hrr
 go_enter Tryz.func187, Tryz.ntmps187
 go_wp2_with fail
 with_reducible refine gen1 (R := fun W => Calls Tryz.prog 124 _ W _) ?_
 intro W hbW hszW _ _
 refine (hLk W hbW).mono ?_
 rintro e w1 ⟨m1, m2, rfl, hb1, hk⟩
 have hbw1 := hbW.trans (hb1.mono hbW.size)
 obtain ⟨es, h2, _⟩ := hk.2
 have hKN := fun W' (hW : Below w1.heap.size w1 W') => kNormal_any m1 m2 (sound s) n v W' (hk.1.keep hW) h2.shape (hE.keep (hbw1.trans (hW.mono hbw1.size))) (hU.keep (hbw1.trans (hW.mono hbw1.size))) hn hv
 have hKM := fun W' (hW : Below w1.heap.size w1 W') => kNormal_any m1 m2 (sound s) n v2 W' (hk.1.keep hW) h2.shape (hE.keep (hbw1.trans (hW.mono hbw1.size))) (hU.keep (hbw1.trans (hW.mono hbw1.size))) hn hv2
 obtain ⟨o1, rfl⟩ := hk.1.shape
 obtain ⟨o2, rfl⟩ := h2.shape
 clear hLk hk h2 hszW
 generalize kNorm (sound s) (L n) (L v) = kn at *
 generalize kNorm (sound s) (L n) (L v2) = km at *
 generalize tyLook (sound s) (L n) = tl at *
 obtain ⟨ty, no, ne⟩ := kn
 obtain ⟨ty2, mo, me⟩ := km
 dsimp only at hty1 hty2 hl1 hl2 HR0
 subst hty1 hty2
 obtain ⟨⟨ta, tb, tc⟩, td⟩ := tl
 unfold tyV at hKN hKM
 dsimp only [sv] at *
 go_wp2_with fail
 with_reducible refine gen1 (R := fun W => Calls Tryz.prog 184 _ W _) ?_
 intro W2 hbW2 hszW2 hc2 _
 have q0 : W2.cell? ⟨w1.heap.size, 0, none⟩ = some (.map o1) := hc2 0 _ rfl
 have q1 : W2.cell? ⟨w1.heap.size, 1, none⟩ = some (.map o2) := hc2 1 _ rfl
 clear hc2
 refine (hKN W2 hbW2).mono ?_
 rintro e w3 ⟨rfl, hb3⟩
 replace q0 := cell_later hb3 q0
 replace q1 := cell_later hb3 q1
 have hb13 : Below w1.heap.size w1 w3 := hbW2.trans (hb3.mono hbW2.size)
 have hlq : w1.heap.size < w3.heap.size := by have := hb3.size; omega
 clear hKN hszW2 hbW2 hb3
 have hT3 := threeA w3 (.string (B ta)) (.int .i64 tb) (.bool tc) 89
 have ba3 := hb13.alloc hb13.size (.cells #[.string (B ta), .int .i64 tb, .bool tc] 89)
 have hbwa := hbw1.trans (ba3.mono hbw1.size)
 by_cases hne : ne = 0
 case neg =>
  have HF : Hid (r = (0, ne)) := by show _ = _; rw [HR0.out, if_pos (by simpa using hne)]
  have e1 : (ne == 0) = false := by simpa using hne
  have e2 : (ne != 0) = true := by simpa using hne
  clear hne HR0 hKM
  go_wp2
  go_ret2
  exact ⟨by rw [HF.out]; rfl, hbwa⟩
 subst hne
 have hM := hKM _ ba3
 clear hKM
 go_wp2_with fail
 refine hM.mono ?_
 rintro e w5 ⟨rfl, hb5⟩
 obtain ⟨⟨t0, t1, t2⟩, hgl⟩ := hT3.keep hb5
 have hbw5 := hbwa.trans (hb5.mono hbwa.size)
 have hlt5 : w3.heap.size < w5.heap.size := hgl
 clear hM hT3 q0 q1 hb5 ba3 hgl
 have hbw6 := hbw5.alloc hbw5.size (.cells #[.string (B ta), .int .i64 tb, .bool tc] 89)
 by_cases hme : me = 0
 case neg =>
  have HF : Hid (r = (0, me)) := by show _ = _; rw [HR0.out, if_neg (by decide), if_pos (by simpa using hme)]
  have e1 : (me == 0) = false := by simpa using hme
  have e2 : (me != 0) = true := by simpa using hme
  clear hme HR0
  go_wp2
  go_ret2
  exact ⟨by rw [HF.out]; rfl, hbw6⟩
 subst hme
 by_cases h3 : tb = 3
 ·have HF : Hid (r = (Lib.compareInt (Idn.readInt no).1 (Idn.readInt mo).1, 0)) := by show _ = _; rw [HR0.out, if_neg (by decide), if_neg (by decide), if_pos h3]
  have e3 : (tb == 3) = true := by simpa using h3
  have hR1 := fun W (hW : Below w.heap.size w W) => readInt_any (B no) W (hE.keep hW) (by rw [Idn.size_B]; omega)
  have hR2 := fun W (hW : Below w.heap.size w W) => readInt_any (B mo) W (hE.keep hW) (by rw [Idn.size_B]; omega)
  rw [Idn.L_B] at hR1 hR2
  generalize Idn.readInt no = x1 at *
  generalize Idn.readInt mo = x2 at *
  obtain ⟨x1, y1⟩ := x1
  obtain ⟨x2, y2⟩ := x2
  dsimp only at *
  have hCI := fun W => (Tryz.cmp_Compare_int x1 x2 W).mono fun e w' ⟨h1, h2⟩ => (⟨h1, h2.symm⟩ : _ ∧ W = w')
  generalize Lib.compareInt x1 x2 = ci at *
  clear h3 HR0
  go_wp2_with fail
  refine (hR1 _ hbw6).mono ?_
  rintro e w7 ⟨rfl, hb7⟩
  have hbw7 := hbw6.trans (hb7.mono hbw6.size)
  clear hR1
  go_wp2_with fail
  refine (hR2 _ hbw7).mono ?_
  rintro e w8 ⟨rfl, hb8⟩
  clear hR2
  go_wp2_with (go_at_call 113; refine (hCI _).mono ?_; rintro e w9 ⟨rfl, rfl⟩)
  go_ret2
  exact ⟨by rw [HF.out]; rfl, hbw7.trans (hb8.mono hbw7.size)⟩
 by_cases h4 : tb = 4
 ·have HF : Hid (r = (cmpNm no mo, 0)) := by show _ = _; rw [HR0.out, if_neg (by decide), if_neg (by decide), if_neg h3, if_pos h4]
  have e3 : (tb == 3) = false := by simpa using h3
  have e4 : (tb == 4) = true := by simpa using h4
  have hCN := fun W => nm_compare_any (B no) (B mo) W (by rw [Idn.size_B]; omega) (by rw [Idn.size_B]; omega)
  simp only [Idn.L_B] at hCN
  generalize cmpNm no mo = cb at *
  clear h3 h4 HR0
  go_wp2_with fail
  refine (hCN _).mono ?_
  rintro e w7 ⟨rfl, hb7⟩
  go_wp2
  go_ret2
  exact ⟨by rw [HF.out]; rfl, hbw6.trans (hb7.mono hbw6.size)⟩
 ·have HF : Hid (r = (Lib.compareBytes no mo, 0)) := by show _ = _; rw [HR0.out, if_neg (by decide), if_neg (by decide), if_neg h3, if_neg h4]
  have e3 : (tb == 3) = false := by simpa using h3
  have e4 : (tb == 4) = false := by simpa using h4
  have hCB := fun W => (Tryz.strings_Compare (B no) (B mo) W).mono fun e w' ⟨h1, h2⟩ => (⟨h1, h2.symm⟩ : _ ∧ W = w')
  have ec : Lib.compareBytes (B no).data.toList (B mo).data.toList = Lib.compareBytes no mo := rfl
  rw [ec] at hCB
  generalize Lib.compareBytes no mo = cb at *
  clear h3 h4 HR0 ec
  go_wp2_with (go_at_call 235; refine (hCB _).mono ?_; rintro e w9 ⟨rfl, rfl⟩)
  go_ret2
  exact ⟨by rw [HF.out]; rfl, hbw6⟩
end Go.Proofs.YtbkkchhimhlhcaaGreatDoor
/- Plain law: normal forms of values are their own normal forms, and are totally ordered. -/
namespace Go.Proofs.YtbkkchhimhlhcaaGreatDoor
open Go.RowKit Go.Sort
open Idn (L B Bs Tot)
theorem read_itoa {n : Int} (h1 : -9223372036854775808 ≤ n) (h2 : n ≤ 9223372036854775807) : Idn.read2 (Lib.itoa n) = (n, 0) ∧ Idn.mag2 (Lib.itoa n) = Lib.decDigits n.natAbs ∧ Idn.isMinus (Lib.itoa n) = decide (n < 0) := by
 obtain ⟨v1, v2, v3, v4⟩ := Idn.dig_val n.natAbs
 have hne : (Lib.decDigits n.natAbs).isEmpty = false := by cases hx : Lib.decDigits n.natAbs with | nil => exact absurd hx v3 | cons _ _ => rfl
 have hnm := Idn.not_minus (Idn.all_head v3 v2)
 by_cases hn : n < 0
 ·have e : Lib.itoa n = 45 :: Lib.decDigits n.natAbs := by unfold Lib.itoa; rw [if_pos hn]
  have em : Idn.mag2 (Lib.itoa n) = Lib.decDigits n.natAbs := by rw [e]; simp [Idn.mag2, Idn.isMinus]
  have ei : Idn.isMinus (Lib.itoa n) = true := by rw [e]; rfl
  refine ⟨?_, em, by rw [ei]; simp [hn]⟩
  unfold Idn.read2
  rw [em, ei, v1]
  have hd : Idn.dec2 (Lib.decDigits n.natAbs) (!true) = true := by
   unfold Idn.dec2
   have : ((Lib.decDigits n.natAbs).headD 0 == 48) = false := by simpa using v4 (by omega)
   rw [hne, this, v2]; rfl
  rw [if_neg (by rw [hd]; simp), if_pos rfl, if_pos (by omega)]
  congr 1
  omega
 ·have e : Lib.itoa n = Lib.decDigits n.natAbs := by unfold Lib.itoa; rw [if_neg hn]; congr 1; omega
  have ei : Idn.isMinus (Lib.itoa n) = false := by rw [e]; exact hnm
  have em : Idn.mag2 (Lib.itoa n) = Lib.decDigits n.natAbs := by unfold Idn.mag2; rw [ei, e]; rfl
  refine ⟨?_, em, by rw [ei]; simp [hn]⟩
  unfold Idn.read2
  rw [em, ei, v1]
  have hd : Idn.dec2 (Lib.decDigits n.natAbs) (!false) = true := by
   unfold Idn.dec2
   by_cases h0 : n.natAbs = 0
   ·rw [h0, Lib.decDigits_one (by decide)]; decide
   ·have : ((Lib.decDigits n.natAbs).headD 0 == 48) = false := by simpa using v4 (by omega)
    rw [hne, this, v2]; rfl
  rw [if_neg (by rw [hd]; simp), if_neg (by simp), if_pos (by omega)]
  congr 1
  omega
theorem integer_itoa {n : Int} (h1 : -9223372036854775808 ≤ n) (h2 : n ≤ 9223372036854775807) : Idn.integer (Lib.itoa n) = (Lib.itoa n, true) := by
 obtain ⟨r1, r2, r3⟩ := read_itoa h1 h2
 obtain ⟨v1, v2, v3, v4⟩ := Idn.dig_val n.natAbs
 have hne : (Lib.decDigits n.natAbs).isEmpty = false := by cases hx : Lib.decDigits n.natAbs with | nil => exact absurd hx v3 | cons _ _ => rfl
 unfold Idn.integer
 rw [Idn.trimP_eq, Idn.hasP_eq, r2, r3]
 rw [if_neg (by unfold Idn.isDigs; rw [hne, v2]; simp)]
 by_cases h0 : n = 0
 ·subst h0
  rw [show (0 : Int).natAbs = 0 from rfl, Lib.decDigits_one (by decide)]
  rw [if_pos (by decide), Idn.itoa_zero]
 ·have hs : Idn.stripD (Lib.decDigits n.natAbs) = Lib.decDigits n.natAbs := by
    have := v4 (by omega)
    cases hx : Lib.decDigits n.natAbs with
    | nil => exact absurd hx v3
    | cons c r =>
     rw [hx] at this
     have hc : (c == 48) = false := by simpa using this
     unfold Idn.stripD
     rw [List.dropWhile_cons, hc]; rfl
  rw [hs, hne, if_neg (by simp)]
  have e : (if decide (n < 0) = true then 45 :: Lib.decDigits n.natAbs else Lib.decDigits n.natAbs) = Lib.itoa n := by
   unfold Lib.itoa
   by_cases hn : n < 0
   ·rw [if_pos (by simpa using hn), if_pos hn]
   ·rw [if_neg (by simpa using hn), if_neg hn]; congr 1; omega
  rw [e, Idn.read2_eq, r1]
  rfl
theorem integer_form {v : Bs} (h : (Idn.integer v).2 = true) : ∃ n : Int, -9223372036854775808 ≤ n ∧ n ≤ 9223372036854775807 ∧ (Idn.integer v).1 = Lib.itoa n := by
 unfold Idn.integer at *
 split at h
 ·cases h
 ·rename_i h1
  rw [if_neg h1]
  split at h
  ·rename_i h2
   rw [if_pos h2]
   exact ⟨0, by decide, by decide, Idn.itoa_zero.symm⟩
  ·rename_i h2
   rw [if_neg h2]
   have hb := readInt_bd (if Lib.hasPrefix v [45] = true then 45 :: Idn.stripD (Lib.trimPrefix v [45]) else Idn.stripD (Lib.trimPrefix v [45]))
   exact ⟨_, hb.1, hb.2, rfl⟩
theorem up_true : Lib.toUpperD [116, 114, 117, 101] = [84, 82, 85, 69] := by kernel_rfl
theorem up_false : Lib.toUpperD [102, 97, 108, 115, 101] = [70, 65, 76, 83, 69] := by kernel_rfl
theorem truth_form {v : Bs} (h : (Idn.truth v).2 = true) : Idn.truth (Idn.truth v).1 = ((Idn.truth v).1, true) := by
 unfold Idn.truth at *
 dsimp only at *
 rw [Bool.or_eq_true] at h
 rcases h with h | h
 ·have e : Idn.lower v = [116, 114, 117, 101] := by simpa using h
  rw [e, up_true]
  rw [show Idn.lower [84, 82, 85, 69] = [116, 114, 117, 101] from by decide, up_true]; rfl
 ·have e : Idn.lower v = [102, 97, 108, 115, 101] := by simpa using h
  rw [e, up_false]
  rw [show Idn.lower [70, 65, 76, 83, 69] = [102, 97, 108, 115, 101] from by decide, up_false]; rfl
theorem normSyn_idem {x : Int} {v u : Bs} (h : Idn.normSyn x v = (u, true)) : Idn.normSyn x u = (u, true) := by
 unfold Idn.normSyn at *
 by_cases h3 : x = 3
 ·rw [if_pos h3] at *
  obtain ⟨n, n1, n2, e⟩ := integer_form (v := v) (by rw [h])
  rw [h] at e
  dsimp only at e
  subst e
  exact integer_itoa n1 n2
 ·rw [if_neg h3] at *
  by_cases h5 : x = 5
  ·rw [if_pos h5] at *
   have := truth_form (v := v) (by rw [h])
   rw [h] at this; exact this
  ·rw [if_neg h5] at *
   by_cases h1 : x = 1
   ·rw [if_pos h1] at *
    injection h with h _
    rw [← h, Idn.fold_fold]
   ·rw [if_neg h1] at *
    by_cases h4 : x = 4
    ·rw [if_pos h4] at *
     injection h with h6 h7
     obtain ⟨l, _, _, _, hc, _⟩ := Idn.clean_form (v := v) (u := u) (by rw [← h6]; exact Prod.ext rfl (by simpa using h7))
     rw [hc]; rfl
    ·rw [if_neg h4] at *
theorem normV_parts {x : Int} {v u : Bs} (h : Idn.normV x v = (u, true)) : Idn.normSyn x v = (u, true) ∧ Idn.clean u = true := by
 unfold Idn.normV at h
 injection h with h1 h2
 simp only [Bool.and_eq_true] at h2
 rw [h1] at h2
 exact ⟨Prod.ext h1 h2.1, h2.2.2⟩
theorem normV_idem {x : Int} {v u : Bs} (h : Idn.normV x v = (u, true)) : Idn.normV x u = (u, true) := by
 obtain ⟨h1, h2⟩ := normV_parts h
 unfold Idn.normV
 rw [normSyn_idem h1, h2]; rfl
theorem cmpB_eq (a : Bs) : ∀ b, cmpB a b = Lib.compareBytes a b := by
 induction a with
 | nil => intro b; cases b <;> simp [cmpB, Lib.compareBytes]
 | cons x a ih =>
  intro b
  cases b with
  | nil => simp [cmpB, Lib.compareBytes]
  | cons y b =>
   rw [Idn.cb_cons, ← ih b]
   unfold cmpB
   simp only [List.cons_lt_cons_iff]
   by_cases h1 : x < y
   ·simp [h1]
   ·by_cases h2 : y < x
    ·have hne : ¬ x = y := fun e => by subst e; exact h1 h2
     have hne' : ¬ y = x := fun e => hne e.symm
     simp [h1, h2, hne]
    ·have e := Idn.u8_ext h1 h2
     subst e
     simp [h1]
theorem tot_cmpB : Tot cmpB := by
 have : cmpB = Lib.compareBytes := funext fun a => funext fun b => cmpB_eq a b
 rw [this]; exact Idn.tot_bytes
theorem tot_pr : Tot cmpPr := Idn.tot_pair tot_cmpB tot_cmpB
theorem cmpL_eqs : ∀ l m : List Idn.Pr, cmpL l m = Idn.cmpLs cmpPr l m
 | [], [] => rfl
 | [], _ :: _ => rfl
 | _ :: _, [] => rfl
 | p :: l, q :: m => by rw [cmpL, Idn.cmpLs, cmpL_eqs l m]
theorem tot_cmpL : Tot cmpL := by
 have : cmpL = Idn.cmpLs cmpPr := funext fun a => funext fun b => cmpL_eqs a b
 rw [this]; exact Idn.tot_list tot_pr
def cmpSyn (x : Int) (a b : Bs) : Int := if x = 3 then Lib.compareInt (Idn.readInt a).1 (Idn.readInt b).1 else if x = 4 then cmpNm a b else Lib.compareBytes a b
structure Ordr (f : Bs → Bs → Int) (N : Bs → Prop) : Prop where
 rng : ∀ a b, N a → N b → f a b = -1 ∨ f a b = 0 ∨ f a b = 1
 neg : ∀ a b, N a → N b → f b a = - f a b
 eq : ∀ a b, N a → N b → (f a b = 0 ↔ a = b)
 tr : ∀ a b c, N a → N b → N c → f a b ≤ 0 → f b c ≤ 0 → f a c ≤ 0
theorem Ordr.of_key {α : Type} {g : α → α → Int} (hg : Tot g) {f : Bs → Bs → Int} {N : Bs → Prop} (k : Bs → α) (hk : ∀ a b, N a → N b → f a b = g (k a) (k b)) (hi : ∀ a b, N a → N b → k a = k b → a = b) : Ordr f N :=
 ⟨fun a b ha hb => by rw [hk a b ha hb]; exact hg.rng _ _, fun a b ha hb => by rw [hk a b ha hb, hk b a hb ha]; exact hg.neg _ _,
  fun a b ha hb => by rw [hk a b ha hb, hg.eq]; exact ⟨hi a b ha hb, fun e => by rw [e]⟩,
  fun a b c ha hb hc h1 h2 => by rw [hk a b ha hb] at h1; rw [hk b c hb hc] at h2; rw [hk a c ha hc]; exact hg.tr _ _ _ h1 h2⟩
theorem ordr_syn (x : Int) : Ordr (cmpSyn x) (fun u => ∃ v, Idn.normV x v = (u, true)) := by
 by_cases h3 : x = 3
 ·refine Ordr.of_key Idn.tot_int (fun a => (Idn.readInt a).1) (fun a b _ _ => by unfold cmpSyn; rw [if_pos h3]) ?_
  rintro a b ⟨v, hv⟩ ⟨w, hw⟩ e
  have key : ∀ u v, Idn.normV x v = (u, true) → u = Lib.itoa (Idn.readInt u).1 := fun u v hv => by
   have h1 := (normV_parts hv).1
   unfold Idn.normSyn at h1
   rw [if_pos h3] at h1
   obtain ⟨n, n1, n2, e⟩ := integer_form (v := v) (by rw [h1])
   rw [h1] at e
   dsimp only at e
   subst e
   rw [Idn.read2_eq, (read_itoa n1 n2).1]
  rw [key a v hv, key b w hw, show (Idn.readInt a).1 = (Idn.readInt b).1 from e]
 ·by_cases h4 : x = 4
  ·have key : ∀ u v, Idn.normV x v = (u, true) → ∃ l, Idn.check l = 0 ∧ u = Idn.fmtJ l ∧ Idn.normal u = (l.map Idn.nrm, true) := fun u v hv => by
    have h1 := (normV_parts hv).1
    unfold Idn.normSyn at h1
    rw [if_neg h3, if_neg (by omega), if_neg (by omega), if_pos h4] at h1
    injection h1 with h6 h7
    obtain ⟨l, hc, hu, _, _, hn⟩ := Idn.clean_form (v := v) (u := u) (by rw [← h6]; exact Prod.ext rfl (by simpa using h7))
    exact ⟨l, hc, hu, hn⟩
   refine Ordr.of_key tot_cmpL (fun a => (Idn.normal a).1.reverse) ?_ ?_
   ·rintro a b ⟨v, hv⟩ ⟨w, hw⟩
    obtain ⟨l, _, _, hn⟩ := key a v hv
    obtain ⟨m, _, _, hm⟩ := key b w hw
    unfold cmpSyn cmpNm
    rw [if_neg h3, if_pos h4, hn, hm]; rfl
   ·rintro a b ⟨v, hv⟩ ⟨w, hw⟩ e
    obtain ⟨l, _, hu, hn⟩ := key a v hv
    obtain ⟨m, _, hu2, hm⟩ := key b w hw
    rw [hn, hm] at e
    have e2 : l.map Idn.nrm = m.map Idn.nrm := by simpa using e
    rw [hu, hu2, ← Idn.fmtJ_nrm l, ← Idn.fmtJ_nrm m, e2]
  ·exact Ordr.of_key Idn.tot_bytes id (fun a b _ _ => by unfold cmpSyn; rw [if_neg h3, if_neg h4]; rfl) (fun a b _ _ h => h)
theorem sNorm_ok {s : Idn.Sch} {n v a : Bs} (h : sNorm s n v = (a, 0)) : (tyLook (sound s) n).2 = true ∧ Idn.normV (tyLook (sound s) n).1.syn v = (a, true) ∧ kNorm (sound s) n v = ((tyLook (sound s) n).1, a, 0) := by
 unfold sNorm at h
 have hk : kNorm (sound s) n v = if !(tyLook (sound s) n).2 then ((tyLook (sound s) n).1, [], 6) else if !(Idn.normV (tyLook (sound s) n).1.syn v).2 then ((tyLook (sound s) n).1, [], 8) else ((tyLook (sound s) n).1, (Idn.normV (tyLook (sound s) n).1.syn v).1, 0) := rfl
 cases h1 : (tyLook (sound s) n).2
 ·rw [hk, h1] at h; simp at h
 ·cases h2 : (Idn.normV (tyLook (sound s) n).1.syn v).2
  ·rw [hk, h1, h2] at h; simp at h
  ·rw [hk, h1, h2] at h
   simp at h
   refine ⟨rfl, Prod.ext h h2, ?_⟩
   rw [hk, h1, h2]
   simp [h]
theorem sNorm_of {s : Idn.Sch} {n v a : Bs} (h1 : (tyLook (sound s) n).2 = true) (h2 : Idn.normV (tyLook (sound s) n).1.syn v = (a, true)) : sNorm s n v = (a, 0) := by
 unfold sNorm kNorm
 rw [h1, h2]; rfl
theorem sComp_of {s : Idn.Sch} {n u v a b : Bs} (ha : sNorm s n u = (a, 0)) (hb : sNorm s n v = (b, 0)) : sComp s n u v = (cmpSyn (tyLook (sound s) n).1.syn a b, 0) := by
 obtain ⟨_, _, k1⟩ := sNorm_ok ha
 obtain ⟨_, _, k2⟩ := sNorm_ok hb
 unfold sComp cmpSyn
 rw [k1, k2]
 dsimp only
 by_cases h3 : (tyLook (sound s) n).1.syn = 3
 ·simp [h3]
 ·by_cases h4 : (tyLook (sound s) n).1.syn = 4
  ·simp [h4]
  ·simp [h3, h4]
theorem orders_law {s : Idn.Sch} {n A1 B1 C1 a b c : Bs} (ha : sNorm s n A1 = (a, 0)) (hb : sNorm s n B1 = (b, 0)) (hc : sNorm s n C1 = (c, 0)) :
  sNorm s n a = (a, 0) ∧ ∃ p q r t : Int, sComp s n A1 B1 = (p, 0) ∧ sComp s n B1 A1 = (q, 0) ∧ sComp s n B1 C1 = (r, 0) ∧ sComp s n A1 C1 = (t, 0) ∧ (p = -1 ∨ p = 0 ∨ p = 1) ∧ q = -p ∧ (p = 0 ↔ a = b) ∧ (p ≤ 0 → r ≤ 0 → t ≤ 0) ∧ -1 ≤ r ∧ r ≤ 1 ∧ -1 ≤ t ∧ t ≤ 1 := by
 obtain ⟨t1, na, _⟩ := sNorm_ok ha
 obtain ⟨_, nb, _⟩ := sNorm_ok hb
 obtain ⟨_, nc, _⟩ := sNorm_ok hc
 have O := ordr_syn (tyLook (sound s) n).1.syn
 have Na : ∃ v, Idn.normV (tyLook (sound s) n).1.syn v = (a, true) := ⟨_, na⟩
 have Nb : ∃ v, Idn.normV (tyLook (sound s) n).1.syn v = (b, true) := ⟨_, nb⟩
 have Nc : ∃ v, Idn.normV (tyLook (sound s) n).1.syn v = (c, true) := ⟨_, nc⟩
 refine ⟨sNorm_of t1 (normV_idem na), _, _, _, _, sComp_of ha hb, sComp_of hb ha, sComp_of hb hc, sComp_of ha hc, O.rng a b Na Nb, O.neg a b Na Nb, O.eq a b Na Nb, O.tr a b c Na Nb Nc, ?_⟩
 have r1 := O.rng b c Nb Nc
 have r2 := O.rng a c Na Nc
 omega
end Go.Proofs.YtbkkchhimhlhcaaGreatDoor
/- Plain law: Normal and Compare by the reference are the layer's. -/
namespace Go.Proofs.YtbkkchhimhlhcaaGreatDoor
open Go.RowKit Go.Sort
open Idn (L B Bs)
def tTrue : Bs := [116, 114, 117, 101]
def tFalse : Bs := [102, 97, 108, 115, 101]
def form2 (x : Int) (v : Bs) : Bs × Bool :=
 if x = 1 then (Idn.fold v, true) else if x = 2 then (v, true) else if x = 3 then (Lib.itoa (Idn.number2 v).1, (Idn.number2 v).2)
 else if x = 4 then ((Idn.cleanN v).1, (Idn.cleanN v).2 == 0) else if Idn.lower v = tTrue then ([84, 82, 85, 69], true) else ([70, 65, 76, 83, 69], Idn.lower v == tFalse)
theorem form2_eq {x : Int} (h1 : 1 ≤ x) (h5 : x ≤ 5) (v : Bs) : (form2 x v).2 = (Idn.normSyn x v).2 ∧ ((Idn.normSyn x v).2 = true → (form2 x v).1 = (Idn.normSyn x v).1) := by
 have hx : x = 1 ∨ x = 2 ∨ x = 3 ∨ x = 4 ∨ x = 5 := by omega
 unfold form2 Idn.normSyn
 rcases hx with rfl | rfl | rfl | rfl | rfl
 ·exact ⟨rfl, fun _ => rfl⟩
 ·exact ⟨rfl, fun _ => rfl⟩
 ·exact Idn.number_eq v
 ·exact ⟨rfl, fun _ => rfl⟩
 ·simp only [show ¬ (5 : Int) = 1 by decide, show ¬ (5 : Int) = 2 by decide, show ¬ (5 : Int) = 3 by decide, show ¬ (5 : Int) = 4 by decide, if_false, if_true]
  unfold Idn.truth tTrue tFalse
  by_cases ht : Idn.lower v = [116, 114, 117, 101]
  ·rw [if_pos ht, ht]; exact ⟨rfl, fun _ => up_true.symm⟩
  ·rw [if_neg ht]
   have e : (Idn.lower v == [116, 114, 117, 101]) = false := by simpa using ht
   dsimp only
   rw [e, Bool.false_or]
   refine ⟨rfl, fun h => ?_⟩
   have h2 : Idn.lower v = [102, 97, 108, 115, 101] := by simpa using h
   rw [h2]; exact up_false.symm
theorem syn_range {s : Idn.Sch} {n : Bs} (h : (tyLook (sound s) n).2 = true) : 1 ≤ (tyLook (sound s) n).1.syn ∧ (tyLook (sound s) n).1.syn ≤ 5 := by
 unfold tyLook at h ⊢
 cases hx : Idn.ixT (sound s).types n with
 | none => rw [hx] at h; cases h
 | some k =>
  rw [hx] at h
  dsimp only at h ⊢
  cases hy : (sound s).types[k]? with
  | none => rw [hy] at h; cases h
  | some t =>
   dsimp only
   have hm := List.mem_of_getElem? hy
   unfold sound at hm
   by_cases hs : Idn.sCheck s = 0
   ·rw [if_pos hs] at hm
    exact ((Idn.sCheck_ok hs).1 t hm).2
   ·rw [if_neg hs] at hm; simp at hm
def rNorm (s : Idn.Sch) (n v : Bs) : Bs × Int :=
 if (tyLook (sound s) n).2 = false then ([], 6)
 else if Idn.clean v = false then ([], 8)
 else if (!(form2 (tyLook (sound s) n).1.syn v).2 || !Idn.clean (form2 (tyLook (sound s) n).1.syn v).1) = true then ([], 8)
 else ((form2 (tyLook (sound s) n).1.syn v).1, 0)
theorem rNorm_eq (s : Idn.Sch) (n v : Bs) : rNorm s n v = sNorm s n v := by
 unfold rNorm sNorm kNorm
 cases hok : (tyLook (sound s) n).2
 ·simp
 ·obtain ⟨h1, h5⟩ := syn_range hok
  obtain ⟨e1, e2⟩ := form2_eq h1 h5 v
  generalize (tyLook (sound s) n).1.syn = x at *
  unfold Idn.normV
  generalize form2 x v = f at *
  generalize Idn.normSyn x v = g at *
  obtain ⟨f1, f2⟩ := f
  obtain ⟨g1, g2⟩ := g
  dsimp only at e1 e2 ⊢
  subst e1
  cases f2
  ·cases Idn.clean v <;> simp
  ·have := e2 rfl
   subst this
   cases Idn.clean v <;> cases Idn.clean f1 <;> simp
theorem number_itoa {n : Int} (h1 : -9223372036854775808 ≤ n) (h2 : n ≤ 9223372036854775807) : (Idn.number2 (Lib.itoa n)).1 = n := by
 obtain ⟨a1, a2, a3⟩ := read_itoa h1 h2
 have hd := Idn.dig_val n.natAbs
 have hz : Idn.stripZ (Lib.decDigits n.natAbs) = Lib.decDigits n.natAbs := by
  rw [Idn.stripZ_D _ hd.2.2.1 hd.2.1]
  by_cases h0 : n.natAbs = 0
  ·rw [h0, Lib.decDigits_one (by decide)]; rfl
  ·have hh := hd.2.2.2 (by omega)
   have e : Idn.stripD (Lib.decDigits n.natAbs) = Lib.decDigits n.natAbs := by
    cases hx : Lib.decDigits n.natAbs with
    | nil => rfl
    | cons c r =>
     rw [hx] at hh
     have hc : (c == 48) = false := by simpa using hh
     unfold Idn.stripD
     rw [List.dropWhile_cons, hc]; rfl
   rw [e]
   cases hx : Lib.decDigits n.natAbs with
   | nil => exact absurd hx hd.2.2.1
   | cons c r => rfl
 have hdig : Idn.digit ((Lib.decDigits n.natAbs).headD 0) = true := Idn.all_head hd.2.2.1 hd.2.1
 have hie : (Lib.decDigits n.natAbs).isEmpty = false := by cases hx : Lib.decDigits n.natAbs with | nil => exact absurd hx hd.2.2.1 | cons _ _ => rfl
 unfold Idn.number2
 rw [a2, a3, hz, hdig, hie]
 have hs : Idn.signed (decide (n < 0)) (Lib.decDigits n.natAbs) = Lib.itoa n := by
  unfold Idn.signed
  have hm : Lib.itoa n = if Idn.isMinus (Lib.itoa n) then 45 :: Idn.mag2 (Lib.itoa n) else Idn.mag2 (Lib.itoa n) := by
   unfold Idn.mag2
   cases hx : Lib.itoa n with
   | nil => rfl
   | cons c r =>
    by_cases hc : c = 45
    ·subst hc; rfl
    ·have : Idn.isMinus (c :: r) = false := by simpa [Idn.isMinus] using hc
     rw [this]; rfl
  rw [hm, a2, a3]
  by_cases hn : n < 0
  ·have hh := hd.2.2.2 (by omega)
   have hne : (Lib.decDigits n.natAbs == [48]) = false := by
    rw [beq_eq_false_iff_ne]; intro e; rw [e] at hh; exact hh rfl
   rw [hne, decide_eq_true hn]; rfl
  ·rw [decide_eq_false hn]; rfl
 rw [hs, a1]
 rfl
def rComp (s : Idn.Sch) (n a b : Bs) : Int × Int :=
 if (sNorm s n a).2 ≠ 0 then (0, (sNorm s n a).2)
 else if (sNorm s n b).2 ≠ 0 then (0, (sNorm s n b).2)
 else if (tyLook (sound s) n).1.syn = 4 then (cmpNm (sNorm s n a).1 (sNorm s n b).1, 0)
 else if (tyLook (sound s) n).1.syn = 3 then (Lib.compareInt (Idn.number2 (sNorm s n a).1).1 (Idn.number2 (sNorm s n b).1).1, 0)
 else (cmpB (sNorm s n a).1 (sNorm s n b).1, 0)
theorem int_read {s : Idn.Sch} {n v a : Bs} (h : sNorm s n v = (a, 0)) (hx : (tyLook (sound s) n).1.syn = 3) : (Idn.number2 a).1 = (Idn.readInt a).1 := by
 obtain ⟨_, h2, _⟩ := sNorm_ok h
 rw [hx] at h2
 obtain ⟨h3, _⟩ := normV_parts h2
 have h4 : Idn.integer v = (a, true) := h3
 obtain ⟨k, k1, k2, k3⟩ := integer_form (v := v) (by rw [h4])
 rw [h4] at k3
 dsimp only at k3
 subst k3
 rw [number_itoa k1 k2, Idn.read2_eq, (read_itoa k1 k2).1]
theorem rComp_eq (s : Idn.Sch) (n a b : Bs) : rComp s n a b = sComp s n a b := by
 have e1 : (sNorm s n a).2 = (kNorm (sound s) n a).2.2 := rfl
 have e2 : (sNorm s n b).2 = (kNorm (sound s) n b).2.2 := rfl
 have e3 : (sNorm s n a).1 = (kNorm (sound s) n a).2.1 := rfl
 have e4 : (sNorm s n b).1 = (kNorm (sound s) n b).2.1 := rfl
 unfold rComp sComp
 rw [← e1, ← e2, ← e3, ← e4]
 have ia := fun h => int_read (v := a) (Prod.ext rfl h : sNorm s n a = ((sNorm s n a).1, 0))
 have ib := fun h => int_read (v := b) (Prod.ext rfl h : sNorm s n b = ((sNorm s n b).1, 0))
 clear e1 e2 e3 e4
 generalize sNorm s n a = p at *
 generalize sNorm s n b = q at *
 generalize (tyLook (sound s) n).1.syn = x at *
 obtain ⟨p1, p2⟩ := p
 obtain ⟨q1, q2⟩ := q
 dsimp only at ia ib ⊢
 by_cases h1 : p2 = 0
 ·by_cases h2 : q2 = 0
  ·subst h1 h2
   by_cases h3 : x = 3
   ·subst h3
    simp [ia, ib]
   ·by_cases h4 : x = 4
    ·subst h4; simp
    ·simp [h3, h4, cmpB_eq]
  ·simp [h1, h2]
 ·simp [h1]
end Go.Proofs.YtbkkchhimhlhcaaGreatDoor
/- identityref05: Compare. -/
namespace Go.Proofs.YtbkkchhimhlhcaaGreatDoor
open Go.RowKit Go.Sort
open Idn (L B Bs drop_L take_L size_L)
theorem cmpB_same (a : Bs) : cmpB a a = 0 := by
 unfold cmpB
 rw [if_neg (List.lt_irrefl a), if_neg (List.lt_irrefl a)]
theorem cmpB_diff {a b : Bs} (h : ¬ a = b) : cmpB a b ≠ 0 := by
 unfold cmpB
 by_cases h1 : a < b
 ·rw [if_pos h1]; decide
 ·rw [if_neg h1]
  by_cases h2 : b < a
  ·rw [if_pos h2]; decide
  ·exact absurd (Decidable.byContradiction fun e => h2 (Idn.lt_of _ _ h1 e)) h
theorem cmpNm_parts (a b : Bs) : cmpNm a b = if (partsN a).2 then (if (partsN b).2 then cmpL (partsN a).1.reverse (partsN b).1.reverse else -1) else if (partsN b).2 then 1 else cmpB a b := by
 unfold cmpNm partsN
 rw [normal_valid, normal_valid]
 cases ha : validN a <;> cases hb : validN b
 ·rfl
 ·rfl
 ·rfl
 ·simp only [if_true, (normal_parts ha).1, (normal_parts hb).1]
theorem parts_sm (s : Bs) : (partsN s).1.length ≤ 8 := by
 unfold partsN
 split
 ·exact (parse_sm s).1
 ·simp
theorem r5_Compare_any (a b : ByteArray) (w : World) (ha : a.size ≤ 1000000000) (hb : b.size ≤ 1000000000) :
  Calls Tryz.prog 66 #[.string a, .string b] w fun e w' => e = .returned (.int .i64 (cmpNm (L a) (L b))) ∧ Below w.heap.size w w' := by
 have h1 := r5_parts_any a w ha
 have h2 := fun W => r5_parts_any b W hb
 have hla := parts_sm (L a)
 have hlb := parts_sm (L b)
 rw [cmpNm_parts]
 generalize hr : (if (partsN (L a)).2 then (if (partsN (L b)).2 then cmpL (partsN (L a)).1.reverse (partsN (L b)).1.reverse else -1) else if (partsN (L b)).2 then 1 else cmpB (L a) (L b)) = r
 have HR : Hid (r = if (partsN (L a)).2 then (if (partsN (L b)).2 then cmpL (partsN (L a)).1.reverse (partsN (L b)).1.reverse else -1) else if (partsN (L b)).2 then 1 else cmpB (L a) (L b)) := hr.symm
 have hCS := fun W => r5_bytes_any a b W
 generalize partsN (L a) = na at *
 generalize partsN (L b) = nb at *
 obtain ⟨l, ok⟩ := na
 obtain ⟨m, is⟩ := nb
 dsimp only at HR hla hlb
 generalize cmpB (L a) (L b) = cb at *
 clear hr
 go_enter Tryz.func66, Tryz.ntmps66
 go_wp2_with fail
 refine h1.mono ?_
 rintro e w1 ⟨v1, rfl, ho1, hb1⟩
 obtain ⟨A, c, hv⟩ := own_shape ho1
 subst hv
 clear h1
 dsimp only at *
 go_wp2_with fail
 refine (h2 w1).mono ?_
 rintro e w3 ⟨v3, rfl, ho3, hb3⟩
 obtain ⟨A', c', hv⟩ := own_shape ho3
 subst hv
 have hbw3 := hb1.trans (hb3.mono hb1.size)
 have hP1 := PairsV.of_own (own_below ho1 hb3)
 have hP2 := PairsV.of_own ho3
 clear h2 ho1 ho3
 dsimp only at *
 cases ok
 ·cases is
  ·have HF : Hid (r = cb) := HR.out
   clear HR
   go_wp2_with fail
   refine (hCS _).mono ?_
   rintro e w5 ⟨rfl, rfl⟩
   go_wp2
   go_ret
   exact ⟨ret_int HF.out.symm, hbw3⟩
  ·have HF : Hid (r = 1) := HR.out
   clear HR
   go_wp2
   go_ret
   exact ⟨ret_int HF.out.symm, hbw3⟩
 ·cases is
  ·have HF : Hid (r = -1) := HR.out
   clear HR
   go_wp2
   go_ret
   exact ⟨ret_int HF.out.symm, hbw3⟩
  ·have HF : Hid (r = cmpL l.reverse m.reverse) := HR.out
   clear HR hCS
   have hst := cmpL_step l.reverse m.reverse
   have hen := cmpL_end l.reverse m.reverse
   simp only [List.length_reverse] at hst hen
   have HST := Lib.hid hst
   have HEN := Lib.hid hen
   clear hst hen
   go_wp2
   go_loopw [9] (fun x wr => ∃ i : Nat, 1 ≤ i ∧ i ≤ l.length + 1 ∧ i ≤ m.length + 1 ∧ x = .int .i64 i ∧ Below w3.heap.size w3 wr ∧ Hid (r = cmpL (l.reverse.drop (i - 1)) (m.reverse.drop (i - 1)))) (fun x _ => l.length + 1 - (intOf x).toNat)
   case atStart => exact ⟨1, Nat.le_refl _, by omega, by omega, rfl, Below.refl _ _, HF.out⟩
   case round =>
    obtain ⟨i, hi1, hil1, him1, rfl, hb, hinv⟩ := hrel
    clear HF
    by_cases hil : i ≤ l.length
    case neg =>
     have hilI : ¬ (i : Int) ≤ (l.length : Int) := by omega
     have HG : Hid (r = Lib.compareInt l.length m.length) := by show _ = _; rw [hinv.out, HEN.out (i - 1) (by omega) (by omega) (by omega)]
     clear HST HEN hinv
     rcases Nat.lt_trichotomy l.length m.length with hc9 | hc9 | hc9
     ·have h9 : (l.length : Int) < (m.length : Int) := by omega
      have HH : Hid (r = -1) := by show _ = _; rw [HG.out, Lib.compareInt, if_pos h9]
      clear HG hc9
      go_wp2
      go_ret
      exact ⟨ret_int HH.out.symm, hbw3.trans (hb.mono hbw3.size)⟩
     ·have h9 : ¬ (l.length : Int) < (m.length : Int) := by omega
      have h10 : ¬ (m.length : Int) < (l.length : Int) := by omega
      have HH : Hid (r = 0) := by show _ = _; rw [HG.out, Lib.compareInt, if_neg h9, if_neg h10]
      clear HG hc9
      go_wp2
      go_ret
      exact ⟨ret_int HH.out.symm, hbw3.trans (hb.mono hbw3.size)⟩
     ·have h9 : ¬ (l.length : Int) < (m.length : Int) := by omega
      have h10 : (m.length : Int) < (l.length : Int) := by omega
      have HH : Hid (r = 1) := by show _ = _; rw [HG.out, Lib.compareInt, if_neg h9, if_pos h10]
      clear HG hc9
      go_wp2
      go_ret
      exact ⟨ret_int HH.out.symm, hbw3.trans (hb.mono hbw3.size)⟩
    case pos =>
    have hilI : (i : Int) ≤ (l.length : Int) := by omega
    by_cases him : i ≤ m.length
    case neg =>
     have himI : ¬ (i : Int) ≤ (m.length : Int) := by omega
     have HG : Hid (r = Lib.compareInt l.length m.length) := by show _ = _; rw [hinv.out, HEN.out (i - 1) (by omega) (by omega) (by omega)]
     clear HST HEN hinv
     rcases Nat.lt_trichotomy l.length m.length with hc9 | hc9 | hc9
     ·have h9 : (l.length : Int) < (m.length : Int) := by omega
      have HH : Hid (r = -1) := by show _ = _; rw [HG.out, Lib.compareInt, if_pos h9]
      clear HG hc9
      go_wp2
      go_ret
      exact ⟨ret_int HH.out.symm, hbw3.trans (hb.mono hbw3.size)⟩
     ·have h9 : ¬ (l.length : Int) < (m.length : Int) := by omega
      have h10 : ¬ (m.length : Int) < (l.length : Int) := by omega
      have HH : Hid (r = 0) := by show _ = _; rw [HG.out, Lib.compareInt, if_neg h9, if_neg h10]
      clear HG hc9
      go_wp2
      go_ret
      exact ⟨ret_int HH.out.symm, hbw3.trans (hb.mono hbw3.size)⟩
     ·have h9 : ¬ (l.length : Int) < (m.length : Int) := by omega
      have h10 : (m.length : Int) < (l.length : Int) := by omega
      have HH : Hid (r = 1) := by show _ = _; rw [HG.out, Lib.compareInt, if_neg h9, if_pos h10]
      clear HG hc9
      go_wp2
      go_ret
      exact ⟨ret_int HH.out.symm, hbw3.trans (hb.mono hbw3.size)⟩
    case pos =>
    have himI : (i : Int) ≤ (m.length : Int) := by omega
    have hs := HST.out (i - 1) (by omega) (by omega)
    have e1 : l.reverse[i - 1]'(by simp; omega) = l[l.length - i]'(by omega) := by rw [List.getElem_reverse]; congr 1; omega
    have e2 : m.reverse[i - 1]'(by simp; omega) = m[m.length - i]'(by omega) := by rw [List.getElem_reverse]; congr 1; omega
    rw [e1, e2, show i - 1 + 1 = i by omega] at hs
    have HS := Lib.hid hs
    clear hs e1 e2 HST HEN
    have hli : l.length - i < l.length := by omega
    have hmi : m.length - i < m.length := by omega
    obtain ⟨b0, off, rfl, hbl, c0, c1⟩ := PairsV.cell (SlV.keep hP1 hb) hli
    obtain ⟨b1, off', rfl, hbl', d0, d1⟩ := PairsV.cell (SlV.keep hP2 hb) hmi
    have k1 : (l.length : Int) - (i : Int) = ((l.length - i : Nat) : Int) := by omega
    have k2 : (m.length : Int) - (i : Int) = ((m.length - i : Nat) : Int) := by omega
    have q1 : IntKind.i64.wrap ((l.length : Int) - (i : Int)) = ((l.length - i : Nat) : Int) := by rw [k1]; exact IntWalk.i64_in _ (by omega)
    have q2 : IntKind.i64.wrap ((m.length : Int) - (i : Int)) = ((m.length - i : Nat) : Int) := by rw [k2]; exact IntWalk.i64_in _ (by omega)
    have j1 : ((l.length - i : Nat) : Int) < (l.length : Int) := by omega
    have j2 : ((m.length - i : Nat) : Int) < (m.length : Int) := by omega
    generalize l[l.length - i] = x at *
    generalize m[m.length - i] = y at *
    generalize l.length - i = li at *
    generalize m.length - i = mi at *
    have hB1 := fun W => r5_bytes_any (B x.1) (B y.1) W
    have hB2 := fun W => r5_bytes_any (B x.2) (B y.2) W
    rw [Idn.L_B, Idn.L_B] at hB1 hB2
    have hway : (((B x.1).toList == (B y.1).toList) = false ∧ Hid (r = cmpB x.1 y.1)) ∨ (((B x.1).toList == (B y.1).toList) = true ∧ ((B x.2).toList == (B y.2).toList) = false ∧ Hid (r = cmpB x.2 y.2)) ∨
      (((B x.1).toList == (B y.1).toList) = true ∧ ((B x.2).toList == (B y.2).toList) = true ∧ Hid (r = cmpL (l.reverse.drop i) (m.reverse.drop i))) := by
     have hp := HS.out
     by_cases z1 : x.1 = y.1
     ·have z1' : ((B x.1).toList == (B y.1).toList) = true := by rw [z1]; exact str_is rfl
      by_cases z2 : x.2 = y.2
      ·have z2' : ((B x.2).toList == (B y.2).toList) = true := by rw [z2]; exact str_is rfl
       refine .inr (.inr ⟨z1', z2', ?_⟩)
       show _ = _
       rw [hinv.out, hp, if_pos (by rw [cmpPr, z1, z2, cmpB_same, cmpB_same]; rfl)]
      ·have z2' : ((B x.2).toList == (B y.2).toList) = false := str_not (by rw [Idn.L_B, Idn.L_B]; exact z2)
       refine .inr (.inl ⟨z1', z2', ?_⟩)
       have e : cmpPr x y = cmpB x.2 y.2 := by rw [cmpPr, z1, cmpB_same]; rfl
       show _ = _
       rw [hinv.out, hp, e, if_neg (cmpB_diff z2)]
     ·have z1' : ((B x.1).toList == (B y.1).toList) = false := str_not (by rw [Idn.L_B, Idn.L_B]; exact z1)
      refine .inl ⟨z1', ?_⟩
      have e : cmpPr x y = cmpB x.1 y.1 := by rw [cmpPr, or2, if_neg (cmpB_diff z1)]
      show _ = _
      rw [hinv.out, hp, e, if_neg (cmpB_diff z1)]
    clear HS hinv k1 k2 hP1 hP2
    generalize cmpB x.1 y.1 = g1 at *
    generalize cmpB x.2 y.2 = g2 at *
    go_wp2_with fail
    have hS : ∀ W', Below wr.heap.size wr W' → W'.cell? ⟨b0, off + li * 2, none⟩ = some (.string (B x.1)) ∧ W'.cell? ⟨b0, off + li * 2 + 1, none⟩ = some (.string (B x.2)) ∧ W'.cell? ⟨b1, off' + mi * 2, none⟩ = some (.string (B y.1)) ∧ W'.cell? ⟨b1, off' + mi * 2 + 1, none⟩ = some (.string (B y.2)) ∧ Below wr.heap.size wr W' := fun W' hW =>
     ⟨cell_later hW c0, cell_later hW c1, cell_later hW d0, cell_later hW d1, hW⟩
    have hw0 := Below.refl wr.heap.size wr
    go_region_held3 (fun W' => W'.cell? ⟨b0, off + li * 2, none⟩ = some (.string (B x.1)) ∧ W'.cell? ⟨b0, off + li * 2 + 1, none⟩ = some (.string (B x.2)) ∧ W'.cell? ⟨b1, off' + mi * 2, none⟩ = some (.string (B y.1)) ∧ W'.cell? ⟨b1, off' + mi * 2 + 1, none⟩ = some (.string (B y.2)) ∧ Below wr.heap.size wr W')
     (first | (refine hS _ ?_; repeat (first | with_reducible exact Below.refl _ _ | with_reducible apply Below.drew | with_reducible refine Below.lay ?_ _ | with_reducible refine Below.setCell ?_ (by simp) _)))
     (first | fail)
    all_goals
     with_reducible refine gen2d (R := fun X => Exit.then _ _ _ _ X) ?_
     intro X hbX n1 n2
     have a0 := n1 0 _ rfl
     have a1 := n1 1 _ rfl
     have a2 := n2 0 _ rfl
     have a3 := n2 1 _ rfl
     clear n1 n2 hS hw0
     have hbx := hb.trans (hbX.mono hb.size)
     have hbwx := hbw3.trans (hbx.mono hbw3.size)
     rcases hway with ⟨z1, HG⟩ | ⟨z1, z2, HG⟩ | ⟨z1, z2, HG⟩
     ·clear hB2
      go_wp2_with fail
      refine (hB1 _).mono ?_
      rintro e w6 ⟨rfl, rfl⟩
      go_wp2
      go_ret
      exact ⟨ret_int HG.out.symm, hbwx⟩
     ·clear hB1
      go_wp2_with fail
      refine (hB2 _).mono ?_
      rintro e w6 ⟨rfl, rfl⟩
      go_wp2
      go_ret
      exact ⟨ret_int HG.out.symm, hbwx⟩
     ·clear hB1 hB2
      go_wp2
      go_roundw
      case rel => exact ⟨i + 1, by omega, by omega, by omega, by go_num, hbx, by simpa using HG⟩
      case measure => simp [intOf]; omega
end Go.Proofs.YtbkkchhimhlhcaaGreatDoor
