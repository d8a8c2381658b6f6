/- Part 21 of the proof that SchemaLooks returns true for every schema and every name: the package variables hold what the program lays; nothing else is asked. -/
import Derived.Test.YtoelhiccofpgfaaGreatDoorLk20
import Derived.Lib.ItoaLen
/- schema: normal (not at names). -/
namespace Go.Proofs.YtoelhiccofpgfaaGreatDoor
open Go.RowKit
open Idn (L B Bs drop_L take_L size_L)

theorem mapGo_len (f : Int → Int) : ∀ (n : Nat) (l : Bs), (Lib.mapGoD f n l).length ≤ n * 4
  | 0, l => by simp [Lib.mapGoD]
  | n + 1, l => by
    unfold Lib.mapGoD
    split
    · simp
    · rw [List.length_append]
      have h1 := mapGo_len f n (l.drop (Lib.decodeL l).2)
      have h2 : (if 0 ≤ f (Lib.decodeL l).1 then Lib.encodeRune (f (Lib.decodeL l).1) else []).length ≤ 4 := by
        split
        · unfold Lib.encodeRune; rw [List.length_map]; exact (Lib.encodeRuneZ_length _).2
        · simp
      rw [Nat.add_mul]; omega
theorem length_norm (x : Int) (v : Bs) (h : v.length ≤ 100000000) : (Idn.normSyn x v).1.length ≤ 1000000000 := by
  unfold Idn.normSyn
  split
  · unfold Idn.integer
    split
    · simp
    · split
      · simp
      · have hb := readInt_bd (if Lib.hasPrefix v [45] = true then 45 :: Idn.stripD (Lib.trimPrefix v [45]) else Idn.stripD (Lib.trimPrefix v [45]))
        have := Lib.itoa_length_le _ hb.1 hb.2
        dsimp only
        omega
  · split
    · have := mapGo_len Lib.toUpperU (Idn.lower v).length (Idn.lower v)
      rw [Idn.length_lower] at this
      show (Lib.toUpperD (Idn.lower v)).length ≤ _
      unfold Lib.toUpperD Lib.mapD
      rw [Idn.length_lower]
      omega
    · split
      · have := Idn.length_fold v
        dsimp only
        omega
      · dsimp only; omega

set_option maxHeartbeats 1000000 in
set_option maxRecDepth 100000 in
theorem normal_any (x : Int) (s : ByteArray) (w : World) (hE : Env w) (hU : EnvU w) (hx4 : x ≠ 4) (hs : s.size ≤ 100000000) :
    Calls Tryz.prog 61 #[.int .i64 x, .string s] w fun e w' => e = .returned (.tuple #[.string (B (Idn.normV x (L s)).1), .bool (Idn.normV x (L s)).2]) ∧ Below w.heap.size w w' := by
  have hC1 := fun W => clean_any s W (by omega)
  have hln := length_norm x (L s) (by have := size_L s; omega)
  have hC2 := fun W => clean_any (B (Idn.normSyn x (L s)).1) W (by rw [Idn.size_B]; omega)
  rw [Idn.L_B] at hC2
  have HR : Hid (Idn.normV x (L s) = ((Idn.normSyn x (L s)).1, (Idn.normSyn x (L s)).2 && (Idn.clean (L s) && Idn.clean (Idn.normSyn x (L s)).1))) := rfl
  clear hln
  have h4 : (x == 4) = false := by simpa using hx4
  generalize Idn.normV x (L s) = r at *
  by_cases h3 : x = 3
  · have hI := integer_any s w hE hs
    have hn : Idn.normSyn x (L s) = Idn.integer (L s) := by unfold Idn.normSyn; rw [if_pos h3]
    rw [hn] at hC2 HR
    have e3 : (x == 3) = true := by simpa using h3
    generalize Idn.integer (L s) = q at *
    obtain ⟨o, okb⟩ := q
    dsimp only at *
    clear hn hx4 h3
    generalize hco : Idn.clean o = co at *
    generalize hcv : Idn.clean (L s) = cv at *
    clear hco hcv
    cases okb
    · have HF : Hid (r = (o, false)) := by show _ = _; rw [HR.out]; rfl
      go_enter Tryz.func61, Tryz.ntmps61
      go_wp2_with (first | (go_at_call 90; refine hI.mono ?_; rintro e w1 ⟨rfl, hb1⟩))
      go_ret2
      exact ⟨by rw [HF.out]; rfl, hb1⟩
    cases cv
    · have HF : Hid (r = (o, false)) := by show _ = _; rw [HR.out]; rfl
      have tok1 : True := trivial
      go_enter Tryz.func61, Tryz.ntmps61
      go_wp2_with (first | (go_at_call 90; refine hI.mono ?_; rintro e w1 ⟨rfl, hb1⟩) | (go_at_call 93; have _t := tok1; refine (hC1 _).mono ?_; rintro e w2 ⟨rfl, hb2⟩; clear tok1))
      go_ret2
      exact ⟨by rw [HF.out]; rfl, hb1.trans (hb2.mono hb1.size)⟩
    have HF : Hid (r = (o, co)) := by show _ = _; rw [HR.out]; rfl
    have tok1 : True := trivial
    go_enter Tryz.func61, Tryz.ntmps61
    go_wp2_with (first | (go_at_call 90; refine hI.mono ?_; rintro e w1 ⟨rfl, hb1⟩) | (go_at_call 93; have _t := tok1; refine (hC1 _).mono ?_; rintro e w2 ⟨rfl, hb2⟩; clear tok1) | (go_at_call 93; refine (hC2 _).mono ?_; rintro e w3 ⟨rfl, hb3⟩))
    go_ret2
    exact ⟨by rw [HF.out]; rfl, (hb1.trans (hb2.mono hb1.size)).trans (hb3.mono (hb1.trans (hb2.mono hb1.size)).size)⟩
  have e3 : (x == 3) = false := by simpa using h3
  by_cases h5 : x = 5
  · have hI := truth_any s w hU hs
    have hn : Idn.normSyn x (L s) = Idn.truth (L s) := by unfold Idn.normSyn; rw [if_neg h3, if_pos h5]
    rw [hn] at hC2 HR
    have e5 : (x == 5) = true := by simpa using h5
    generalize Idn.truth (L s) = q at *
    obtain ⟨o, okb⟩ := q
    dsimp only at *
    clear hn hx4 h3 h5
    generalize hco : Idn.clean o = co at *
    generalize hcv : Idn.clean (L s) = cv at *
    clear hco hcv
    cases okb
    · have HF : Hid (r = (o, false)) := by show _ = _; rw [HR.out]; rfl
      go_enter Tryz.func61, Tryz.ntmps61
      go_wp2_with (first | (go_at_call 91; refine hI.mono ?_; rintro e w1 ⟨rfl, hb1⟩))
      go_ret2
      exact ⟨by rw [HF.out]; rfl, hb1⟩
    cases cv
    · have HF : Hid (r = (o, false)) := by show _ = _; rw [HR.out]; rfl
      have tok1 : True := trivial
      go_enter Tryz.func61, Tryz.ntmps61
      go_wp2_with (first | (go_at_call 91; refine hI.mono ?_; rintro e w1 ⟨rfl, hb1⟩) | (go_at_call 93; have _t := tok1; refine (hC1 _).mono ?_; rintro e w2 ⟨rfl, hb2⟩; clear tok1))
      go_ret2
      exact ⟨by rw [HF.out]; rfl, hb1.trans (hb2.mono hb1.size)⟩
    have HF : Hid (r = (o, co)) := by show _ = _; rw [HR.out]; rfl
    have tok1 : True := trivial
    go_enter Tryz.func61, Tryz.ntmps61
    go_wp2_with (first | (go_at_call 91; refine hI.mono ?_; rintro e w1 ⟨rfl, hb1⟩) | (go_at_call 93; have _t := tok1; refine (hC1 _).mono ?_; rintro e w2 ⟨rfl, hb2⟩; clear tok1) | (go_at_call 93; refine (hC2 _).mono ?_; rintro e w3 ⟨rfl, hb3⟩))
    go_ret2
    exact ⟨by rw [HF.out]; rfl, (hb1.trans (hb2.mono hb1.size)).trans (hb3.mono (hb1.trans (hb2.mono hb1.size)).size)⟩
  have e5 : (x == 5) = false := by simpa using h5
  by_cases h1 : x = 1
  · have hI := fold_any s w (by omega)
    have hn : Idn.normSyn x (L s) = (Idn.fold (L s), true) := by unfold Idn.normSyn; rw [if_neg h3, if_neg h5, if_pos h1]
    rw [hn] at hC2 HR
    have e1 : (x == 1) = true := by simpa using h1
    dsimp only at *
    generalize Idn.fold (L s) = o at *
    clear hn hx4 h3 h5 h1
    generalize hco : Idn.clean o = co at *
    generalize hcv : Idn.clean (L s) = cv at *
    clear hco hcv
    cases cv
    · have HF : Hid (r = (o, false)) := by show _ = _; rw [HR.out]; rfl
      have tok1 : True := trivial
      go_enter Tryz.func61, Tryz.ntmps61
      go_wp2_with (first | (go_at_call 82; refine hI.mono ?_; rintro e w1 ⟨rfl, hb1⟩) | (go_at_call 93; have _t := tok1; refine (hC1 _).mono ?_; rintro e w2 ⟨rfl, hb2⟩; clear tok1))
      go_ret2
      exact ⟨by rw [HF.out]; rfl, hb1.trans (hb2.mono hb1.size)⟩
    have HF : Hid (r = (o, co)) := by show _ = _; rw [HR.out]; rfl
    have tok1 : True := trivial
    go_enter Tryz.func61, Tryz.ntmps61
    go_wp2_with (first | (go_at_call 82; refine hI.mono ?_; rintro e w1 ⟨rfl, hb1⟩) | (go_at_call 93; have _t := tok1; refine (hC1 _).mono ?_; rintro e w2 ⟨rfl, hb2⟩; clear tok1) | (go_at_call 93; refine (hC2 _).mono ?_; rintro e w3 ⟨rfl, hb3⟩))
    go_ret2
    exact ⟨by rw [HF.out]; rfl, (hb1.trans (hb2.mono hb1.size)).trans (hb3.mono (hb1.trans (hb2.mono hb1.size)).size)⟩
  have e1 : (x == 1) = false := by simpa using h1
  by_cases h2 : x = 2
  · have hn : Idn.normSyn x (L s) = (L s, true) := by unfold Idn.normSyn; rw [if_neg h3, if_neg h5, if_neg h1]
    rw [hn] at hC2 HR
    have e2 : (x == 2) = true := by simpa using h2
    dsimp only at *
    clear hn hx4 h3 h5 h1 h2
    generalize hcv : Idn.clean (L s) = cv at *
    clear hcv
    cases cv
    · have HF : Hid (r = ((L s), false)) := by show _ = _; rw [HR.out]; rfl
      have tok1 : True := trivial
      go_enter Tryz.func61, Tryz.ntmps61
      go_wp2_with (first | (go_at_call 93; have _t := tok1; refine (hC1 _).mono ?_; rintro e w2 ⟨rfl, hb2⟩; clear tok1))
      go_ret2
      exact ⟨by rw [HF.out]; rfl, hb2⟩
    have HF : Hid (r = ((L s), true)) := by show _ = _; rw [HR.out]; rfl
    have tok1 : True := trivial
    go_enter Tryz.func61, Tryz.ntmps61
    go_wp2_with (first | (go_at_call 93; have _t := tok1; refine (hC1 _).mono ?_; rintro e w2 ⟨rfl, hb2⟩; clear tok1) | (go_at_call 93; refine (hC2 _).mono ?_; rintro e w3 ⟨rfl, hb3⟩))
    go_ret2
    exact ⟨by rw [HF.out]; rfl, hb2.trans (hb3.mono hb2.size)⟩
  have e2 : (x == 2) = false := by simpa using h2
  have hn : Idn.normSyn x (L s) = (L s, true) := by unfold Idn.normSyn; rw [if_neg h3, if_neg h5, if_neg h1]
  rw [hn] at hC2 HR
  dsimp only at *
  clear hn hx4 h3 h5 h1 h2
  generalize hcv : Idn.clean (L s) = cv at *
  clear hcv
  cases cv
  · have HF : Hid (r = ((L s), false)) := by show _ = _; rw [HR.out]; rfl
    have tok1 : True := trivial
    go_enter Tryz.func61, Tryz.ntmps61
    go_wp2_with (first | (go_at_call 93; have _t := tok1; refine (hC1 _).mono ?_; rintro e w2 ⟨rfl, hb2⟩; clear tok1))
    go_ret2
    exact ⟨by rw [HF.out]; rfl, hb2⟩
  have HF : Hid (r = ((L s), true)) := by show _ = _; rw [HR.out]; rfl
  have tok1 : True := trivial
  go_enter Tryz.func61, Tryz.ntmps61
  go_wp2_with (first | (go_at_call 93; have _t := tok1; refine (hC1 _).mono ?_; rintro e w2 ⟨rfl, hb2⟩; clear tok1) | (go_at_call 93; refine (hC2 _).mono ?_; rintro e w3 ⟨rfl, hb3⟩))
  go_ret2
  exact ⟨by rw [HF.out]; rfl, hb2.trans (hb3.mono hb2.size)⟩
end Go.Proofs.YtoelhiccofpgfaaGreatDoor
