/- Part 23 of the proof that EntryTurns: the package variables hold what the program lays; nothing else is asked. -/
import Derived.Test.YtoopoglkeeoamaaGreatDoorEtu01
import Derived.Test.YtoopoglkeeoamaaGreatDoorEtu08
import Derived.Test.YtoopoglkeeoamaaGreatDoorEtu15
import Derived.Test.YtoopoglkeeoamaaGreatDoorEtu19
import Derived.Test.YtoopoglkeeoamaaGreatDoorEtu20
import Derived.Test.YtoopoglkeeoamaaGreatDoorEtu22
import Derived.Deep.RegionHeld3
import Derived.Deep.RegionLaw
import Derived.IntWalk
set_option linter.unusedVariables false
set_option linter.unusedSimpArgs false
/- name: Format, Clean. -/
namespace Go.Proofs.YtoopoglkeeoamaaGreatDoor
open Go.RowKit Go.Sort
open Idn (L B Bs drop_L take_L size_L)
theorem fmtR_snoc (p : Idn.Pr) : ∀ l : List Idn.Pr, Idn.fmtR (l ++ [p]) = Idn.fmtR l ++ (44 :: Idn.fmt1 p)
  | [] => by simp [Idn.fmtR]
  | q :: l => by simp [Idn.fmtR, fmtR_snoc p l]
theorem fmtJ_snoc (p : Idn.Pr) (l : List Idn.Pr) : Idn.fmtJ (l ++ [p]) = Idn.fmtJ l ++ ((if l.length = 0 then [] else [44]) ++ Idn.fmt1 p) := by
  cases l with
  | nil => simp [Idn.fmtJ, Idn.fmtR]
  | cons q l => simp [Idn.fmtJ, fmtR_snoc]
/-- the text of the first k components -/
def fmtK (l : List Idn.Pr) (k : Nat) : Bs := Idn.fmtJ (l.take k)
theorem fmtK_succ (l : List Idn.Pr) (k : Nat) (hk : k < l.length) : fmtK l (k + 1) = fmtK l k ++ ((if k = 0 then [] else [44]) ++ Idn.fmt1 l[k]) := by
  unfold fmtK
  rw [List.take_succ_eq_append_getElem hk, fmtJ_snoc, List.length_take, Nat.min_eq_left (Nat.le_of_lt hk)]
theorem escV_len (l : Bs) : (Idn.escV l).length ≤ 2 * l.length := by
  induction l with
  | nil => simp [Idn.escV]
  | cons c l ih =>
    unfold Idn.escV at *
    rw [List.flatMap_cons, List.length_append, List.length_cons]
    have h3 : ((if Idn.special c then [92, c] else [c]) : Bs).length ≤ 2 := by split <;> simp
    omega
theorem escV_snoc (l : Bs) (c : UInt8) : Idn.escV (l ++ [c]) = Idn.escV l ++ (if Idn.special c then [92, c] else [c]) := by
  unfold Idn.escV; rw [List.flatMap_append]; simp
theorem clean_len {l : Bs} (h : Idn.clean l = true) : l.length ≤ 256 := by
  unfold Idn.clean at h
  simp only [Bool.and_eq_true, decide_eq_true_eq] at h
  exact h.2.2.1
theorem name_len {l : Bs} (h : Idn.name l = true) : l.length ≤ 64 := by
  unfold Idn.name Idn.made at h
  simp only [Bool.and_eq_true, decide_eq_true_eq] at h
  exact h.1.2.2
theorem check1_all : ∀ l : List Idn.Pr, Idn.check1 l = 0 → ∀ p ∈ l, p.1.length ≤ 64 ∧ p.2.length ≤ 256
  | [], _, p, hp => by simp at hp
  | q :: l, h, p, hp => by
    unfold Idn.check1 at h
    split at h
    · cases h
    · split at h
      · cases h
      · rename_i h1 h2
        rcases List.mem_cons.1 hp with rfl | hp
        · exact ⟨name_len (by simpa using h1), clean_len (by simpa using h2)⟩
        · exact check1_all l h p hp
theorem check_zero {l : List Idn.Pr} (h : Idn.check l = 0) : l.length ≤ 8 ∧ ∀ p ∈ l, p.1.length ≤ 64 ∧ p.2.length ≤ 256 := by
  unfold Idn.check at h
  split at h
  · rename_i h1; simp [h] at h1
  · split at h
    · cases h
    · rename_i h1 h2
      exact ⟨by omega, check1_all l (by simpa using h1)⟩
theorem fmt1_len {p : Idn.Pr} (h : p.1.length ≤ 64 ∧ p.2.length ≤ 256) : (Idn.fmt1 p).length ≤ 600 := by
  unfold Idn.fmt1
  have h1 := Idn.length_fold p.2
  have h2 := escV_len (Idn.fold p.2)
  simp only [List.length_append, List.length_cons, Idn.length_lower]
  omega
theorem fmtK_len {l : List Idn.Pr} (h : ∀ p ∈ l, p.1.length ≤ 64 ∧ p.2.length ≤ 256) : ∀ k, k ≤ l.length → (fmtK l k).length ≤ k * 601
  | 0, _ => by simp [fmtK, Idn.fmtJ]
  | k + 1, hk => by
    have ih := fmtK_len h k (by omega)
    have h1 := fmt1_len (h l[k] (List.getElem_mem (by omega)))
    rw [fmtK_succ l k (by omega), List.length_append, List.length_append]
    split <;> simp <;> omega
theorem bytes_str (a : Bs) (s : ByteArray) : Lib.byteCells a ++ Lib.strCells s = Lib.byteCells (a ++ L s) := by
  rw [byteCells_app, ← strCells_B]; rfl

set_option maxHeartbeats 2000000 in
set_option maxRecDepth 100000 in
theorem nm_format_any (v : Value) (l : List Idn.Pr) (w : World) (hv : PairsV w w.heap.size v l) (hs : PSm l) (hl : l.length ≤ 1000000000000) :
    Calls Tryz.prog 92 #[v] w fun e w' => e = .returned (.tuple #[.string (B (Idn.format l).1), .int .i64 (Idn.format l).2]) ∧ Below w.heap.size w w' := by
  have hC := check_any v l w hv hs hl
  generalize hr : Idn.format l = r
  have HR := Lib.hid hr
  clear hr
  obtain ⟨A, c, rfl, hc⟩ := SlV.shape hv
  by_cases h0 : Idn.check l = 0
  case neg =>
    have HF : Hid (r = ([], Idn.check l)) := by show _ = _; rw [← HR.out, Idn.format, if_pos (by simpa using h0)]
    generalize Idn.check l = x at *
    have h1 : (x != 0) = true := by simpa using h0
    have h2 : (x == 0) = false := by simpa using h0
    clear h0
    go_enter Tryz.func92, Tryz.ntmps92
    go_wp2_with fail
    refine hC.mono ?_
    rintro e w1 ⟨rfl, hb1⟩
    clear hC
    go_wp2
    go_ret2
    exact ⟨by rw [HF.out]; rfl, hb1⟩
  case pos =>
  have HF : Hid (r = (fmtK l l.length, 0)) := by
    show _ = _; rw [← HR.out, Idn.format, if_neg (by simp [h0]), fmtK, List.take_length]
  obtain ⟨hl8, hsm⟩ := check_zero h0
  have hkl := fmtK_len hsm
  rw [h0] at hC
  clear h0 HR hs
  go_enter Tryz.func92, Tryz.ntmps92
  go_wp2_with fail
  refine hC.mono ?_
  rintro e w1 ⟨rfl, hb1⟩
  have hP := SlV.keep hv hb1
  have hB0 := Bld.new w1
  clear hC hv
  go_wp2
  go_loopw [17] (fun x wr => ∃ k : Nat, k ≤ l.length ∧ x = .int .i64 k ∧ Below w1.heap.size w1 wr ∧ Bld w1.heap.size w1.heap.size (Lib.byteCells (fmtK l k)) wr ∧ w1.heap.size < wr.heap.size) (fun x _ => l.length - (intOf x).toNat)
  case atStart => exact ⟨0, Nat.zero_le _, rfl, (Below.refl _ _).alloc (Nat.le_refl _) _, hB0, by simp⟩
  case round =>
    obtain ⟨k, hk, rfl, hb, hB, hblt⟩ := hrel
    clear hB0
    by_cases hlt : k < l.length
    · obtain ⟨b, off, rfl, hbl, c0, c1⟩ := PairsV.cell (SlV.keep hP (hb.mono hb1.size)) hlt
      have hk6 := hkl k hk
      have hpm := hsm l[k] (List.getElem_mem hlt)
      have hf1 := fmt1_len hpm
      have hsuc := fmtK_succ l k hlt
      have hLo := fun W => lower_any (B l[k].1) W (by rw [Idn.size_B]; omega)
      have hFo := fun W => fold_any (B l[k].2) W (by rw [Idn.size_B]; omega)
      rw [Idn.L_B] at hLo hFo
      have hfl := Idn.length_fold l[k].2
      have hll := Idn.length_lower l[k].1
      have hft : Idn.fmt1 l[k] = Idn.lower l[k].1 ++ 61 :: Idn.escV (Idn.fold l[k].2) := rfl
      have hltI : (k : Int) < (l.length : Int) := by omega
      have ba := (Below.refl wr.heap.size wr).alloc (Nat.le_refl _) (.cells #[.string (B l[k].1), .string (B l[k].2)] 141)
      have hB1 := hB.keep ba
      have hba := hb.trans (ba.mono hb.size)
      rw [hft] at hsuc
      have HS := Lib.hid hsuc
      generalize Idn.lower l[k].1 = lo at *
      generalize Idn.fold l[k].2 = fo at *
      generalize hm : fmtK l k = m at *
      have hM : ∃ m2 : Bs, m2 = (if k = 0 then m else m ++ [44]) := ⟨_, rfl⟩
      obtain ⟨m2, hm2⟩ := hM
      have HM2 := Lib.hid hm2
      have HM := Lib.hid hm
      have hm2l : m2.length ≤ k * 601 + 1 := by
        rw [hm2]
        split
        · omega
        · rw [List.length_append]; simp; omega
      have HL2 : Hid (fmtK l (k + 1) = (m2 ++ lo) ++ 61 :: Idn.escV fo) := by
        show _ = _
        rw [HS.out, HM2.out]
        split <;> simp
      clear hsuc hm2 hm hft hB HF ba
      have hk8 : k * 601 ≤ 8 * 601 := Nat.mul_le_mul_right _ (by omega)
      obtain ⟨t, rfl⟩ : ∃ t, fo = L t := ⟨B fo, rfl⟩
      rw [Idn.B_L] at hFo
      have hml : m.length ≤ 8 * 601 := by omega
      have hm2l8 : m2.length ≤ 8 * 601 + 1 := by omega
      have hts : t.size ≤ 256 := by rw [size_L]; omega
      have hlo : lo.length ≤ 64 := by omega
      clear hk6 hm2l hf1 hpm hfl hll
      go_upto_if 23 with fail
      go_cut [] (fun wx => Below w1.heap.size w1 wx ∧ Bld w1.heap.size w1.heap.size (Lib.byteCells m2) wx ∧ wx.heap[wr.heap.size]? = some (.cells #[.string (B l[k].1), .string (B l[k].2)] 141 (0, 0)))
      case first =>
        have pB : (wr.alloc (.cells #[.string (B l[k].1), .string (B l[k].2)] 141)).heap[wr.heap.size]? = some (.cells #[.string (B l[k].1), .string (B l[k].2)] 141 (0, 0)) := heap_alloc_new wr _
        by_cases hk0 : k = 0
        · have hkI : ¬ ((0 : Int) < (k : Int)) := by omega
          have HE : Hid (m2 = m) := by show _ = _; rw [HM2.out, if_pos hk0]
          clear hk0
          go_wp2
          go_meet
          exact ⟨hba, by rw [HE.out]; exact hB1, pB⟩
        · have hkI : (0 : Int) < (k : Int) := by omega
          have HE : Hid (m2 = m ++ [44]) := by show _ = _; rw [HM2.out, if_neg hk0]
          have hWB := writeByte_any w1.heap.size w1.heap.size (Lib.byteCells m) 44 _ hB1 (by rw [byteCells_len]; omega) hba.size
          clear hk0
          have PB := Lib.hid pB
          clear pB
          go_wp2_with fail
          refine hWB.mono ?_
          rintro e w2 ⟨rfl, hB2, hb2, hk2⟩
          clear hWB
          go_wp2
          go_meet
          exact ⟨hba.trans hb2, by rw [HE.out, bytes_one]; exact hB2, hk2 _ _ PB.out (fun e => by injection e with e; omega) (fun c fz e => by injection e with _ e _; exact absurd e (by decide))⟩
      case rest =>
        obtain ⟨hbc, hBc, pB⟩ := hcut
        have p0 : wc.cell? ⟨wr.heap.size, 0, none⟩ = some (.string (B l[k].1)) := by rw [Lib.cell_of_heap pB]; rfl
        have PB := Lib.hid pB
        clear hB1 hba pB
        go_wp2_with fail
        refine (hLo _).mono ?_
        rintro e w2 ⟨rfl, hb2⟩
        have hbw2 := hbc.trans (hb2.mono hbc.size)
        have hWS := writeString_any w1.heap.size w1.heap.size (Lib.byteCells m2) (B lo) w2 (hBc.keep hb2) (by rw [byteCells_len, Idn.size_B]; omega) hbw2.size
        rw [bytes_str, Idn.L_B] at hWS
        have PB2 := Lib.hid ((hb2.block _ (Array.getElem?_eq_some_iff.1 PB.out).1).trans PB.out)
        clear hLo hBc p0
        go_wp2_with fail
        refine hWS.mono ?_
        rintro e w3 ⟨rfl, hB3, hb3, hk3⟩
        have hbw3 := hbw2.trans hb3
        have PB3 := Lib.hid (hk3 _ _ PB2.out (fun e => by injection e with e; omega) (fun c fz e => by injection e with _ e _; exact absurd e (by decide)))
        have hWB := writeByte_any w1.heap.size w1.heap.size (Lib.byteCells (m2 ++ lo)) 61 w3 hB3 (by rw [byteCells_len, List.length_append]; omega) hbw3.size
        clear hWS
        go_wp2_with fail
        refine hWB.mono ?_
        rintro e w4 ⟨rfl, hB4, hb4, hk4⟩
        have hbw4 := hbw3.trans hb4
        have PB4 := Lib.hid (hk4 _ _ PB3.out (fun e => by injection e with e; omega) (fun c fz e => by injection e with _ e _; exact absurd e (by decide)))
        have p1 : w4.cell? ⟨wr.heap.size, 1, none⟩ = some (.string (B l[k].2)) := by rw [Lib.cell_of_heap PB4.out]; rfl
        rw [← bytes_one] at hB4
        clear hWB
        go_wp2_with fail
        refine (hFo _).mono ?_
        rintro e w5 ⟨rfl, hb5⟩
        have hbw5 := hbw4.trans (hb5.mono hbw4.size)
        have hB5 := hB4.keep hb5
        have hw15 : w1.heap.size < w5.heap.size := by have := (Array.getElem?_eq_some_iff.1 PB4.out).1; have := hb5.size; omega
        clear hFo p1 hB3 hB4
        go_wp2
        go_loopw [35] (fun y wx => ∃ j : Nat, j ≤ t.size ∧ y = .int .i64 j ∧ Below w1.heap.size w1 wx ∧ Bld w1.heap.size w1.heap.size (Lib.byteCells ((m2 ++ lo ++ [61]) ++ Idn.escV ((L t).take j))) wx ∧ w5.heap.size ≤ wx.heap.size) (fun y _ => t.size - (intOf y).toNat)
        case atStart => exact ⟨0, Nat.zero_le _, rfl, hbw5, by simpa [Idn.escV] using hB5, Nat.le_refl _⟩
        case round =>
          obtain ⟨j, hj, rfl, hbj, hBj, hszj⟩ := hrel
          clear hB5
          have hel := escV_len ((L t).take j)
          have htj : ((L t).take j).length ≤ j := List.length_take_le _ _
          have hl9 : ((m2 ++ lo ++ [61]) ++ Idn.escV ((L t).take j)).length ≤ 10000 := by
            simp only [List.length_append, List.length_cons, List.length_nil]; omega
          by_cases hjl : j < t.size
          · have hSp := fun W => special_any t[j] W
            have HS2 : Hid ((m2 ++ lo ++ [61]) ++ Idn.escV ((L t).take (j + 1)) = ((m2 ++ lo ++ [61]) ++ Idn.escV ((L t).take j)) ++ (if Idn.special t[j] then [92, t[j]] else [t[j]])) := by
              show _ = _; rw [take_L t j hjl, escV_snoc]; simp only [List.append_assoc]
            generalize (m2 ++ lo ++ [61]) ++ Idn.escV ((L t).take j) = acc at *
            have hjI : (j : Int) < (t.size : Int) := by omega
            have hWB := fun c W h hs => writeByte_any w1.heap.size w1.heap.size (Lib.byteCells acc) c W h (by rw [byteCells_len]; omega) hs
            cases hsp : Idn.special t[j]
            · have HS3 : Hid ((m2 ++ lo ++ [61]) ++ Idn.escV ((L t).take (j + 1)) = acc ++ [t[j]]) := by show _ = _; rw [HS2.out, hsp]; rfl
              simp only [hsp] at hSp
              have hW1 := hWB t[j] _ hBj hbj.size
              clear hsp HS2 hWB
              go_wp2_with (first | (go_at_call 149; refine (hSp _).mono ?_; rintro e w6 ⟨rfl, rfl⟩) | (go_at_call 123; refine hW1.mono ?_; rintro e w7 ⟨rfl, hB7, hb7, _⟩))
              go_roundw
              case rel => exact ⟨j + 1, by omega, by go_num, hbj.trans hb7, by rw [HS3.out, bytes_one]; exact hB7, by have := hb7.size; omega⟩
              case measure => simp [intOf]; omega
            · have HS3 : Hid ((m2 ++ lo ++ [61]) ++ Idn.escV ((L t).take (j + 1)) = (acc ++ [92]) ++ [t[j]]) := by show _ = _; rw [HS2.out, hsp]; simp
              simp only [hsp] at hSp
              have hW1 := hWB 92 _ hBj hbj.size
              clear hsp HS2 hWB
              go_wp2_with (go_at_call 149; refine (hSp _).mono ?_; rintro e w6 ⟨rfl, rfl⟩)
              refine hW1.mono ?_
              rintro e w7 ⟨rfl, hB7, hb7, _⟩
              have hb17 := hbj.trans hb7
              rw [← bytes_one] at hB7
              have hW2 := writeByte_any w1.heap.size w1.heap.size (Lib.byteCells (acc ++ [92])) t[j] w7 hB7 (by rw [byteCells_len, List.length_append]; simp; omega) hb17.size
              clear hW1
              go_wp2_with fail
              refine hW2.mono ?_
              rintro e w8 ⟨rfl, hB8, hb8, _⟩
              go_wp2
              go_roundw
              case rel => exact ⟨j + 1, by omega, by go_num, hb17.trans hb8, by rw [HS3.out, bytes_one]; exact hB8, by have := hb7.size; have := hb8.size; omega⟩
              case measure => simp [intOf]; omega
          · have hjl' : j = t.size := by omega
            have hjI : ¬ (j : Int) < (t.size : Int) := by omega
            subst hjl'
            rw [List.take_of_length_le (by rw [← size_L]; exact Nat.le_refl _)] at hBj
            go_wp2
            go_roundw
            case rel =>
              refine ⟨k + 1, by omega, by go_num, hbj, ?_, by omega⟩
              rw [HL2.out]
              simpa using hBj
            case measure => simp [intOf]; omega
    · have hkl' : k = l.length := by omega
      have hltI : ¬ (k : Int) < (l.length : Int) := by omega
      subst hkl'
      have hStr := Tryz.Builder_String_any_k w1.heap.size w1.heap.size (fmtK l l.length) wr hB hb.size
      clear hkl
      go_wp2_with fail
      refine hStr.mono ?_
      rintro e w4 ⟨rfl, _, hb4, _⟩
      go_wp2
      go_ret2
      exact ⟨by rw [HF.out]; rfl, hb1.trans ((hb.trans hb4).mono hb1.size)⟩

theorem component_sm (x : Bs) : (Idn.component x).1.1.length ≤ 256 ∧ (Idn.component x).1.2.length ≤ 256 := by
  unfold Idn.component
  split
  · simp
  · split
    · simp
    · split
      · simp
      · split
        · simp
        · rename_i h1 h2
          have a1 := name_len (l := _) (by simpa using h1)
          have a2 := clean_len (l := _) (by simpa using h2)
          dsimp only
          omega
theorem comps_sm : ∀ l : List Bs, (Idn.comps l).1.length ≤ l.length ∧ ∀ p ∈ (Idn.comps l).1, p.1.length ≤ 256 ∧ p.2.length ≤ 256
  | [] => by simp [Idn.comps]
  | x :: l => by
    obtain ⟨h1, h2⟩ := comps_sm l
    unfold Idn.comps
    split
    · simp
    · split
      · simp
      · refine ⟨by simp; omega, fun p hp => ?_⟩
        rcases List.mem_cons.1 hp with rfl | hp
        · exact component_sm x
        · exact h2 p hp
theorem parse_sm (s : Bs) : (Idn.parse s).1.length ≤ 8 ∧ ∀ p ∈ (Idn.parse s).1, p.1.length ≤ 256 ∧ p.2.length ≤ 256 := by
  unfold Idn.parse
  split
  · simp
  · split
    · simp
    · split
      · simp
      · rename_i h
        exact ⟨by dsimp only; omega, (comps_sm _).2⟩
set_option maxHeartbeats 1000000 in
set_option maxRecDepth 100000 in
theorem nm_clean_any (s : ByteArray) (w : World) (hs : s.size ≤ 1000000000) :
    Calls Tryz.prog 44 #[.string s] w fun e w' => e = .returned (.tuple #[.string (B (Idn.cleanN (L s)).1), .int .i64 (Idn.cleanN (L s)).2]) ∧ Below w.heap.size w w' := by
  have hP := nm_parse_any s w hs
  obtain ⟨h8, hsm⟩ := parse_sm (L s)
  generalize hr : Idn.cleanN (L s) = r
  have HR : Hid (r = if (Idn.parse (L s)).2 != 0 then ([], (Idn.parse (L s)).2) else Idn.format (Idn.parse (L s)).1) := hr.symm
  generalize Idn.parse (L s) = pp at *
  obtain ⟨l, x⟩ := pp
  dsimp only at HR h8 hsm
  clear hr
  by_cases h0 : x = 0
  · subst h0
    have HF : Hid (r = Idn.format l) := HR.out
    have hF := fun (v : Value) W (hv : PairsV W W.heap.size v l) => nm_format_any v l W hv (fun p hp => by have := hsm p hp; omega) (by omega)
    generalize Idn.format l = fm at *
    clear HR
    go_enter Tryz.func44, Tryz.ntmps44
    go_wp2_with fail
    refine hP.mono ?_
    rintro e w1 ⟨v1, rfl, hown1, hb1⟩
    obtain ⟨A, c, hv⟩ := own_shape hown1
    subst hv
    have hF1 := hF _ w1 (PairsV.of_own hown1)
    clear hP hF hown1
    dsimp only at *
    go_wp2_with fail
    refine hF1.mono ?_
    rintro e w2 ⟨rfl, hb2⟩
    clear hF1
    go_wp2
    go_ret2
    exact ⟨by rw [HF.out]; rfl, hb1.trans (hb2.mono hb1.size)⟩
  · have HF : Hid (r = ([], x)) := by show _ = _; rw [HR.out, if_pos (by simpa using h0)]
    have h1 : (x != 0) = true := by simpa using h0
    have h2 : (x == 0) = false := by simpa using h0
    clear HR h0
    go_enter Tryz.func44, Tryz.ntmps44
    go_wp2_with fail
    refine hP.mono ?_
    rintro e w1 ⟨v1, rfl, hown1, hb1⟩
    obtain ⟨A, c, hv⟩ := own_shape hown1
    subst hv
    clear hP hown1
    go_wp2
    go_ret2
    exact ⟨by rw [HF.out]; rfl, hb1⟩
end Go.Proofs.YtoopoglkeeoamaaGreatDoor
/- name: normal; comparing strings and pairs; Compare. -/
namespace Go.Proofs.YtoopoglkeeoamaaGreatDoor
open Go.RowKit Go.Sort
open Idn (L B Bs drop_L take_L size_L)
def RetPB (w : World) (r : List Idn.Pr × Bool) (e : Ending) (w' : World) : Prop :=
  ∃ v, e = .returned (.tuple #[v, .bool r.2]) ∧ w'.ownsRow w.heap.size 141 2 v r.1.length (prRow r.1) ∧ Below w.heap.size w w'
set_option maxHeartbeats 1000000 in
set_option maxRecDepth 100000 in
theorem nm_normal_any (s : ByteArray) (w : World) (hs : s.size ≤ 1000000000) :
    Calls Tryz.prog 85 #[.string s] w (RetPB w (Idn.normal (L s))) := by
  have hP := nm_parse_any s w hs
  obtain ⟨h8, hsm⟩ := parse_sm (L s)
  generalize hr : Idn.normal (L s) = r
  have HR : Hid (r = if (Idn.parse (L s)).2 != 0 then ([], false) else ((Idn.parse (L s)).1, (Idn.format (Idn.parse (L s)).1).2 == 0 && (Idn.format (Idn.parse (L s)).1).1 == L s)) := hr.symm
  generalize Idn.parse (L s) = pp at *
  obtain ⟨l, x⟩ := pp
  dsimp only at HR h8 hsm
  clear hr
  by_cases h0 : x = 0
  · subst h0
    have HF : Hid (r = (l, (Idn.format l).2 == 0 && (Idn.format l).1 == L s)) := HR.out
    have hF := fun (v : Value) W (hv : PairsV W W.heap.size v l) => nm_format_any v l W hv (fun p hp => by have := hsm p hp; omega) (by omega)
    generalize Idn.format l = fm at *
    obtain ⟨t, c⟩ := fm
    dsimp only at HF hF
    have hbe : ((B t).toList == s.toList) = (t == L s) := by rw [str_beq, Idn.L_B, list_beq]
    generalize hq : (t == L s) = q at *
    clear HR hq
    by_cases hc : c = 0
    · subst hc
      have HG : Hid (r = (l, q)) := by show _ = _; rw [HF.out]; rfl
      clear HF
      cases q
      all_goals
        go_enter Tryz.func85, Tryz.ntmps85
        go_wp2_with fail
        refine hP.mono ?_
        rintro e w1 ⟨v1, rfl, hown1, hb1⟩
        obtain ⟨A, cc, hv⟩ := own_shape hown1
        subst hv
        have hF1 := hF _ w1 (PairsV.of_own hown1)
        clear hP hF
        dsimp only at *
        go_wp2_with fail
        refine hF1.mono ?_
        rintro e w2 ⟨rfl, hb2⟩
        have hown2 := own_below hown1 hb2
        clear hF1 hown1
        go_wp2
        go_ret2
        exact ⟨.slice A l.length cc, by rw [HG.out]; rfl, by rw [HG.out]; exact hown2, hb1.trans (hb2.mono hb1.size)⟩
    · have hc1 : (c == 0) = false := by simpa using hc
      have HG : Hid (r = (l, false)) := by show _ = _; rw [HF.out, hc1]; rfl
      clear HF hc
      go_enter Tryz.func85, Tryz.ntmps85
      go_wp2_with fail
      refine hP.mono ?_
      rintro e w1 ⟨v1, rfl, hown1, hb1⟩
      obtain ⟨A, cc, hv⟩ := own_shape hown1
      subst hv
      have hF1 := hF _ w1 (PairsV.of_own hown1)
      clear hP hF
      dsimp only at *
      go_wp2_with fail
      refine hF1.mono ?_
      rintro e w2 ⟨rfl, hb2⟩
      have hown2 := own_below hown1 hb2
      clear hF1 hown1
      go_wp2
      go_ret2
      exact ⟨.slice A l.length cc, by rw [HG.out]; rfl, by rw [HG.out]; exact hown2, hb1.trans (hb2.mono hb1.size)⟩
  · have HF : Hid (r = ([], false)) := by show _ = _; rw [HR.out, if_pos (by simpa using h0)]
    have h1 : (x != 0) = true := by simpa using h0
    have h2 : (x == 0) = false := by simpa using h0
    clear HR h0
    go_enter Tryz.func85, Tryz.ntmps85
    go_wp2_with fail
    refine hP.mono ?_
    rintro e w1 ⟨v1, rfl, hown1, hb1⟩
    obtain ⟨A, cc, hv⟩ := own_shape hown1
    subst hv
    clear hP hown1
    go_wp2
    go_ret2
    exact ⟨.slice none 0 0, by rw [HF.out]; rfl, by rw [HF.out]; exact World.ownsRow_nil _ _ _ _, hb1⟩

def cmpB (a b : Bs) : Int := if a < b then -1 else if b < a then 1 else 0
end Go.Proofs.YtoopoglkeeoamaaGreatDoor
/- name: Compare. -/
namespace Go.Proofs.YtoopoglkeeoamaaGreatDoor
open Go.RowKit Go.Sort
open Idn (L B Bs drop_L take_L size_L)
end Go.Proofs.YtoopoglkeeoamaaGreatDoor
/- name: Compare. -/
namespace Go.Proofs.YtoopoglkeeoamaaGreatDoor
open Go.RowKit Go.Sort
open Idn (L B Bs drop_L take_L size_L)
end Go.Proofs.YtoopoglkeeoamaaGreatDoor
/- identityref02: decimal, ReadInt, Int; identityref01: Order. -/
namespace Go.Proofs.YtoopoglkeeoamaaGreatDoor
open Go.RowKit Go.Sort
open Idn (L B Bs drop_L take_L size_L)
end Go.Proofs.YtoopoglkeeoamaaGreatDoor
/- identityref05: special, next, value. -/
namespace Go.Proofs.YtoopoglkeeoamaaGreatDoor
open Go.RowKit Go.Sort
open Idn (L B Bs drop_L take_L size_L)
end Go.Proofs.YtoopoglkeeoamaaGreatDoor
/- identityref05: component. -/
namespace Go.Proofs.YtoopoglkeeoamaaGreatDoor
open Go.RowKit Go.Sort
open Idn (L B Bs drop_L take_L size_L)
end Go.Proofs.YtoopoglkeeoamaaGreatDoor
/- identityref05: Parse. -/
namespace Go.Proofs.YtoopoglkeeoamaaGreatDoor
open Go.RowKit Go.Sort
open Idn (L B Bs drop_L take_L size_L)
end Go.Proofs.YtoopoglkeeoamaaGreatDoor
/- identityref05: Format of components that are whole. -/
namespace Go.Proofs.YtoopoglkeeoamaaGreatDoor
open Go.RowKit Go.Sort
open Idn (L B Bs drop_L take_L size_L)
section
variable {P : Program} {w : World} {ops : Array Oper} {rest : List Oper} {o : Oper} {a : Act} {Q : Exit → Act → World → Prop}
end
end Go.Proofs.YtoopoglkeeoamaaGreatDoor
/- identityref05: Clean, Valid, parts, bytes. -/
namespace Go.Proofs.YtoopoglkeeoamaaGreatDoor
open Go.RowKit Go.Sort
open Idn (L B Bs drop_L take_L size_L)
def validN (s : Bs) : Bool := (Idn.cleanN s).2 == 0 && (Idn.cleanN s).1 == s
theorem normal_valid (s : Bs) : (Idn.normal s).2 = validN s := by
  unfold Idn.normal validN
  by_cases h : (Idn.parse s).2 = 0
  · rw [if_neg (by simp [h])]
    unfold Idn.cleanN
    rw [if_neg (by simp [h])]
  · rw [if_pos (by simpa using h)]
    unfold Idn.cleanN
    rw [if_pos (by simpa using h)]
    have : ((Idn.parse s).2 == 0) = false := by simpa using h
    dsimp only
    rw [this]; rfl
end Go.Proofs.YtoopoglkeeoamaaGreatDoor
