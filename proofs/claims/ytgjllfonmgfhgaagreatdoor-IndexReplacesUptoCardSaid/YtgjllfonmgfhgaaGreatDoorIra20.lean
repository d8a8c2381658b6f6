/- Part 20 of the proof that laws of identitylaw11 return true at every argument within the bound: the package variables hold what the program lays; nothing else is asked. -/
import Derived.Test.YtgjllfonmgfhgaaGreatDoorIra07
import Derived.Test.YtgjllfonmgfhgaaGreatDoorIra09
import Derived.Test.YtgjllfonmgfhgaaGreatDoorIra16
import Derived.Test.YtgjllfonmgfhgaaGreatDoorIra18
import Derived.Test.YtgjllfonmgfhgaaGreatDoorIra19
import Derived.Deep.CutBlock
set_option linter.unusedVariables false
set_option linter.unusedSimpArgs false
/- name: value, trimmed, component. -/
namespace Go.Proofs.YtgjllfonmgfhgaaGreatDoor
open Go.RowKit Go.Sort
open Idn (L B Bs drop_L take_L size_L)
/-- a value and whether it is one -/
def valR (l : Bs) : Bs × Bool := match Idn.val l with | none => ([], false) | some v => (v, true)
theorem valR_none {l : Bs} (h : Idn.val l = none) : valR l = ([], false) := by rw [valR, h]
theorem valR_some {l v : Bs} (h : Idn.val l = some v) : valR l = (v, true) := by rw [valR, h]
theorem val_len : ∀ l v, Idn.val l = some v → v.length ≤ l.length := by
  intro l
  induction l using Idn.val.induct with
  | case1 => intro v h; simp [Idn.val] at h; subst h; simp
  | case2 x hx => intro v h; simp [Idn.val, hx] at h
  | case3 x hx => intro v h; simp [Idn.val, hx] at h; subst h; simp
  | case4 x y l hx hy ih =>
    intro v h
    rw [Idn.val, if_pos hx, if_pos hy] at h
    obtain ⟨u, hu, rfl⟩ := Option.map_eq_some_iff.1 h
    have := ih u hu; simp; omega
  | case5 x y l hx hy => intro v h; rw [Idn.val, if_pos hx, if_neg hy] at h; cases h
  | case6 x y l hx hs => intro v h; rw [Idn.val, if_neg hx, if_pos hs] at h; cases h
  | case7 x y l hx hs ih =>
    intro v h
    rw [Idn.val, if_neg hx, if_neg hs] at h
    obtain ⟨u, hu, rfl⟩ := Option.map_eq_some_iff.1 h
    have := ih u hu; simp at this ⊢; omega
theorem val_plain (s : ByteArray) (k : Nat) (hk : k < s.size) (h92 : ¬ s[k] = 92) (hs : Idn.special s[k] = false) : Idn.val ((L s).drop k) = (Idn.val ((L s).drop (k + 1))).map (s[k] :: ·) := by
  by_cases h2 : k + 1 < s.size
  · rw [drop_two s k h2, Idn.val, if_neg (by simpa using h92), if_neg (by simp [hs]), drop_L s (k + 1) h2]
  · rw [drop_last s k hk h2, drop_end s (k + 1) h2]
    simp [Idn.val, hs]
theorem val_spec (s : ByteArray) (k : Nat) (hk : k < s.size) (h92 : ¬ s[k] = 92) (hs : Idn.special s[k] = true) : Idn.val ((L s).drop k) = none := by
  by_cases h2 : k + 1 < s.size
  · rw [drop_two s k h2, Idn.val, if_neg (by simpa using h92), if_pos hs]
  · rw [drop_last s k hk h2]; simp [Idn.val, hs]
theorem val_esc (s : ByteArray) (k : Nat) (h2 : k + 1 < s.size) (h92 : s[k] = 92) (hs : Idn.special s[k + 1] = true) : Idn.val ((L s).drop k) = (Idn.val ((L s).drop (k + 2))).map (s[k + 1] :: ·) := by
  rw [drop_two s k h2, Idn.val, if_pos (by simpa using h92), if_pos hs]
theorem val_bad (s : ByteArray) (k : Nat) (h2 : k + 1 < s.size) (h92 : s[k] = 92) (hs : Idn.special s[k + 1] = false) : Idn.val ((L s).drop k) = none := by
  rw [drop_two s k h2, Idn.val, if_pos (by simpa using h92), if_neg (by simp [hs])]
theorem val_end (s : ByteArray) (k : Nat) (hk : k < s.size) (h2 : ¬ k + 1 < s.size) (h92 : s[k] = 92) : Idn.val ((L s).drop k) = none := by
  rw [drop_last s k hk h2, h92]; rfl
theorem map_app {a : Bs} {c : UInt8} {o : Option Bs} : (o.map (c :: ·)).map (a ++ ·) = o.map ((a ++ [c]) ++ ·) := by
  cases o <;> simp
theorem bytes_one (a : Bs) (c : UInt8) : Lib.byteCells (a ++ [c]) = Lib.byteCells a ++ [bc c] := by rw [byteCells_app]; rfl

set_option maxHeartbeats 1000000 in
set_option maxRecDepth 100000 in
theorem nm_value_any (s : ByteArray) (w : World) (hs : s.size ≤ 1000000000) :
    Calls Tryz.prog 226 #[.string s] w fun e w' => e = .returned (.tuple #[.string (B (valR (L s)).1), .bool (valR (L s)).2]) ∧ Below w.heap.size w w' := by
  have hB0 := Bld.new w
  generalize hr : valR (L s) = r
  have HR := Lib.hid hr
  clear hr
  go_enter Tryz.func226, Tryz.ntmps226
  go_wp2
  go_loopw [5] (fun i wr => ∃ (k : Nat) (acc : Bs), k ≤ s.size ∧ i = .int .i64 k ∧ Below w.heap.size w wr ∧ Bld w.heap.size w.heap.size (Lib.byteCells acc) wr ∧ Hid (Idn.val (L s) = (Idn.val ((L s).drop k)).map (acc ++ ·)) ∧ acc.length ≤ k) (fun i _ => s.size - (intOf i).toNat)
  case atStart => exact ⟨0, [], Nat.zero_le _, rfl, (Below.refl _ _).alloc (Nat.le_refl _) _, hB0, by show _ = _; simp, Nat.le_refl _⟩
  case round =>
    obtain ⟨k, acc, hk, rfl, hb, hB, hinv, hal⟩ := hrel
    clear hB0
    have hWB := fun c => writeByte_any w.heap.size w.heap.size (Lib.byteCells acc) c wr hB (by rw [byteCells_len]; omega) hb.size
    by_cases hlt : k < s.size
    · by_cases h92 : s[k] = 92
      · have e2 : ((s[k].toNat : Int) == 92) = true := by rw [h92]; rfl
        by_cases h2 : k + 1 < s.size
        · have hne : (((k : Int) + 1) == (s.size : Int)) = false := by rw [beq_eq_false_iff_ne]; omega
          have hSp := special_any s[k + 1] wr
          cases hsp : Idn.special s[k + 1]
          · have hvb := val_bad s k h2 h92 hsp
            rw [hsp] at hSp
            have HF : Hid (r = ([], false)) := by show _ = _; rw [← HR.out]; exact valR_none (by rw [hinv.out, hvb]; rfl)
            clear hvb hinv hsp h92
            go_wp2_with (go_at_call 181; refine hSp.mono ?_; rintro e w1 ⟨rfl, rfl⟩)
            go_ret2
            exact ⟨by rw [HF.out]; rfl, hb⟩
          · have hvb := val_esc s k h2 h92 hsp
            rw [hsp] at hSp
            have HF : Hid (Idn.val (L s) = (Idn.val ((L s).drop (k + 2))).map ((acc ++ [s[k + 1]]) ++ ·)) := by show _ = _; rw [hinv.out, hvb, map_app]
            have hW1 := hWB s[k + 1]
            clear hvb hinv hsp h92 hWB hB
            go_wp2_with (first | (go_at_call 181; refine hSp.mono ?_; rintro e w1 ⟨rfl, rfl⟩) | (go_at_call 179; refine hW1.mono ?_; rintro e w1 ⟨rfl, hB1, hb1, _⟩))
            go_roundw
            case rel => exact ⟨k + 2, acc ++ [s[k + 1]], by omega, by go_num, hb.trans hb1, by rw [bytes_one]; exact hB1, HF, by simp; omega⟩
            case measure => simp [intOf]; omega
        · have hne : (((k : Int) + 1) == (s.size : Int)) = true := by rw [beq_iff_eq]; omega
          have hvb := val_end s k hlt h2 h92
          have HF : Hid (r = ([], false)) := by show _ = _; rw [← HR.out]; exact valR_none (by rw [hinv.out, hvb]; rfl)
          clear hvb hinv h92
          go_wp2
          go_ret2
          exact ⟨by rw [HF.out]; rfl, hb⟩
      · have e2 : ((s[k].toNat : Int) == 92) = false := byte_not (d := 92) h92
        have hSp := special_any s[k] wr
        cases hsp : Idn.special s[k]
        · have hvb := val_plain s k hlt h92 hsp
          rw [hsp] at hSp
          have HF : Hid (Idn.val (L s) = (Idn.val ((L s).drop (k + 1))).map ((acc ++ [s[k]]) ++ ·)) := by show _ = _; rw [hinv.out, hvb, map_app]
          have hW1 := hWB s[k]
          clear hvb hinv hsp h92 hWB hB
          go_wp2_with (first | (go_at_call 181; refine hSp.mono ?_; rintro e w1 ⟨rfl, rfl⟩) | (go_at_call 179; refine hW1.mono ?_; rintro e w1 ⟨rfl, hB1, hb1, _⟩))
          go_roundw
          case rel => exact ⟨k + 1, acc ++ [s[k]], by omega, by go_num, hb.trans hb1, by rw [bytes_one]; exact hB1, HF, by simp; omega⟩
          case measure => simp [intOf]; omega
        · have hvb := val_spec s k hlt h92 hsp
          rw [hsp] at hSp
          have HF : Hid (r = ([], false)) := by show _ = _; rw [← HR.out]; exact valR_none (by rw [hinv.out, hvb]; rfl)
          clear hvb hinv hsp h92
          go_wp2_with (go_at_call 181; refine hSp.mono ?_; rintro e w1 ⟨rfl, rfl⟩)
          go_ret2
          exact ⟨by rw [HF.out]; rfl, hb⟩
    · have hStr := Tryz.Builder_String_any_k w.heap.size w.heap.size acc wr hB hb.size
      have HF : Hid (r = (acc, true)) := by show _ = _; rw [← HR.out]; exact valR_some (by rw [hinv.out, drop_end s k hlt]; simp [Idn.val])
      clear hWB hinv
      go_wp2_with fail
      refine hStr.mono ?_
      rintro e w4 ⟨rfl, _, hb4, _⟩
      go_wp2
      go_ret2
      exact ⟨by rw [HF.out]; rfl, hb.trans hb4⟩

theorem nm_trimmed_any (s : ByteArray) (w : World) (hs : s.size ≤ 1000000000) :
    Calls Tryz.prog 227 #[.string s] w fun e w' => e = .returned (.string (B (Idn.trim (L s)))) ∧ Below w.heap.size w w' := by
  have h := fun W => trim_any s W (by omega)
  go_enter Tryz.func227, Tryz.ntmps227
  go_wp2_with fail
  refine (h _).mono ?_
  rintro e w1 ⟨rfl, hb1⟩
  go_wp2
  go_ret
  exact ⟨rfl, hb1⟩

def prV (p : Bs × Bs) : Value := .agg #[.string (B p.1), .string (B p.2)]
set_option maxHeartbeats 1000000 in
set_option maxRecDepth 100000 in
theorem component_any (s : ByteArray) (w : World) (hs : s.size ≤ 1000000000) :
    Calls Tryz.prog 177 #[.string s] w fun e w' => e = .returned (.tuple #[prV (Idn.component (L s)).1, .int .i64 (Idn.component (L s)).2]) ∧ Below w.heap.size w w' := by
  generalize hr : Idn.component (L s) = r
  have HR := Lib.hid hr
  clear hr
  have hI := fun W => index_any s 61 W (by omega)
  cases hx : Idn.idx 61 (L s) with
  | none =>
    rw [idxI_none hx] at hI
    have HF : Hid (r = (([], []), 4)) := by show _ = _; rw [← HR.out, Idn.component, hx]
    clear hx
    go_enter Tryz.func177, Tryz.ntmps177
    go_wp2_with fail
    with_reducible refine gen1 (R := fun W => Calls Tryz.prog 225 _ W _) ?_
    intro W hbW hszW hc1 hf1
    have r0 := hc1 0 _ rfl
    have r1 := hc1 1 _ rfl
    have f0 := hf1 0
    have f1 := hf1 1
    clear hc1 hf1
    refine (hI W).mono ?_
    rintro e w1 ⟨rfl, rfl⟩
    clear hI
    go_wp2
    exact bodyPost_ret (v := .tuple #[.agg #[.string ⟨#[]⟩, .string ⟨#[]⟩], .int .i64 4]) (by simp [results, Tryz.results177, go_sem, r0, r1, f0, f1]) rfl ⟨by rw [HF.out]; rfl, (hbW.setCell (by simp) _).setCell (by simp) _⟩
  | some i =>
    rw [idxI_some hx] at hI
    have hi := Idn.idx_lt _ _ _ hx
    rw [← size_L] at hi
    have hiI : ¬ ((i : Int) < 0) := by omega
    have HF : Hid (r = if (valR (Idn.trim ((L s).drop (i + 1)))).2 = false then (([], []), 4) else if Idn.name (Idn.trim ((L s).take i)) = false then (([], []), 5) else if Idn.clean (valR (Idn.trim ((L s).drop (i + 1)))).1 = false then (([], []), 8) else ((Idn.trim ((L s).take i), (valR (Idn.trim ((L s).drop (i + 1)))).1), 0)) := by
      show _ = _
      rw [← HR.out, Idn.component, hx]
      dsimp only
      unfold valR
      cases Idn.val (Idn.trim ((L s).drop (i + 1))) with
      | none => rfl
      | some v => simp
    clear hx HR
    have hT1 := fun W => nm_trimmed_any (s.extract (i + 1) s.size) W (by simp; omega)
    rw [extract_drop, Idn.L_B] at hT1
    have hl1 := Idn.length_trim ((L s).drop (i + 1))
    have hl2 := Idn.length_trim ((L s).take i)
    rw [List.length_drop] at hl1
    rw [List.length_take] at hl2
    rw [size_L] at hs
    have hV := fun W => nm_value_any (B (Idn.trim ((L s).drop (i + 1)))) W (by rw [Idn.size_B]; omega)
    rw [Idn.L_B] at hV
    have hT2 := fun W => trim_any (s.extract 0 i) W (by simp; rw [size_L]; omega)
    rw [extract_take, Idn.L_B] at hT2
    have hvl : (valR (Idn.trim ((L s).drop (i + 1)))).1.length ≤ 1000000000 := by
      unfold valR
      split
      · simp
      · rename_i v hv
        have := val_len _ _ hv
        dsimp only; omega
    rw [← size_L] at hs
    have hN := fun W => name_any (B (Idn.trim ((L s).take i))) W (by rw [Idn.size_B]; omega)
    rw [Idn.L_B] at hN
    generalize valR (Idn.trim ((L s).drop (i + 1))) = vr at *
    obtain ⟨v, ok⟩ := vr
    dsimp only at hV HF hvl
    have hCl := fun W => clean_any (B v) W (by rw [Idn.size_B]; omega)
    rw [Idn.L_B] at hCl
    generalize Idn.trim ((L s).take i) = ky at *
    generalize Idn.trim ((L s).drop (i + 1)) = tv at *
    generalize Idn.name ky = nb at *
    generalize Idn.clean v = cb at *
    clear hl1 hl2 hvl
    go_enter Tryz.func177, Tryz.ntmps177
    go_wp2_with fail
    with_reducible refine gen1 (R := fun W => Calls Tryz.prog 225 _ W _) ?_
    intro W hbW hszW hc1 hf1
    have r0 := hc1 0 _ rfl
    have r1 := hc1 1 _ rfl
    have f0 := hf1 0
    have f1 := hf1 1
    have hlt : w.heap.size < W.heap.size := by omega
    clear hc1 hf1
    refine (hI W).mono ?_
    rintro e w1 ⟨rfl, rfl⟩
    clear hI
    go_wp2_with fail
    rw [extract_drop]
    refine (hT1 _).mono ?_
    rintro e w1 ⟨rfl, hb1⟩
    clear hT1
    go_wp2_with fail
    refine (hV _).mono ?_
    rintro e w2 ⟨rfl, hb2⟩
    clear hV
    go_wp2_with fail
    rw [extract_take]
    refine (hT2 _).mono ?_
    rintro e w3 ⟨rfl, hb3⟩
    clear hT2
    have hb13 := hb1.trans ((hb2.trans (hb3.mono hb2.size)).mono hb1.size)
    have hbw3 := hbW.trans (hb13.mono hbW.size)
    replace r0 := cell_later hb13 r0
    replace r1 := cell_later hb13 r1
    replace f0 := frozen_later hb13 f0 hlt
    replace f1 := frozen_later hb13 f1 hlt
    have hlt3 : w.heap.size < w3.heap.size := Nat.lt_of_lt_of_le hlt hb13.size
    go_upto_block 0 with fail
    with_reducible refine gen1 (R := fun W => Code.wp Tryz.prog _ _ _ W) ?_
    intro W4 hbW4 hszW4 hc4 _
    have p0 := hc4 0 _ rfl
    have p1 := hc4 1 _ rfl
    clear hc4
    have hbw4 := hbw3.trans (hbW4.mono hbw3.size)
    replace r0 := cell_later hbW4 r0
    replace r1 := cell_later hbW4 r1
    replace f0 := frozen_later hbW4 f0 hlt3
    replace f1 := frozen_later hbW4 f1 hlt3
    have hlt4 : w.heap.size < W4.heap.size := by omega
    cases ok
    · have HG : Hid (r = (([], []), 4)) := by show _ = _; rw [HF.out, if_pos rfl]
      clear HF
      go_wp2
      exact bodyPost_ret (v := .tuple #[.agg #[.string ⟨#[]⟩, .string ⟨#[]⟩], .int .i64 4]) (by simp [results, Tryz.results177, go_sem, r0, r1, f0, f1]) rfl ⟨by rw [HG.out]; rfl, (hbw4.setCell (by simp) _).setCell (by simp) _⟩
    · go_wp2_with fail
      refine (hN W4).mono ?_
      rintro e w5 ⟨rfl, rfl⟩
      clear hN
      cases nb
      · have HG : Hid (r = (([], []), 5)) := by show _ = _; rw [HF.out, if_neg (by simp), if_pos rfl]
        clear HF
        go_wp2
        exact bodyPost_ret (v := .tuple #[.agg #[.string ⟨#[]⟩, .string ⟨#[]⟩], .int .i64 5]) (by simp [results, Tryz.results177, go_sem, r0, r1, f0, f1]) rfl ⟨by rw [HG.out]; rfl, (hbw4.setCell (by simp) _).setCell (by simp) _⟩
      · go_wp2_with fail
        refine (hCl _).mono ?_
        rintro e w6 ⟨rfl, hb6⟩
        clear hCl
        have hbw6 := hbw4.trans (hb6.mono hbw4.size)
        replace r0 := cell_later hb6 r0
        replace r1 := cell_later hb6 r1
        replace f0 := frozen_later hb6 f0 hlt4
        replace f1 := frozen_later hb6 f1 hlt4
        replace p0 := cell_later hb6 p0
        replace p1 := cell_later hb6 p1
        cases cb
        · have HG : Hid (r = (([], []), 8)) := by show _ = _; rw [HF.out, if_neg (by simp), if_neg (by simp), if_pos rfl]
          clear HF
          go_wp2
          exact bodyPost_ret (v := .tuple #[.agg #[.string ⟨#[]⟩, .string ⟨#[]⟩], .int .i64 8]) (by simp [results, Tryz.results177, go_sem, r0, r1, f0, f1]) rfl ⟨by rw [HG.out]; rfl, (hbw6.setCell (by simp) _).setCell (by simp) _⟩
        · have HG : Hid (r = ((ky, v), 0)) := by show _ = _; rw [HF.out, if_neg (by simp), if_neg (by simp), if_neg (by simp)]
          clear HF
          go_wp2
          exact bodyPost_ret (v := .tuple #[.agg #[.string (B ky), .string (B v)], .int .i64 0]) (by simp [results, Tryz.results177, go_sem, r0, r1, f0, f1]) rfl ⟨by rw [HG.out]; rfl, (hbw6.setCell (by simp) _).setCell (by simp) _⟩
end Go.Proofs.YtgjllfonmgfhgaaGreatDoor
/- name: Parse. -/
namespace Go.Proofs.YtgjllfonmgfhgaaGreatDoor
open Go.RowKit Go.Sort
open Idn (L B Bs drop_L take_L size_L)
def prRow (l : List Idn.Pr) : List Value := l.flatMap fun p => [sv p.1, sv p.2]
theorem prRow_at (l : List Idn.Pr) : ∀ (i : Nat) (p : Idn.Pr), l[i]? = some p → (prRow l)[i * 2]? = some (sv p.1) ∧ (prRow l)[i * 2 + 1]? = some (sv p.2) := by
  induction l with
  | nil => intro i p h; simp at h
  | cons q l ih =>
    intro i p h
    cases i with
    | zero => simp at h; subst h; exact ⟨rfl, rfl⟩
    | succ i =>
      have h1 := ih i p (by simpa using h)
      have e : prRow (q :: l) = sv q.1 :: sv q.2 :: prRow l := rfl
      rw [e]
      refine ⟨?_, ?_⟩
      · rw [show (i + 1) * 2 = i * 2 + 2 by omega]; simpa using h1.1
      · rw [show (i + 1) * 2 + 1 = (i * 2 + 1) + 2 by omega]; simpa using h1.2
theorem PairsV.of_own {w : World} {base : Nat} {v : Value} {l : List Idn.Pr} {e : TypeId} (h : w.ownsRow base e 2 v l.length (prRow l)) : PairsV w w.heap.size v l :=
  SlV.own h fun i x hx => ⟨[sv x.1, sv x.2], rfl, rfl, fun j u hu => by
    have h1 := prRow_at l i x hx
    match j, hu with
    | 0, hu => simp at hu; subst hu; exact h1.1
    | 1, hu => simp at hu; subst hu; exact h1.2⟩
/-- fresh pairs and an error, handed back -/
def RetP (w : World) (r : List Idn.Pr × Int) (e : Ending) (w' : World) : Prop :=
  ∃ v, e = .returned (.tuple #[v, .int .i64 r.2]) ∧ w'.ownsRow w.heap.size 124 2 v r.1.length (prRow r.1) ∧ Below w.heap.size w w'
theorem info_pair : (Tryz.prog.info? 124).map (fun i => (i.zero, i.size, i.bytes)) = some (some (.agg #[.string ⟨#[]⟩, .string ⟨#[]⟩]), 2, 32) := by kernel_rfl
theorem pcs_len (l : Bs) : (Idn.pcs l).length ≤ l.length + 1 ∧ ∀ x ∈ Idn.pcs l, x.length ≤ l.length := by
  have hoh : ∀ (p : Bs) (m : List Bs) (k : Nat), m ≠ [] → (∀ x ∈ m, x.length ≤ k) → (Idn.onHead p m).length ≤ m.length ∧ ∀ x ∈ Idn.onHead p m, x.length ≤ k + p.length := by
    intro p m k hm h
    cases m with
    | nil => exact absurd rfl hm
    | cons q m =>
      refine ⟨by simp [Idn.onHead], fun x hx => ?_⟩
      rcases List.mem_cons.1 hx with rfl | hx
      · have := h q List.mem_cons_self; simp; omega
      · have := h x (List.mem_cons_of_mem _ hx); omega
  have hne : ∀ l, Idn.pcs l ≠ [] := by
    intro l
    rw [Idn.pcs_idx]
    split <;> simp
  induction l using Idn.pcs.induct with
  | case1 => simp [Idn.pcs]
  | case2 x hx => simp [Idn.pcs, hx]
  | case3 x hx => simp [Idn.pcs, hx]
  | case4 x y l hx ih =>
    rw [Idn.pcs, if_pos hx]
    refine ⟨by have := ih.1; simp at this ⊢; omega, fun z hz => ?_⟩
    rcases List.mem_cons.1 hz with rfl | hz
    · simp
    · have := ih.2 z hz; simp at this ⊢; omega
  | case5 x y l hx h92 ih =>
    rw [Idn.pcs, if_neg hx, if_pos h92]
    obtain ⟨h1, h2⟩ := hoh [x, y] (Idn.pcs l) l.length (hne l) ih.2
    exact ⟨by have := ih.1; simp; omega, fun z hz => by have := h2 z hz; simp at this ⊢; omega⟩
  | case6 x y l hx h92 ih =>
    rw [Idn.pcs, if_neg hx, if_neg h92]
    obtain ⟨h1, h2⟩ := hoh [x] (Idn.pcs (y :: l)) (y :: l).length (hne _) ih.2
    exact ⟨by have := ih.1; simp at this ⊢; omega, fun z hz => by have := h2 z hz; simp at this ⊢; omega⟩
/-- components before others -/
def compsK (ps : List Idn.Pr) (r : List Idn.Pr × Int) : List Idn.Pr × Int := if r.2 != 0 then ([], r.2) else (ps ++ r.1, 0)
theorem comps_cons (x : Bs) (m : List Bs) (h : (Idn.component x).2 = 0) : Idn.comps (x :: m) = compsK [(Idn.component x).1] (Idn.comps m) := by
  rw [Idn.comps, if_neg (by simp [h]), compsK]; rfl
theorem compsK_app (ps : List Idn.Pr) (c : Idn.Pr) (r : List Idn.Pr × Int) : compsK ps (compsK [c] r) = compsK (ps ++ [c]) r := by
  unfold compsK
  by_cases h : r.2 = 0
  · simp [h]
  · simp [h]
theorem comps_err (x : Bs) (m : List Bs) (ps : List Idn.Pr) (h : (Idn.component x).2 ≠ 0) : compsK ps (Idn.comps (x :: m)) = ([], (Idn.component x).2) := by
  rw [Idn.comps, if_pos (by simpa using h), compsK]
  simp [h]
theorem comps_zero (r : List Bs) : compsK [] (Idn.comps r) = Idn.comps r := by
  unfold compsK
  cases r with
  | nil => rfl
  | cons x m =>
    by_cases h : (Idn.comps (x :: m)).2 = 0
    · simp [h]; rw [← h]
    · rw [if_pos (by simpa using h)]
      by_cases h2 : (Idn.component x).2 = 0
      · rw [comps_cons x m h2] at h ⊢
        unfold compsK at h ⊢
        by_cases h3 : (Idn.comps m).2 = 0
        · simp [h3] at h
        · simp [h3]
      · rw [Idn.comps, if_pos (by simpa using h2)]

set_option maxHeartbeats 1000000 in
set_option maxRecDepth 100000 in
theorem nm_parse_any (s : ByteArray) (w : World) (hs : s.size ≤ 1000000000) :
    Calls Tryz.prog 135 #[.string s] w (RetP w (Idn.parse (L s))) := by
  generalize hr : Idn.parse (L s) = r
  have HR := Lib.hid hr
  clear hr
  by_cases h0 : L s = []
  · have e0 : s.toList = [] := by rw [toList_L]; exact h0
    have HF : Hid (r = ([], 0)) := by show _ = _; rw [← HR.out, Idn.parse, h0]; rfl
    have he : (s.toList == ([] : List UInt8)) = true := by rw [e0]; rfl
    clear h0
    go_enter Tryz.func135, Tryz.ntmps135
    go_wp2
    go_ret2
    exact ⟨.slice none 0 0, by rw [HF.out]; rfl, by rw [HF.out]; exact World.ownsRow_nil _ _ _ _, Below.refl _ _⟩
  · have e0 : ¬ s.toList = [] := by rw [toList_L]; exact h0
    have he : (s.toList == ([] : List UInt8)) = false := by rw [beq_eq_false_iff_ne]; exact e0
    have HF : Hid (r = if (Idn.comps (Idn.pcs (L s))).2 != 0 then ([], (Idn.comps (Idn.pcs (L s))).2) else if (Idn.comps (Idn.pcs (L s))).1.length > 8 then ([], 3) else ((Idn.comps (Idn.pcs (L s))).1, 0)) := by
      show _ = _; rw [← HR.out, Idn.parse, if_neg (by simpa using h0)]
    have hP := fun W => pieces_any s W (by omega)
    obtain ⟨hl1, hl2⟩ := pcs_len (L s)
    rw [← size_L] at hl1 hl2
    generalize Idn.pcs (L s) = l at *
    clear h0 e0 HR
    go_enter Tryz.func135, Tryz.ntmps135
    go_wp2_with fail
    refine (hP _).mono ?_
    rintro e w1 ⟨v1, rfl, hown1, hb1⟩
    have hS := StrsV.of_own hown1
    obtain ⟨A, c, rfl, hc⟩ := SlV.shape hS
    clear hP hown1
    go_wp2
    go_loopw [4, 14] (fun u x wr => ∃ (k : Nat) (ps : List Idn.Pr), k ≤ l.length ∧ x = .int .i64 k ∧ wr.ownsRow w1.heap.size 124 2 u ps.length (prRow ps) ∧ Below w1.heap.size w1 wr ∧ ps.length = k ∧ Hid (Idn.comps l = compsK ps (Idn.comps (l.drop k)))) (fun _ x _ => l.length - (intOf x).toNat)
    case atStart => exact ⟨0, [], Nat.zero_le _, rfl, World.ownsRow_nil _ _ _ _, Below.refl _ _, rfl, by show _ = _; rw [comps_zero]; rfl⟩
    case round =>
      obtain ⟨k, ps, hk, rfl, hown, hb, hpk, hinv⟩ := hrel
      have HPK := Lib.hid hpk
      clear hpk
      by_cases hlt : k < l.length
      · obtain ⟨b, off, rfl, hbl, c0⟩ := StrsV.cell (SlV.keep hS hb) hlt
        have hxl := hl2 l[k] (List.getElem_mem hlt)
        have hC := component_any (B l[k]) wr (by rw [Idn.size_B]; omega)
        rw [Idn.L_B] at hC
        have hd := List.drop_eq_getElem_cons hlt
        have hltI : (k : Int) < (l.length : Int) := by omega
        by_cases h0 : (Idn.component l[k]).2 = 0
        · have HG : Hid (Idn.comps l = compsK (ps ++ [(Idn.component l[k]).1]) (Idn.comps (l.drop (k + 1)))) := by
            show _ = _; rw [hinv.out, hd, comps_cons _ _ h0, compsK_app]
          rw [h0] at hC
          generalize (Idn.component l[k]).1 = pr at *
          clear hd h0 hinv
          unfold prV at hC
          go_wp2_with fail
          refine hC.mono ?_
          rintro e w2 ⟨rfl, hb2⟩
          have hown2 := own_below hown hb2
          have hbw2 := hb.trans (hb2.mono hb.size)
          have ba := (Below.refl w2.heap.size w2).alloc (Nat.le_refl _) (.cells #[.string (B pr.1), .string (B pr.2)] 124)
          have hown3 := own_below hown2 ba
          have hbw3 := hbw2.trans (ba.mono hbw2.size)
          have hs3 := hbw3.size
          have hsza : (w2.alloc (.cells #[.string (B pr.1), .string (B pr.2)] 124)).heap.size = w2.heap.size + 1 := by simp
          have Hsza := Lib.hid hsza
          have hpl : ps.length ≤ 1000000001 := by have := HPK.out; omega
          clear hC hown hown2 ba c0 hsza
          go_wp2_with (at_builtin; refine wpList_push (w2.alloc (.cells #[.string (B pr.1), .string (B pr.2)] 124)) rfl _ _ 120 rfl w1.heap.size 124 (.agg #[.string ⟨#[]⟩, .string ⟨#[]⟩]) 2 32 Tryz.underlying120 info_pair rfl (by decide) _ _ _ hown3 rfl [.string (B pr.1), .string (B pr.2)] (by rw [Hsza.out]; rfl) rfl (by intro u hu; simp at hu; rcases hu with rfl | rfl <;> rfl) (by omega) hs3 ?_ rfl)
          intro v' w4 hown' _ _ hb' _
          clear hown3
          go_wp2
          go_roundw
          case rel =>
            refine ⟨k + 1, ps ++ [pr], by omega, by go_num, ?_, hbw3.trans hb', by simp [HPK.out], HG⟩
            have e : prRow (ps ++ [pr]) = prRow ps ++ [.string (B pr.1), .string (B pr.2)] := by unfold prRow; rw [List.flatMap_append]; rfl
            rw [e, List.length_append]
            exact hown'
          case measure => simp [intOf]; omega
        · have HG : Hid (r = ([], (Idn.component l[k]).2)) := by
            show _ = _; rw [HF.out, hinv.out, hd, comps_err _ _ _ h0]; simp [h0]
          generalize Idn.component l[k] = cr at *
          have h1 : (cr.2 != 0) = true := by simpa using h0
          have h2 : (cr.2 == 0) = false := by simpa using h0
          clear hd hinv h0
          unfold prV at hC
          go_wp2_with fail
          refine hC.mono ?_
          rintro e w2 ⟨rfl, hb2⟩
          have hbw2 := hb1.trans ((hb.trans (hb2.mono hb.size)).mono hb1.size)
          clear hC hown c0
          go_wp2
          go_ret2
          exact ⟨.slice none 0 0, by rw [HG.out]; rfl, by rw [HG.out]; exact World.ownsRow_nil _ _ _ _, hbw2.alloc hbw2.size _⟩
      · have hkl : k = l.length := by omega
        have hltI : ¬ (k : Int) < (l.length : Int) := by omega
        have HG : Hid (r = if 8 < ps.length then ([], 3) else (ps, 0)) := by
          show _ = _
          rw [HF.out, hinv.out, List.drop_eq_nil_of_le (by omega)]
          simp [Idn.comps, compsK]
        obtain ⟨A3, c3, hu⟩ := own_shape hown
        subst hu
        clear hinv
        by_cases h8 : 8 < ps.length
        · have h8' : (8 : Int) < (ps.length : Int) := by omega
          have HH : Hid (r = ([], 3)) := by show _ = _; rw [HG.out, if_pos h8]
          clear h8
          go_wp2
          go_ret2
          exact ⟨.slice none 0 0, by rw [HH.out]; rfl, by rw [HH.out]; exact World.ownsRow_nil _ _ _ _, hb1.trans (hb.mono hb1.size)⟩
        · have h8' : (ps.length : Int) ≤ (8 : Int) := by omega
          have HH : Hid (r = (ps, 0)) := by show _ = _; rw [HG.out, if_neg h8]
          clear h8
          go_wp2
          go_ret2
          exact ⟨.slice A3 ps.length c3, by rw [HH.out]; rfl, by rw [HH.out]; exact own_base hown hb1.size, hb1.trans (hb.mono hb1.size)⟩
end Go.Proofs.YtgjllfonmgfhgaaGreatDoor
/- name: Format, Clean. -/
namespace Go.Proofs.YtgjllfonmgfhgaaGreatDoor
open Go.RowKit Go.Sort
open Idn (L B Bs drop_L take_L size_L)
theorem fmtR_snoc (p : Idn.Pr) : ∀ l : List Idn.Pr, Idn.fmtR (l ++ [p]) = Idn.fmtR l ++ (44 :: Idn.fmt1 p)
  | [] => by simp [Idn.fmtR]
  | q :: l => by simp [Idn.fmtR, fmtR_snoc p l]
theorem fmtJ_snoc (p : Idn.Pr) (l : List Idn.Pr) : Idn.fmtJ (l ++ [p]) = Idn.fmtJ l ++ ((if l.length = 0 then [] else [44]) ++ Idn.fmt1 p) := by
  cases l with
  | nil => simp [Idn.fmtJ, Idn.fmtR]
  | cons q l => simp [Idn.fmtJ, fmtR_snoc]
/-- the text of the first k components -/
def fmtK (l : List Idn.Pr) (k : Nat) : Bs := Idn.fmtJ (l.take k)
theorem fmtK_succ (l : List Idn.Pr) (k : Nat) (hk : k < l.length) : fmtK l (k + 1) = fmtK l k ++ ((if k = 0 then [] else [44]) ++ Idn.fmt1 l[k]) := by
  unfold fmtK
  rw [List.take_succ_eq_append_getElem hk, fmtJ_snoc, List.length_take, Nat.min_eq_left (Nat.le_of_lt hk)]
theorem escV_len (l : Bs) : (Idn.escV l).length ≤ 2 * l.length := by
  induction l with
  | nil => simp [Idn.escV]
  | cons c l ih =>
    unfold Idn.escV at *
    rw [List.flatMap_cons, List.length_append, List.length_cons]
    have h3 : ((if Idn.special c then [92, c] else [c]) : Bs).length ≤ 2 := by split <;> simp
    omega
theorem escV_snoc (l : Bs) (c : UInt8) : Idn.escV (l ++ [c]) = Idn.escV l ++ (if Idn.special c then [92, c] else [c]) := by
  unfold Idn.escV; rw [List.flatMap_append]; simp
theorem clean_len {l : Bs} (h : Idn.clean l = true) : l.length ≤ 256 := by
  unfold Idn.clean at h
  simp only [Bool.and_eq_true, decide_eq_true_eq] at h
  exact h.2.2.1
theorem name_len {l : Bs} (h : Idn.name l = true) : l.length ≤ 64 := by
  unfold Idn.name Idn.made at h
  simp only [Bool.and_eq_true, decide_eq_true_eq] at h
  exact h.1.2.2
theorem check1_all : ∀ l : List Idn.Pr, Idn.check1 l = 0 → ∀ p ∈ l, p.1.length ≤ 64 ∧ p.2.length ≤ 256
  | [], _, p, hp => by simp at hp
  | q :: l, h, p, hp => by
    unfold Idn.check1 at h
    split at h
    · cases h
    · split at h
      · cases h
      · rename_i h1 h2
        rcases List.mem_cons.1 hp with rfl | hp
        · exact ⟨name_len (by simpa using h1), clean_len (by simpa using h2)⟩
        · exact check1_all l h p hp
theorem check_zero {l : List Idn.Pr} (h : Idn.check l = 0) : l.length ≤ 8 ∧ ∀ p ∈ l, p.1.length ≤ 64 ∧ p.2.length ≤ 256 := by
  unfold Idn.check at h
  split at h
  · rename_i h1; simp [h] at h1
  · split at h
    · cases h
    · rename_i h1 h2
      exact ⟨by omega, check1_all l (by simpa using h1)⟩
theorem fmt1_len {p : Idn.Pr} (h : p.1.length ≤ 64 ∧ p.2.length ≤ 256) : (Idn.fmt1 p).length ≤ 600 := by
  unfold Idn.fmt1
  have h1 := Idn.length_fold p.2
  have h2 := escV_len (Idn.fold p.2)
  simp only [List.length_append, List.length_cons, Idn.length_lower]
  omega
theorem fmtK_len {l : List Idn.Pr} (h : ∀ p ∈ l, p.1.length ≤ 64 ∧ p.2.length ≤ 256) : ∀ k, k ≤ l.length → (fmtK l k).length ≤ k * 601
  | 0, _ => by simp [fmtK, Idn.fmtJ]
  | k + 1, hk => by
    have ih := fmtK_len h k (by omega)
    have h1 := fmt1_len (h l[k] (List.getElem_mem (by omega)))
    rw [fmtK_succ l k (by omega), List.length_append, List.length_append]
    split <;> simp <;> omega
theorem bytes_str (a : Bs) (s : ByteArray) : Lib.byteCells a ++ Lib.strCells s = Lib.byteCells (a ++ L s) := by
  rw [byteCells_app, ← strCells_B]; rfl

set_option maxHeartbeats 2000000 in
set_option maxRecDepth 100000 in
theorem nm_format_any (v : Value) (l : List Idn.Pr) (w : World) (hv : PairsV w w.heap.size v l) (hs : PSm l) (hl : l.length ≤ 1000000000000) :
    Calls Tryz.prog 136 #[v] w fun e w' => e = .returned (.tuple #[.string (B (Idn.format l).1), .int .i64 (Idn.format l).2]) ∧ Below w.heap.size w w' := by
  have hC := check_any v l w hv hs hl
  generalize hr : Idn.format l = r
  have HR := Lib.hid hr
  clear hr
  obtain ⟨A, c, rfl, hc⟩ := SlV.shape hv
  by_cases h0 : Idn.check l = 0
  case neg =>
    have HF : Hid (r = ([], Idn.check l)) := by show _ = _; rw [← HR.out, Idn.format, if_pos (by simpa using h0)]
    generalize Idn.check l = x at *
    have h1 : (x != 0) = true := by simpa using h0
    have h2 : (x == 0) = false := by simpa using h0
    clear h0
    go_enter Tryz.func136, Tryz.ntmps136
    go_wp2_with fail
    refine hC.mono ?_
    rintro e w1 ⟨rfl, hb1⟩
    clear hC
    go_wp2
    go_ret2
    exact ⟨by rw [HF.out]; rfl, hb1⟩
  case pos =>
  have HF : Hid (r = (fmtK l l.length, 0)) := by
    show _ = _; rw [← HR.out, Idn.format, if_neg (by simp [h0]), fmtK, List.take_length]
  obtain ⟨hl8, hsm⟩ := check_zero h0
  have hkl := fmtK_len hsm
  rw [h0] at hC
  clear h0 HR hs
  go_enter Tryz.func136, Tryz.ntmps136
  go_wp2_with fail
  refine hC.mono ?_
  rintro e w1 ⟨rfl, hb1⟩
  have hP := SlV.keep hv hb1
  have hB0 := Bld.new w1
  clear hC hv
  go_wp2
  go_loopw [17] (fun x wr => ∃ k : Nat, k ≤ l.length ∧ x = .int .i64 k ∧ Below w1.heap.size w1 wr ∧ Bld w1.heap.size w1.heap.size (Lib.byteCells (fmtK l k)) wr ∧ w1.heap.size < wr.heap.size) (fun x _ => l.length - (intOf x).toNat)
  case atStart => exact ⟨0, Nat.zero_le _, rfl, (Below.refl _ _).alloc (Nat.le_refl _) _, hB0, by simp⟩
  case round =>
    obtain ⟨k, hk, rfl, hb, hB, hblt⟩ := hrel
    clear hB0
    by_cases hlt : k < l.length
    · obtain ⟨b, off, rfl, hbl, c0, c1⟩ := PairsV.cell (SlV.keep hP (hb.mono hb1.size)) hlt
      have hk6 := hkl k hk
      have hpm := hsm l[k] (List.getElem_mem hlt)
      have hf1 := fmt1_len hpm
      have hsuc := fmtK_succ l k hlt
      have hLo := fun W => lower_any (B l[k].1) W (by rw [Idn.size_B]; omega)
      have hFo := fun W => fold_any (B l[k].2) W (by rw [Idn.size_B]; omega)
      rw [Idn.L_B] at hLo hFo
      have hfl := Idn.length_fold l[k].2
      have hll := Idn.length_lower l[k].1
      have hft : Idn.fmt1 l[k] = Idn.lower l[k].1 ++ 61 :: Idn.escV (Idn.fold l[k].2) := rfl
      have hltI : (k : Int) < (l.length : Int) := by omega
      have ba := (Below.refl wr.heap.size wr).alloc (Nat.le_refl _) (.cells #[.string (B l[k].1), .string (B l[k].2)] 124)
      have hB1 := hB.keep ba
      have hba := hb.trans (ba.mono hb.size)
      rw [hft] at hsuc
      have HS := Lib.hid hsuc
      generalize Idn.lower l[k].1 = lo at *
      generalize Idn.fold l[k].2 = fo at *
      generalize hm : fmtK l k = m at *
      have hM : ∃ m2 : Bs, m2 = (if k = 0 then m else m ++ [44]) := ⟨_, rfl⟩
      obtain ⟨m2, hm2⟩ := hM
      have HM2 := Lib.hid hm2
      have HM := Lib.hid hm
      have hm2l : m2.length ≤ k * 601 + 1 := by
        rw [hm2]
        split
        · omega
        · rw [List.length_append]; simp; omega
      have HL2 : Hid (fmtK l (k + 1) = (m2 ++ lo) ++ 61 :: Idn.escV fo) := by
        show _ = _
        rw [HS.out, HM2.out]
        split <;> simp
      clear hsuc hm2 hm hft hB HF ba
      have hk8 : k * 601 ≤ 8 * 601 := Nat.mul_le_mul_right _ (by omega)
      obtain ⟨t, rfl⟩ : ∃ t, fo = L t := ⟨B fo, rfl⟩
      rw [Idn.B_L] at hFo
      have hml : m.length ≤ 8 * 601 := by omega
      have hm2l8 : m2.length ≤ 8 * 601 + 1 := by omega
      have hts : t.size ≤ 256 := by rw [size_L]; omega
      have hlo : lo.length ≤ 64 := by omega
      clear hk6 hm2l hf1 hpm hfl hll
      go_upto_if 23 with fail
      go_cut [] (fun wx => Below w1.heap.size w1 wx ∧ Bld w1.heap.size w1.heap.size (Lib.byteCells m2) wx ∧ wx.heap[wr.heap.size]? = some (.cells #[.string (B l[k].1), .string (B l[k].2)] 124 (0, 0)))
      case first =>
        have pB : (wr.alloc (.cells #[.string (B l[k].1), .string (B l[k].2)] 124)).heap[wr.heap.size]? = some (.cells #[.string (B l[k].1), .string (B l[k].2)] 124 (0, 0)) := heap_alloc_new wr _
        by_cases hk0 : k = 0
        · have hkI : ¬ ((0 : Int) < (k : Int)) := by omega
          have HE : Hid (m2 = m) := by show _ = _; rw [HM2.out, if_pos hk0]
          clear hk0
          go_wp2
          go_meet
          exact ⟨hba, by rw [HE.out]; exact hB1, pB⟩
        · have hkI : (0 : Int) < (k : Int) := by omega
          have HE : Hid (m2 = m ++ [44]) := by show _ = _; rw [HM2.out, if_neg hk0]
          have hWB := writeByte_any w1.heap.size w1.heap.size (Lib.byteCells m) 44 _ hB1 (by rw [byteCells_len]; omega) hba.size
          clear hk0
          have PB := Lib.hid pB
          clear pB
          go_wp2_with fail
          refine hWB.mono ?_
          rintro e w2 ⟨rfl, hB2, hb2, hk2⟩
          clear hWB
          go_wp2
          go_meet
          exact ⟨hba.trans hb2, by rw [HE.out, bytes_one]; exact hB2, hk2 _ _ PB.out (fun e => by injection e with e; omega) (fun c fz e => by injection e with _ e _; exact absurd e (by decide))⟩
      case rest =>
        obtain ⟨hbc, hBc, pB⟩ := hcut
        have p0 : wc.cell? ⟨wr.heap.size, 0, none⟩ = some (.string (B l[k].1)) := by rw [Lib.cell_of_heap pB]; rfl
        have PB := Lib.hid pB
        clear hB1 hba pB
        go_wp2_with fail
        refine (hLo _).mono ?_
        rintro e w2 ⟨rfl, hb2⟩
        have hbw2 := hbc.trans (hb2.mono hbc.size)
        have hWS := writeString_any w1.heap.size w1.heap.size (Lib.byteCells m2) (B lo) w2 (hBc.keep hb2) (by rw [byteCells_len, Idn.size_B]; omega) hbw2.size
        rw [bytes_str, Idn.L_B] at hWS
        have PB2 := Lib.hid ((hb2.block _ (Array.getElem?_eq_some_iff.1 PB.out).1).trans PB.out)
        clear hLo hBc p0
        go_wp2_with fail
        refine hWS.mono ?_
        rintro e w3 ⟨rfl, hB3, hb3, hk3⟩
        have hbw3 := hbw2.trans hb3
        have PB3 := Lib.hid (hk3 _ _ PB2.out (fun e => by injection e with e; omega) (fun c fz e => by injection e with _ e _; exact absurd e (by decide)))
        have hWB := writeByte_any w1.heap.size w1.heap.size (Lib.byteCells (m2 ++ lo)) 61 w3 hB3 (by rw [byteCells_len, List.length_append]; omega) hbw3.size
        clear hWS
        go_wp2_with fail
        refine hWB.mono ?_
        rintro e w4 ⟨rfl, hB4, hb4, hk4⟩
        have hbw4 := hbw3.trans hb4
        have PB4 := Lib.hid (hk4 _ _ PB3.out (fun e => by injection e with e; omega) (fun c fz e => by injection e with _ e _; exact absurd e (by decide)))
        have p1 : w4.cell? ⟨wr.heap.size, 1, none⟩ = some (.string (B l[k].2)) := by rw [Lib.cell_of_heap PB4.out]; rfl
        rw [← bytes_one] at hB4
        clear hWB
        go_wp2_with fail
        refine (hFo _).mono ?_
        rintro e w5 ⟨rfl, hb5⟩
        have hbw5 := hbw4.trans (hb5.mono hbw4.size)
        have hB5 := hB4.keep hb5
        have hw15 : w1.heap.size < w5.heap.size := by have := (Array.getElem?_eq_some_iff.1 PB4.out).1; have := hb5.size; omega
        clear hFo p1 hB3 hB4
        go_wp2
        go_loopw [35] (fun y wx => ∃ j : Nat, j ≤ t.size ∧ y = .int .i64 j ∧ Below w1.heap.size w1 wx ∧ Bld w1.heap.size w1.heap.size (Lib.byteCells ((m2 ++ lo ++ [61]) ++ Idn.escV ((L t).take j))) wx ∧ w5.heap.size ≤ wx.heap.size) (fun y _ => t.size - (intOf y).toNat)
        case atStart => exact ⟨0, Nat.zero_le _, rfl, hbw5, by simpa [Idn.escV] using hB5, Nat.le_refl _⟩
        case round =>
          obtain ⟨j, hj, rfl, hbj, hBj, hszj⟩ := hrel
          clear hB5
          have hel := escV_len ((L t).take j)
          have htj : ((L t).take j).length ≤ j := List.length_take_le _ _
          have hl9 : ((m2 ++ lo ++ [61]) ++ Idn.escV ((L t).take j)).length ≤ 10000 := by
            simp only [List.length_append, List.length_cons, List.length_nil]; omega
          by_cases hjl : j < t.size
          · have hSp := fun W => special_any t[j] W
            have HS2 : Hid ((m2 ++ lo ++ [61]) ++ Idn.escV ((L t).take (j + 1)) = ((m2 ++ lo ++ [61]) ++ Idn.escV ((L t).take j)) ++ (if Idn.special t[j] then [92, t[j]] else [t[j]])) := by
              show _ = _; rw [take_L t j hjl, escV_snoc]; simp only [List.append_assoc]
            generalize (m2 ++ lo ++ [61]) ++ Idn.escV ((L t).take j) = acc at *
            have hjI : (j : Int) < (t.size : Int) := by omega
            have hWB := fun c W h hs => writeByte_any w1.heap.size w1.heap.size (Lib.byteCells acc) c W h (by rw [byteCells_len]; omega) hs
            cases hsp : Idn.special t[j]
            · have HS3 : Hid ((m2 ++ lo ++ [61]) ++ Idn.escV ((L t).take (j + 1)) = acc ++ [t[j]]) := by show _ = _; rw [HS2.out, hsp]; rfl
              simp only [hsp] at hSp
              have hW1 := hWB t[j] _ hBj hbj.size
              clear hsp HS2 hWB
              go_wp2_with (first | (go_at_call 181; refine (hSp _).mono ?_; rintro e w6 ⟨rfl, rfl⟩) | (go_at_call 179; refine hW1.mono ?_; rintro e w7 ⟨rfl, hB7, hb7, _⟩))
              go_roundw
              case rel => exact ⟨j + 1, by omega, by go_num, hbj.trans hb7, by rw [HS3.out, bytes_one]; exact hB7, by have := hb7.size; omega⟩
              case measure => simp [intOf]; omega
            · have HS3 : Hid ((m2 ++ lo ++ [61]) ++ Idn.escV ((L t).take (j + 1)) = (acc ++ [92]) ++ [t[j]]) := by show _ = _; rw [HS2.out, hsp]; simp
              simp only [hsp] at hSp
              have hW1 := hWB 92 _ hBj hbj.size
              clear hsp HS2 hWB
              go_wp2_with (go_at_call 181; refine (hSp _).mono ?_; rintro e w6 ⟨rfl, rfl⟩)
              refine hW1.mono ?_
              rintro e w7 ⟨rfl, hB7, hb7, _⟩
              have hb17 := hbj.trans hb7
              rw [← bytes_one] at hB7
              have hW2 := writeByte_any w1.heap.size w1.heap.size (Lib.byteCells (acc ++ [92])) t[j] w7 hB7 (by rw [byteCells_len, List.length_append]; simp; omega) hb17.size
              clear hW1
              go_wp2_with fail
              refine hW2.mono ?_
              rintro e w8 ⟨rfl, hB8, hb8, _⟩
              go_wp2
              go_roundw
              case rel => exact ⟨j + 1, by omega, by go_num, hb17.trans hb8, by rw [HS3.out, bytes_one]; exact hB8, by have := hb7.size; have := hb8.size; omega⟩
              case measure => simp [intOf]; omega
          · have hjl' : j = t.size := by omega
            have hjI : ¬ (j : Int) < (t.size : Int) := by omega
            subst hjl'
            rw [List.take_of_length_le (by rw [← size_L]; exact Nat.le_refl _)] at hBj
            go_wp2
            go_roundw
            case rel =>
              refine ⟨k + 1, by omega, by go_num, hbj, ?_, by omega⟩
              rw [HL2.out]
              simpa using hBj
            case measure => simp [intOf]; omega
    · have hkl' : k = l.length := by omega
      have hltI : ¬ (k : Int) < (l.length : Int) := by omega
      subst hkl'
      have hStr := Tryz.Builder_String_any_k w1.heap.size w1.heap.size (fmtK l l.length) wr hB hb.size
      clear hkl
      go_wp2_with fail
      refine hStr.mono ?_
      rintro e w4 ⟨rfl, _, hb4, _⟩
      go_wp2
      go_ret2
      exact ⟨by rw [HF.out]; rfl, hb1.trans ((hb.trans hb4).mono hb1.size)⟩

theorem component_sm (x : Bs) : (Idn.component x).1.1.length ≤ 256 ∧ (Idn.component x).1.2.length ≤ 256 := by
  unfold Idn.component
  split
  · simp
  · split
    · simp
    · split
      · simp
      · split
        · simp
        · rename_i h1 h2
          have a1 := name_len (l := _) (by simpa using h1)
          have a2 := clean_len (l := _) (by simpa using h2)
          dsimp only
          omega
theorem comps_sm : ∀ l : List Bs, (Idn.comps l).1.length ≤ l.length ∧ ∀ p ∈ (Idn.comps l).1, p.1.length ≤ 256 ∧ p.2.length ≤ 256
  | [] => by simp [Idn.comps]
  | x :: l => by
    obtain ⟨h1, h2⟩ := comps_sm l
    unfold Idn.comps
    split
    · simp
    · split
      · simp
      · refine ⟨by simp; omega, fun p hp => ?_⟩
        rcases List.mem_cons.1 hp with rfl | hp
        · exact component_sm x
        · exact h2 p hp
theorem parse_sm (s : Bs) : (Idn.parse s).1.length ≤ 8 ∧ ∀ p ∈ (Idn.parse s).1, p.1.length ≤ 256 ∧ p.2.length ≤ 256 := by
  unfold Idn.parse
  split
  · simp
  · split
    · simp
    · split
      · simp
      · rename_i h
        exact ⟨by dsimp only; omega, (comps_sm _).2⟩
set_option maxHeartbeats 1000000 in
set_option maxRecDepth 100000 in
theorem nm_clean_any (s : ByteArray) (w : World) (hs : s.size ≤ 1000000000) :
    Calls Tryz.prog 166 #[.string s] w fun e w' => e = .returned (.tuple #[.string (B (Idn.cleanN (L s)).1), .int .i64 (Idn.cleanN (L s)).2]) ∧ Below w.heap.size w w' := by
  have hP := nm_parse_any s w hs
  obtain ⟨h8, hsm⟩ := parse_sm (L s)
  generalize hr : Idn.cleanN (L s) = r
  have HR : Hid (r = if (Idn.parse (L s)).2 != 0 then ([], (Idn.parse (L s)).2) else Idn.format (Idn.parse (L s)).1) := hr.symm
  generalize Idn.parse (L s) = pp at *
  obtain ⟨l, x⟩ := pp
  dsimp only at HR h8 hsm
  clear hr
  by_cases h0 : x = 0
  · subst h0
    have HF : Hid (r = Idn.format l) := HR.out
    have hF := fun (v : Value) W (hv : PairsV W W.heap.size v l) => nm_format_any v l W hv (fun p hp => by have := hsm p hp; omega) (by omega)
    generalize Idn.format l = fm at *
    clear HR
    go_enter Tryz.func166, Tryz.ntmps166
    go_wp2_with fail
    refine hP.mono ?_
    rintro e w1 ⟨v1, rfl, hown1, hb1⟩
    obtain ⟨A, c, hv⟩ := own_shape hown1
    subst hv
    have hF1 := hF _ w1 (PairsV.of_own hown1)
    clear hP hF hown1
    dsimp only at *
    go_wp2_with fail
    refine hF1.mono ?_
    rintro e w2 ⟨rfl, hb2⟩
    clear hF1
    go_wp2
    go_ret2
    exact ⟨by rw [HF.out]; rfl, hb1.trans (hb2.mono hb1.size)⟩
  · have HF : Hid (r = ([], x)) := by show _ = _; rw [HR.out, if_pos (by simpa using h0)]
    have h1 : (x != 0) = true := by simpa using h0
    have h2 : (x == 0) = false := by simpa using h0
    clear HR h0
    go_enter Tryz.func166, Tryz.ntmps166
    go_wp2_with fail
    refine hP.mono ?_
    rintro e w1 ⟨v1, rfl, hown1, hb1⟩
    obtain ⟨A, c, hv⟩ := own_shape hown1
    subst hv
    clear hP hown1
    go_wp2
    go_ret2
    exact ⟨by rw [HF.out]; rfl, hb1⟩
end Go.Proofs.YtgjllfonmgfhgaaGreatDoor
/- schema: readType, readNames, readClass. -/
namespace Go.Proofs.YtgjllfonmgfhgaaGreatDoor
open Go.RowKit Go.Sort
open Idn (L B Bs drop_L take_L size_L)
end Go.Proofs.YtgjllfonmgfhgaaGreatDoor
