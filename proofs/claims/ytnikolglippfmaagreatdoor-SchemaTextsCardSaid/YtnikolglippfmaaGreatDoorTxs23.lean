/- Part 23 of the proof that what Parse reads of a class's description is what the text says, and what it writes Parse reads back: the package variables hold what the program lays; nothing else is asked. -/
import Derived.Test.YtnikolglippfmaaGreatDoorTxs07
import Derived.Test.YtnikolglippfmaaGreatDoorTxs15
import Derived.Test.YtnikolglippfmaaGreatDoorTxs21
/- name: value, trimmed, component. -/
namespace Go.Proofs.YtnikolglippfmaaGreatDoor
open Go.RowKit Go.Sort
open Idn (L B Bs drop_L take_L size_L)
/-- a value and whether it is one -/
def valR (l : Bs) : Bs × Bool := match Idn.val l with | none => ([], false) | some v => (v, true)
theorem valR_none {l : Bs} (h : Idn.val l = none) : valR l = ([], false) := by rw [valR, h]
theorem valR_some {l v : Bs} (h : Idn.val l = some v) : valR l = (v, true) := by rw [valR, h]
theorem val_len : ∀ l v, Idn.val l = some v → v.length ≤ l.length := by
  intro l
  induction l using Idn.val.induct with
  | case1 => intro v h; simp [Idn.val] at h; subst h; simp
  | case2 x hx => intro v h; simp [Idn.val, hx] at h
  | case3 x hx => intro v h; simp [Idn.val, hx] at h; subst h; simp
  | case4 x y l hx hy ih =>
    intro v h
    rw [Idn.val, if_pos hx, if_pos hy] at h
    obtain ⟨u, hu, rfl⟩ := Option.map_eq_some_iff.1 h
    have := ih u hu; simp; omega
  | case5 x y l hx hy => intro v h; rw [Idn.val, if_pos hx, if_neg hy] at h; cases h
  | case6 x y l hx hs => intro v h; rw [Idn.val, if_neg hx, if_pos hs] at h; cases h
  | case7 x y l hx hs ih =>
    intro v h
    rw [Idn.val, if_neg hx, if_neg hs] at h
    obtain ⟨u, hu, rfl⟩ := Option.map_eq_some_iff.1 h
    have := ih u hu; simp at this ⊢; omega
theorem val_plain (s : ByteArray) (k : Nat) (hk : k < s.size) (h92 : ¬ s[k] = 92) (hs : Idn.special s[k] = false) : Idn.val ((L s).drop k) = (Idn.val ((L s).drop (k + 1))).map (s[k] :: ·) := by
  by_cases h2 : k + 1 < s.size
  · rw [drop_two s k h2, Idn.val, if_neg (by simpa using h92), if_neg (by simp [hs]), drop_L s (k + 1) h2]
  · rw [drop_last s k hk h2, drop_end s (k + 1) h2]
    simp [Idn.val, hs]
theorem val_spec (s : ByteArray) (k : Nat) (hk : k < s.size) (h92 : ¬ s[k] = 92) (hs : Idn.special s[k] = true) : Idn.val ((L s).drop k) = none := by
  by_cases h2 : k + 1 < s.size
  · rw [drop_two s k h2, Idn.val, if_neg (by simpa using h92), if_pos hs]
  · rw [drop_last s k hk h2]; simp [Idn.val, hs]
theorem val_esc (s : ByteArray) (k : Nat) (h2 : k + 1 < s.size) (h92 : s[k] = 92) (hs : Idn.special s[k + 1] = true) : Idn.val ((L s).drop k) = (Idn.val ((L s).drop (k + 2))).map (s[k + 1] :: ·) := by
  rw [drop_two s k h2, Idn.val, if_pos (by simpa using h92), if_pos hs]
theorem val_bad (s : ByteArray) (k : Nat) (h2 : k + 1 < s.size) (h92 : s[k] = 92) (hs : Idn.special s[k + 1] = false) : Idn.val ((L s).drop k) = none := by
  rw [drop_two s k h2, Idn.val, if_pos (by simpa using h92), if_neg (by simp [hs])]
theorem val_end (s : ByteArray) (k : Nat) (hk : k < s.size) (h2 : ¬ k + 1 < s.size) (h92 : s[k] = 92) : Idn.val ((L s).drop k) = none := by
  rw [drop_last s k hk h2, h92]; rfl
theorem map_app {a : Bs} {c : UInt8} {o : Option Bs} : (o.map (c :: ·)).map (a ++ ·) = o.map ((a ++ [c]) ++ ·) := by
  cases o <;> simp
theorem bytes_one (a : Bs) (c : UInt8) : Lib.byteCells (a ++ [c]) = Lib.byteCells a ++ [bc c] := by rw [byteCells_app]; rfl

set_option maxHeartbeats 1000000 in
set_option maxRecDepth 100000 in
theorem nm_value_any (s : ByteArray) (w : World) (hs : s.size ≤ 1000000000) :
    Calls Tryz.prog 212 #[.string s] w fun e w' => e = .returned (.tuple #[.string (B (valR (L s)).1), .bool (valR (L s)).2]) ∧ Below w.heap.size w w' := by
  have hB0 := Bld.new w
  generalize hr : valR (L s) = r
  have HR := Lib.hid hr
  clear hr
  go_enter Tryz.func212, Tryz.ntmps212
  go_wp2
  go_loopw [5] (fun i wr => ∃ (k : Nat) (acc : Bs), k ≤ s.size ∧ i = .int .i64 k ∧ Below w.heap.size w wr ∧ Bld w.heap.size w.heap.size (Lib.byteCells acc) wr ∧ Hid (Idn.val (L s) = (Idn.val ((L s).drop k)).map (acc ++ ·)) ∧ acc.length ≤ k) (fun i _ => s.size - (intOf i).toNat)
  case atStart => exact ⟨0, [], Nat.zero_le _, rfl, (Below.refl _ _).alloc (Nat.le_refl _) _, hB0, by show _ = _; simp, Nat.le_refl _⟩
  case round =>
    obtain ⟨k, acc, hk, rfl, hb, hB, hinv, hal⟩ := hrel
    clear hB0
    have hWB := fun c => writeByte_any w.heap.size w.heap.size (Lib.byteCells acc) c wr hB (by rw [byteCells_len]; omega) hb.size
    by_cases hlt : k < s.size
    · by_cases h92 : s[k] = 92
      · have e2 : ((s[k].toNat : Int) == 92) = true := by rw [h92]; rfl
        by_cases h2 : k + 1 < s.size
        · have hne : (((k : Int) + 1) == (s.size : Int)) = false := by rw [beq_eq_false_iff_ne]; omega
          have hSp := special_any s[k + 1] wr
          cases hsp : Idn.special s[k + 1]
          · have hvb := val_bad s k h2 h92 hsp
            rw [hsp] at hSp
            have HF : Hid (r = ([], false)) := by show _ = _; rw [← HR.out]; exact valR_none (by rw [hinv.out, hvb]; rfl)
            clear hvb hinv hsp h92
            go_wp2_with (go_at_call 176; refine hSp.mono ?_; rintro e w1 ⟨rfl, rfl⟩)
            go_ret2
            exact ⟨by rw [HF.out]; rfl, hb⟩
          · have hvb := val_esc s k h2 h92 hsp
            rw [hsp] at hSp
            have HF : Hid (Idn.val (L s) = (Idn.val ((L s).drop (k + 2))).map ((acc ++ [s[k + 1]]) ++ ·)) := by show _ = _; rw [hinv.out, hvb, map_app]
            have hW1 := hWB s[k + 1]
            clear hvb hinv hsp h92 hWB hB
            go_wp2_with (first | (go_at_call 176; refine hSp.mono ?_; rintro e w1 ⟨rfl, rfl⟩) | (go_at_call 175; refine hW1.mono ?_; rintro e w1 ⟨rfl, hB1, hb1, _⟩))
            go_roundw
            case rel => exact ⟨k + 2, acc ++ [s[k + 1]], by omega, by go_num, hb.trans hb1, by rw [bytes_one]; exact hB1, HF, by simp; omega⟩
            case measure => simp [intOf]; omega
        · have hne : (((k : Int) + 1) == (s.size : Int)) = true := by rw [beq_iff_eq]; omega
          have hvb := val_end s k hlt h2 h92
          have HF : Hid (r = ([], false)) := by show _ = _; rw [← HR.out]; exact valR_none (by rw [hinv.out, hvb]; rfl)
          clear hvb hinv h92
          go_wp2
          go_ret2
          exact ⟨by rw [HF.out]; rfl, hb⟩
      · have e2 : ((s[k].toNat : Int) == 92) = false := byte_not (d := 92) h92
        have hSp := special_any s[k] wr
        cases hsp : Idn.special s[k]
        · have hvb := val_plain s k hlt h92 hsp
          rw [hsp] at hSp
          have HF : Hid (Idn.val (L s) = (Idn.val ((L s).drop (k + 1))).map ((acc ++ [s[k]]) ++ ·)) := by show _ = _; rw [hinv.out, hvb, map_app]
          have hW1 := hWB s[k]
          clear hvb hinv hsp h92 hWB hB
          go_wp2_with (first | (go_at_call 176; refine hSp.mono ?_; rintro e w1 ⟨rfl, rfl⟩) | (go_at_call 175; refine hW1.mono ?_; rintro e w1 ⟨rfl, hB1, hb1, _⟩))
          go_roundw
          case rel => exact ⟨k + 1, acc ++ [s[k]], by omega, by go_num, hb.trans hb1, by rw [bytes_one]; exact hB1, HF, by simp; omega⟩
          case measure => simp [intOf]; omega
        · have hvb := val_spec s k hlt h92 hsp
          rw [hsp] at hSp
          have HF : Hid (r = ([], false)) := by show _ = _; rw [← HR.out]; exact valR_none (by rw [hinv.out, hvb]; rfl)
          clear hvb hinv hsp h92
          go_wp2_with (go_at_call 176; refine hSp.mono ?_; rintro e w1 ⟨rfl, rfl⟩)
          go_ret2
          exact ⟨by rw [HF.out]; rfl, hb⟩
    · have hStr := Tryz.Builder_String_any_k w.heap.size w.heap.size acc wr hB hb.size
      have HF : Hid (r = (acc, true)) := by show _ = _; rw [← HR.out]; exact valR_some (by rw [hinv.out, drop_end s k hlt]; simp [Idn.val])
      clear hWB hinv
      go_wp2_with fail
      refine hStr.mono ?_
      rintro e w4 ⟨rfl, _, hb4, _⟩
      go_wp2
      go_ret2
      exact ⟨by rw [HF.out]; rfl, hb.trans hb4⟩

theorem nm_trimmed_any (s : ByteArray) (w : World) (hs : s.size ≤ 1000000000) :
    Calls Tryz.prog 213 #[.string s] w fun e w' => e = .returned (.string (B (Idn.trim (L s)))) ∧ Below w.heap.size w w' := by
  have h := fun W => trim_any s W (by omega)
  go_enter Tryz.func213, Tryz.ntmps213
  go_wp2_with fail
  refine (h _).mono ?_
  rintro e w1 ⟨rfl, hb1⟩
  go_wp2
  go_ret
  exact ⟨rfl, hb1⟩

def prV (p : Bs × Bs) : Value := .agg #[.string (B p.1), .string (B p.2)]
set_option maxHeartbeats 1000000 in
set_option maxRecDepth 100000 in
theorem component_any (s : ByteArray) (w : World) (hs : s.size ≤ 1000000000) :
    Calls Tryz.prog 173 #[.string s] w fun e w' => e = .returned (.tuple #[prV (Idn.component (L s)).1, .int .i64 (Idn.component (L s)).2]) ∧ Below w.heap.size w w' := by
  generalize hr : Idn.component (L s) = r
  have HR := Lib.hid hr
  clear hr
  have hI := fun W => index_any s 61 W (by omega)
  cases hx : Idn.idx 61 (L s) with
  | none =>
    rw [idxI_none hx] at hI
    have HF : Hid (r = (([], []), 4)) := by show _ = _; rw [← HR.out, Idn.component, hx]
    clear hx
    go_enter Tryz.func173, Tryz.ntmps173
    go_wp2_with fail
    with_reducible refine gen1 (R := fun W => Calls Tryz.prog 211 _ W _) ?_
    intro W hbW hszW hc1 hf1
    have r0 := hc1 0 _ rfl
    have r1 := hc1 1 _ rfl
    have f0 := hf1 0
    have f1 := hf1 1
    clear hc1 hf1
    refine (hI W).mono ?_
    rintro e w1 ⟨rfl, rfl⟩
    clear hI
    go_wp2
    exact bodyPost_ret (v := .tuple #[.agg #[.string ⟨#[]⟩, .string ⟨#[]⟩], .int .i64 4]) (by simp [results, Tryz.results173, go_sem, r0, r1, f0, f1]) rfl ⟨by rw [HF.out]; rfl, (hbW.setCell (by simp) _).setCell (by simp) _⟩
  | some i =>
    rw [idxI_some hx] at hI
    have hi := Idn.idx_lt _ _ _ hx
    rw [← size_L] at hi
    have hiI : ¬ ((i : Int) < 0) := by omega
    have HF : Hid (r = if (valR (Idn.trim ((L s).drop (i + 1)))).2 = false then (([], []), 4) else if Idn.name (Idn.trim ((L s).take i)) = false then (([], []), 5) else if Idn.clean (valR (Idn.trim ((L s).drop (i + 1)))).1 = false then (([], []), 8) else ((Idn.trim ((L s).take i), (valR (Idn.trim ((L s).drop (i + 1)))).1), 0)) := by
      show _ = _
      rw [← HR.out, Idn.component, hx]
      dsimp only
      unfold valR
      cases Idn.val (Idn.trim ((L s).drop (i + 1))) with
      | none => rfl
      | some v => simp
    clear hx HR
    have hT1 := fun W => nm_trimmed_any (s.extract (i + 1) s.size) W (by simp; omega)
    rw [extract_drop, Idn.L_B] at hT1
    have hl1 := Idn.length_trim ((L s).drop (i + 1))
    have hl2 := Idn.length_trim ((L s).take i)
    rw [List.length_drop] at hl1
    rw [List.length_take] at hl2
    rw [size_L] at hs
    have hV := fun W => nm_value_any (B (Idn.trim ((L s).drop (i + 1)))) W (by rw [Idn.size_B]; omega)
    rw [Idn.L_B] at hV
    have hT2 := fun W => trim_any (s.extract 0 i) W (by simp; rw [size_L]; omega)
    rw [extract_take, Idn.L_B] at hT2
    have hvl : (valR (Idn.trim ((L s).drop (i + 1)))).1.length ≤ 1000000000 := by
      unfold valR
      split
      · simp
      · rename_i v hv
        have := val_len _ _ hv
        dsimp only; omega
    rw [← size_L] at hs
    have hN := fun W => name_any (B (Idn.trim ((L s).take i))) W (by rw [Idn.size_B]; omega)
    rw [Idn.L_B] at hN
    generalize valR (Idn.trim ((L s).drop (i + 1))) = vr at *
    obtain ⟨v, ok⟩ := vr
    dsimp only at hV HF hvl
    have hCl := fun W => clean_any (B v) W (by rw [Idn.size_B]; omega)
    rw [Idn.L_B] at hCl
    generalize Idn.trim ((L s).take i) = ky at *
    generalize Idn.trim ((L s).drop (i + 1)) = tv at *
    generalize Idn.name ky = nb at *
    generalize Idn.clean v = cb at *
    clear hl1 hl2 hvl
    go_enter Tryz.func173, Tryz.ntmps173
    go_wp2_with fail
    with_reducible refine gen1 (R := fun W => Calls Tryz.prog 211 _ W _) ?_
    intro W hbW hszW hc1 hf1
    have r0 := hc1 0 _ rfl
    have r1 := hc1 1 _ rfl
    have f0 := hf1 0
    have f1 := hf1 1
    have hlt : w.heap.size < W.heap.size := by omega
    clear hc1 hf1
    refine (hI W).mono ?_
    rintro e w1 ⟨rfl, rfl⟩
    clear hI
    go_wp2_with fail
    rw [extract_drop]
    refine (hT1 _).mono ?_
    rintro e w1 ⟨rfl, hb1⟩
    clear hT1
    go_wp2_with fail
    refine (hV _).mono ?_
    rintro e w2 ⟨rfl, hb2⟩
    clear hV
    go_wp2_with fail
    rw [extract_take]
    refine (hT2 _).mono ?_
    rintro e w3 ⟨rfl, hb3⟩
    clear hT2
    have hb13 := hb1.trans ((hb2.trans (hb3.mono hb2.size)).mono hb1.size)
    have hbw3 := hbW.trans (hb13.mono hbW.size)
    replace r0 := cell_later hb13 r0
    replace r1 := cell_later hb13 r1
    replace f0 := frozen_later hb13 f0 hlt
    replace f1 := frozen_later hb13 f1 hlt
    have hlt3 : w.heap.size < w3.heap.size := Nat.lt_of_lt_of_le hlt hb13.size
    go_upto_block 0 with fail
    with_reducible refine gen1 (R := fun W => Code.wp Tryz.prog _ _ _ W) ?_
    intro W4 hbW4 hszW4 hc4 _
    have p0 := hc4 0 _ rfl
    have p1 := hc4 1 _ rfl
    clear hc4
    have hbw4 := hbw3.trans (hbW4.mono hbw3.size)
    replace r0 := cell_later hbW4 r0
    replace r1 := cell_later hbW4 r1
    replace f0 := frozen_later hbW4 f0 hlt3
    replace f1 := frozen_later hbW4 f1 hlt3
    have hlt4 : w.heap.size < W4.heap.size := by omega
    cases ok
    · have HG : Hid (r = (([], []), 4)) := by show _ = _; rw [HF.out, if_pos rfl]
      clear HF
      go_wp2
      exact bodyPost_ret (v := .tuple #[.agg #[.string ⟨#[]⟩, .string ⟨#[]⟩], .int .i64 4]) (by simp [results, Tryz.results173, go_sem, r0, r1, f0, f1]) rfl ⟨by rw [HG.out]; rfl, (hbw4.setCell (by simp) _).setCell (by simp) _⟩
    · go_wp2_with fail
      refine (hN W4).mono ?_
      rintro e w5 ⟨rfl, rfl⟩
      clear hN
      cases nb
      · have HG : Hid (r = (([], []), 5)) := by show _ = _; rw [HF.out, if_neg (by simp), if_pos rfl]
        clear HF
        go_wp2
        exact bodyPost_ret (v := .tuple #[.agg #[.string ⟨#[]⟩, .string ⟨#[]⟩], .int .i64 5]) (by simp [results, Tryz.results173, go_sem, r0, r1, f0, f1]) rfl ⟨by rw [HG.out]; rfl, (hbw4.setCell (by simp) _).setCell (by simp) _⟩
      · go_wp2_with fail
        refine (hCl _).mono ?_
        rintro e w6 ⟨rfl, hb6⟩
        clear hCl
        have hbw6 := hbw4.trans (hb6.mono hbw4.size)
        replace r0 := cell_later hb6 r0
        replace r1 := cell_later hb6 r1
        replace f0 := frozen_later hb6 f0 hlt4
        replace f1 := frozen_later hb6 f1 hlt4
        replace p0 := cell_later hb6 p0
        replace p1 := cell_later hb6 p1
        cases cb
        · have HG : Hid (r = (([], []), 8)) := by show _ = _; rw [HF.out, if_neg (by simp), if_neg (by simp), if_pos rfl]
          clear HF
          go_wp2
          exact bodyPost_ret (v := .tuple #[.agg #[.string ⟨#[]⟩, .string ⟨#[]⟩], .int .i64 8]) (by simp [results, Tryz.results173, go_sem, r0, r1, f0, f1]) rfl ⟨by rw [HG.out]; rfl, (hbw6.setCell (by simp) _).setCell (by simp) _⟩
        · have HG : Hid (r = ((ky, v), 0)) := by show _ = _; rw [HF.out, if_neg (by simp), if_neg (by simp), if_neg (by simp)]
          clear HF
          go_wp2
          exact bodyPost_ret (v := .tuple #[.agg #[.string (B ky), .string (B v)], .int .i64 0]) (by simp [results, Tryz.results173, go_sem, r0, r1, f0, f1]) rfl ⟨by rw [HG.out]; rfl, (hbw6.setCell (by simp) _).setCell (by simp) _⟩
end Go.Proofs.YtnikolglippfmaaGreatDoor
/- name: Parse. -/
namespace Go.Proofs.YtnikolglippfmaaGreatDoor
open Go.RowKit Go.Sort
open Idn (L B Bs drop_L take_L size_L)
def prRow (l : List Idn.Pr) : List Value := l.flatMap fun p => [sv p.1, sv p.2]
theorem prRow_len (l : List Idn.Pr) : (prRow l).length = l.length * 2 := by
  induction l with
  | nil => rfl
  | cons p l ih => unfold prRow at *; simp only [List.flatMap_cons, List.length_append, ih, List.length_cons, List.length_nil]; omega
theorem prRow_at (l : List Idn.Pr) : ∀ (i : Nat) (p : Idn.Pr), l[i]? = some p → (prRow l)[i * 2]? = some (sv p.1) ∧ (prRow l)[i * 2 + 1]? = some (sv p.2) := by
  induction l with
  | nil => intro i p h; simp at h
  | cons q l ih =>
    intro i p h
    cases i with
    | zero => simp at h; subst h; exact ⟨rfl, rfl⟩
    | succ i =>
      have h1 := ih i p (by simpa using h)
      have e : prRow (q :: l) = sv q.1 :: sv q.2 :: prRow l := rfl
      rw [e]
      refine ⟨?_, ?_⟩
      · rw [show (i + 1) * 2 = i * 2 + 2 by omega]; simpa using h1.1
      · rw [show (i + 1) * 2 + 1 = (i * 2 + 1) + 2 by omega]; simpa using h1.2
theorem PairsV.of_own {w : World} {base : Nat} {v : Value} {l : List Idn.Pr} {e : TypeId} (h : w.ownsRow base e 2 v l.length (prRow l)) : PairsV w w.heap.size v l :=
  SlV.own h fun i x hx => ⟨[sv x.1, sv x.2], rfl, rfl, fun j u hu => by
    have h1 := prRow_at l i x hx
    match j, hu with
    | 0, hu => simp at hu; subst hu; exact h1.1
    | 1, hu => simp at hu; subst hu; exact h1.2⟩
/-- fresh pairs and an error, handed back -/
def RetP (w : World) (r : List Idn.Pr × Int) (e : Ending) (w' : World) : Prop :=
  ∃ v, e = .returned (.tuple #[v, .int .i64 r.2]) ∧ w'.ownsRow w.heap.size 124 2 v r.1.length (prRow r.1) ∧ Below w.heap.size w w'
theorem info_pair : (Tryz.prog.info? 124).map (fun i => (i.zero, i.size, i.bytes)) = some (some (.agg #[.string ⟨#[]⟩, .string ⟨#[]⟩]), 2, 32) := by kernel_rfl
theorem onHead_len (p : Bs) : ∀ l : List Bs, (Idn.onHead p l).length ≤ l.length + 1
  | [] => by simp [Idn.onHead]
  | q :: l => by simp [Idn.onHead]
theorem pcs_len (l : Bs) : (Idn.pcs l).length ≤ l.length + 1 ∧ ∀ x ∈ Idn.pcs l, x.length ≤ l.length := by
  have hoh : ∀ (p : Bs) (m : List Bs) (k : Nat), m ≠ [] → (∀ x ∈ m, x.length ≤ k) → (Idn.onHead p m).length ≤ m.length ∧ ∀ x ∈ Idn.onHead p m, x.length ≤ k + p.length := by
    intro p m k hm h
    cases m with
    | nil => exact absurd rfl hm
    | cons q m =>
      refine ⟨by simp [Idn.onHead], fun x hx => ?_⟩
      rcases List.mem_cons.1 hx with rfl | hx
      · have := h q List.mem_cons_self; simp; omega
      · have := h x (List.mem_cons_of_mem _ hx); omega
  have hne : ∀ l, Idn.pcs l ≠ [] := by
    intro l
    rw [Idn.pcs_idx]
    split <;> simp
  induction l using Idn.pcs.induct with
  | case1 => simp [Idn.pcs]
  | case2 x hx => simp [Idn.pcs, hx]
  | case3 x hx => simp [Idn.pcs, hx]
  | case4 x y l hx ih =>
    rw [Idn.pcs, if_pos hx]
    refine ⟨by have := ih.1; simp at this ⊢; omega, fun z hz => ?_⟩
    rcases List.mem_cons.1 hz with rfl | hz
    · simp
    · have := ih.2 z hz; simp at this ⊢; omega
  | case5 x y l hx h92 ih =>
    rw [Idn.pcs, if_neg hx, if_pos h92]
    obtain ⟨h1, h2⟩ := hoh [x, y] (Idn.pcs l) l.length (hne l) ih.2
    exact ⟨by have := ih.1; simp; omega, fun z hz => by have := h2 z hz; simp at this ⊢; omega⟩
  | case6 x y l hx h92 ih =>
    rw [Idn.pcs, if_neg hx, if_neg h92]
    obtain ⟨h1, h2⟩ := hoh [x] (Idn.pcs (y :: l)) (y :: l).length (hne _) ih.2
    exact ⟨by have := ih.1; simp at this ⊢; omega, fun z hz => by have := h2 z hz; simp at this ⊢; omega⟩
/-- components before others -/
def compsK (ps : List Idn.Pr) (r : List Idn.Pr × Int) : List Idn.Pr × Int := if r.2 != 0 then ([], r.2) else (ps ++ r.1, 0)
theorem comps_cons (x : Bs) (m : List Bs) (h : (Idn.component x).2 = 0) : Idn.comps (x :: m) = compsK [(Idn.component x).1] (Idn.comps m) := by
  rw [Idn.comps, if_neg (by simp [h]), compsK]; rfl
theorem compsK_app (ps : List Idn.Pr) (c : Idn.Pr) (r : List Idn.Pr × Int) : compsK ps (compsK [c] r) = compsK (ps ++ [c]) r := by
  unfold compsK
  by_cases h : r.2 = 0
  · simp [h]
  · simp [h]
theorem comps_err (x : Bs) (m : List Bs) (ps : List Idn.Pr) (h : (Idn.component x).2 ≠ 0) : compsK ps (Idn.comps (x :: m)) = ([], (Idn.component x).2) := by
  rw [Idn.comps, if_pos (by simpa using h), compsK]
  simp [h]
theorem comps_zero (r : List Bs) : compsK [] (Idn.comps r) = Idn.comps r := by
  unfold compsK
  cases r with
  | nil => rfl
  | cons x m =>
    by_cases h : (Idn.comps (x :: m)).2 = 0
    · simp [h]; rw [← h]
    · rw [if_pos (by simpa using h)]
      by_cases h2 : (Idn.component x).2 = 0
      · rw [comps_cons x m h2] at h ⊢
        unfold compsK at h ⊢
        by_cases h3 : (Idn.comps m).2 = 0
        · simp [h3] at h
        · simp [h3]
      · rw [Idn.comps, if_pos (by simpa using h2)]

set_option maxHeartbeats 1000000 in
set_option maxRecDepth 100000 in
theorem nm_parse_any (s : ByteArray) (w : World) (hs : s.size ≤ 1000000000) :
    Calls Tryz.prog 131 #[.string s] w (RetP w (Idn.parse (L s))) := by
  generalize hr : Idn.parse (L s) = r
  have HR := Lib.hid hr
  clear hr
  by_cases h0 : L s = []
  · have e0 : s.toList = [] := by rw [toList_L]; exact h0
    have HF : Hid (r = ([], 0)) := by show _ = _; rw [← HR.out, Idn.parse, h0]; rfl
    have he : (s.toList == ([] : List UInt8)) = true := by rw [e0]; rfl
    clear h0
    go_enter Tryz.func131, Tryz.ntmps131
    go_wp2
    go_ret2
    exact ⟨.slice none 0 0, by rw [HF.out]; rfl, by rw [HF.out]; exact World.ownsRow_nil _ _ _ _, Below.refl _ _⟩
  · have e0 : ¬ s.toList = [] := by rw [toList_L]; exact h0
    have he : (s.toList == ([] : List UInt8)) = false := by rw [beq_eq_false_iff_ne]; exact e0
    have HF : Hid (r = if (Idn.comps (Idn.pcs (L s))).2 != 0 then ([], (Idn.comps (Idn.pcs (L s))).2) else if (Idn.comps (Idn.pcs (L s))).1.length > 8 then ([], 3) else ((Idn.comps (Idn.pcs (L s))).1, 0)) := by
      show _ = _; rw [← HR.out, Idn.parse, if_neg (by simpa using h0)]
    have hP := fun W => pieces_any s W (by omega)
    obtain ⟨hl1, hl2⟩ := pcs_len (L s)
    rw [← size_L] at hl1 hl2
    generalize Idn.pcs (L s) = l at *
    clear h0 e0 HR
    go_enter Tryz.func131, Tryz.ntmps131
    go_wp2_with fail
    refine (hP _).mono ?_
    rintro e w1 ⟨v1, rfl, hown1, hb1⟩
    have hS := StrsV.of_own hown1
    obtain ⟨A, c, rfl, hc⟩ := SlV.shape hS
    clear hP hown1
    go_wp2
    go_loopw [4, 14] (fun u x wr => ∃ (k : Nat) (ps : List Idn.Pr), k ≤ l.length ∧ x = .int .i64 k ∧ wr.ownsRow w1.heap.size 124 2 u ps.length (prRow ps) ∧ Below w1.heap.size w1 wr ∧ ps.length = k ∧ Hid (Idn.comps l = compsK ps (Idn.comps (l.drop k)))) (fun _ x _ => l.length - (intOf x).toNat)
    case atStart => exact ⟨0, [], Nat.zero_le _, rfl, World.ownsRow_nil _ _ _ _, Below.refl _ _, rfl, by show _ = _; rw [comps_zero]; rfl⟩
    case round =>
      obtain ⟨k, ps, hk, rfl, hown, hb, hpk, hinv⟩ := hrel
      have HPK := Lib.hid hpk
      clear hpk
      by_cases hlt : k < l.length
      · obtain ⟨b, off, rfl, hbl, c0⟩ := StrsV.cell (SlV.keep hS hb) hlt
        have hxl := hl2 l[k] (List.getElem_mem hlt)
        have hC := component_any (B l[k]) wr (by rw [Idn.size_B]; omega)
        rw [Idn.L_B] at hC
        have hd := List.drop_eq_getElem_cons hlt
        have hltI : (k : Int) < (l.length : Int) := by omega
        by_cases h0 : (Idn.component l[k]).2 = 0
        · have HG : Hid (Idn.comps l = compsK (ps ++ [(Idn.component l[k]).1]) (Idn.comps (l.drop (k + 1)))) := by
            show _ = _; rw [hinv.out, hd, comps_cons _ _ h0, compsK_app]
          rw [h0] at hC
          generalize (Idn.component l[k]).1 = pr at *
          clear hd h0 hinv
          unfold prV at hC
          go_wp2_with fail
          refine hC.mono ?_
          rintro e w2 ⟨rfl, hb2⟩
          have hown2 := own_below hown hb2
          have hbw2 := hb.trans (hb2.mono hb.size)
          have ba := (Below.refl w2.heap.size w2).alloc (Nat.le_refl _) (.cells #[.string (B pr.1), .string (B pr.2)] 124)
          have hown3 := own_below hown2 ba
          have hbw3 := hbw2.trans (ba.mono hbw2.size)
          have hs3 := hbw3.size
          have hsza : (w2.alloc (.cells #[.string (B pr.1), .string (B pr.2)] 124)).heap.size = w2.heap.size + 1 := by simp
          have Hsza := Lib.hid hsza
          have hpl : ps.length ≤ 1000000001 := by have := HPK.out; omega
          clear hC hown hown2 ba c0 hsza
          go_wp2_with (at_builtin; refine wpList_push (w2.alloc (.cells #[.string (B pr.1), .string (B pr.2)] 124)) rfl _ _ 120 rfl w1.heap.size 124 (.agg #[.string ⟨#[]⟩, .string ⟨#[]⟩]) 2 32 Tryz.underlying120 info_pair rfl (by decide) _ _ _ hown3 rfl [.string (B pr.1), .string (B pr.2)] (by rw [Hsza.out]; rfl) rfl (by intro u hu; simp at hu; rcases hu with rfl | rfl <;> rfl) (by omega) hs3 ?_ rfl)
          intro v' w4 hown' _ _ hb' _
          clear hown3
          go_wp2
          go_roundw
          case rel =>
            refine ⟨k + 1, ps ++ [pr], by omega, by go_num, ?_, hbw3.trans hb', by simp [HPK.out], HG⟩
            have e : prRow (ps ++ [pr]) = prRow ps ++ [.string (B pr.1), .string (B pr.2)] := by unfold prRow; rw [List.flatMap_append]; rfl
            rw [e, List.length_append]
            exact hown'
          case measure => simp [intOf]; omega
        · have HG : Hid (r = ([], (Idn.component l[k]).2)) := by
            show _ = _; rw [HF.out, hinv.out, hd, comps_err _ _ _ h0]; simp [h0]
          generalize Idn.component l[k] = cr at *
          have h1 : (cr.2 != 0) = true := by simpa using h0
          have h2 : (cr.2 == 0) = false := by simpa using h0
          clear hd hinv h0
          unfold prV at hC
          go_wp2_with fail
          refine hC.mono ?_
          rintro e w2 ⟨rfl, hb2⟩
          have hbw2 := hb1.trans ((hb.trans (hb2.mono hb.size)).mono hb1.size)
          clear hC hown c0
          go_wp2
          go_ret2
          exact ⟨.slice none 0 0, by rw [HG.out]; rfl, by rw [HG.out]; exact World.ownsRow_nil _ _ _ _, hbw2.alloc hbw2.size _⟩
      · have hkl : k = l.length := by omega
        have hltI : ¬ (k : Int) < (l.length : Int) := by omega
        have HG : Hid (r = if 8 < ps.length then ([], 3) else (ps, 0)) := by
          show _ = _
          rw [HF.out, hinv.out, List.drop_eq_nil_of_le (by omega)]
          simp [Idn.comps, compsK]
        obtain ⟨A3, c3, hu⟩ := own_shape hown
        subst hu
        clear hinv
        by_cases h8 : 8 < ps.length
        · have h8' : (8 : Int) < (ps.length : Int) := by omega
          have HH : Hid (r = ([], 3)) := by show _ = _; rw [HG.out, if_pos h8]
          clear h8
          go_wp2
          go_ret2
          exact ⟨.slice none 0 0, by rw [HH.out]; rfl, by rw [HH.out]; exact World.ownsRow_nil _ _ _ _, hb1.trans (hb.mono hb1.size)⟩
        · have h8' : (ps.length : Int) ≤ (8 : Int) := by omega
          have HH : Hid (r = (ps, 0)) := by show _ = _; rw [HG.out, if_neg h8]
          clear h8
          go_wp2
          go_ret2
          exact ⟨.slice A3 ps.length c3, by rw [HH.out]; rfl, by rw [HH.out]; exact own_base hown hb1.size, hb1.trans (hb.mono hb1.size)⟩
end Go.Proofs.YtnikolglippfmaaGreatDoor
