/- Part 23 of the proof that identitylaw11.IndexCandidates returns true for every data that it may be called with: proof: the package variables hold what the program lays; nothing else is asked. -/
import Derived.Test.YtbkkchhimhlhcaaGreatDoorIcd19
set_option linter.unusedVariables false
set_option linter.unusedSimpArgs false
set_option maxRecDepth 100000
set_option maxHeartbeats 16000000
/- identityref05: special, next, value. -/
namespace Go.Proofs.YtbkkchhimhlhcaaGreatDoor
open Go.RowKit Go.Sort
open Idn (L B Bs drop_L take_L size_L)
theorem r5_special_any (c : UInt8) (w : World) :
  Calls Tryz.prog 223 #[.int .u8 (c.toNat : Int)] w fun e w' => e = .returned (.bool (Idn.special c)) ∧ w = w' := by
 have e1 := byte_eq c 44
 have e2 := byte_eq c 61
 have e3 := byte_eq c 43
 have e4 := byte_eq c 92
 cases h1 : c == 44 <;> cases h2 : c == 61 <;> cases h3 : c == 43
 all_goals
  rw [h1] at e1
  rw [h2] at e2
  rw [h3] at e3
  replace e1 : ((c.toNat : Int) == 44) = _ := e1
  replace e2 : ((c.toNat : Int) == 61) = _ := e2
  replace e3 : ((c.toNat : Int) == 43) = _ := e3
  replace e4 : ((c.toNat : Int) == 92) = _ := e4
  have E4 := Lib.hid e4
  clear e4
  go_enter Tryz.func223, Tryz.ntmps223
  go_wp2
  go_ret
  refine ⟨ret_bool ?_, rfl⟩
  simp [Idn.special, h1, h2, h3]
  try exact E4.out
def nextN (c : UInt8) (l : Bs) : Nat := match Idn.idx c l with | none => l.length | some k => k
theorem nextN_none {c : UInt8} {l : Bs} (h : Idn.idx c l = none) : nextN c l = l.length := by rw [nextN, h]
theorem nextN_some {c : UInt8} {l : Bs} {k : Nat} (h : Idn.idx c l = some k) : nextN c l = k := by rw [nextN, h]
theorem nextN_le (c : UInt8) (l : Bs) : nextN c l ≤ l.length := by
 unfold nextN
 cases h : Idn.idx c l with
 | none => exact Nat.le_refl _
 | some k => exact Nat.le_of_lt (Idn.idx_lt _ _ _ h)
theorem r5_next_any (s : ByteArray) (c : UInt8) (w : World) (hs : s.size ≤ 1000000000000) :
  Calls Tryz.prog 260 #[.string s, .int .u8 (c.toNat : Int)] w fun e w' => e = .returned (.int .i64 (nextN c (L s))) ∧ w = w' := by
 go_enter Tryz.func260, Tryz.ntmps260
 go_wp2
 go_loop [5] (fun i => ∃ k : Nat, k ≤ s.size + 1 ∧ i = .int .i64 k ∧ Hid (Idn.idx c (L s) = (Idn.idx c ((L s).drop k)).map (· + k))) (fun i => s.size + 1 - (intOf i).toNat)
 case atStart => exact ⟨0, Nat.zero_le _, rfl, by show _ = _; simp⟩
 case round =>
  obtain ⟨k, hk, rfl, hinv⟩ := hrel
  by_cases hlt : k < s.size
  ·by_cases hc : s[k] = c
   ·have e1 := byte_is hc
    have HF : Hid (nextN c (L s) = k) := by
     show _ = _
     have : Idn.idx c (L s) = some k := by
      rw [hinv.out]
      by_cases h2 : k + 1 < s.size
      ·rw [drop_two s k h2]; simp [Idn.idx, hc]
      ·rw [drop_last s k hlt h2]; simp [Idn.idx, hc]
     rw [nextN_some this]
    clear hc
    go_wp2
    go_ret
    exact ⟨ret_int (by rw [HF.out]), rfl⟩
   ·have e1 := byte_not hc
    by_cases h92 : s[k] = 92
    ·have e2 : ((s[k].toNat : Int) == 92) = true := by rw [h92]; rfl
     have HF : Hid (Idn.idx c (L s) = (Idn.idx c ((L s).drop (k + 2))).map (· + (k + 2))) := by
      show _ = _
      rw [hinv.out]
      by_cases h2 : k + 1 < s.size
      ·rw [drop_two s k h2, Idn.idx, if_neg (by simpa using hc), if_pos (by simpa using h92)]
       simp [Function.comp_def, Nat.add_assoc, Nat.add_comm 2 k]
      ·rw [drop_last s k hlt h2, drop_end s (k + 2) (by omega)]; simp [Idn.idx, hc]
     clear hc h92
     go_wp2
     go_round
     case rel => exact ⟨k + 2, by omega, by go_num, HF⟩
     case measure => simp [intOf]; omega
    ·have e2 : ((s[k].toNat : Int) == 92) = false := byte_not (d := 92) h92
     have HF : Hid (Idn.idx c (L s) = (Idn.idx c ((L s).drop (k + 1))).map (· + (k + 1))) := by
      show _ = _
      rw [hinv.out]
      by_cases h2 : k + 1 < s.size
      ·rw [drop_two s k h2, Idn.idx, if_neg (by simpa using hc), if_neg (by simpa using h92), drop_L s (k+1) h2]
       simp [Function.comp_def, Nat.add_assoc, Nat.add_comm 1 k]
      ·rw [drop_last s k hlt h2, drop_end s (k + 1) (by omega)]; simp [Idn.idx, hc]
     clear hc h92
     go_wp2
     go_round
     case rel => exact ⟨k + 1, by omega, by go_num, HF⟩
     case measure => simp [intOf]; omega
  ·have HF : Hid (nextN c (L s) = s.size) := by
    show _ = _
    have : Idn.idx c (L s) = none := by rw [hinv.out, drop_end s k hlt]; rfl
    rw [nextN_none this, ← size_L]
   go_wp2
   go_ret
   exact ⟨ret_int (by rw [HF.out]), rfl⟩
def valR5 (l : Bs) : Bs × Bool := match Idn.val5 l with | none => ([], false) | some v => (v, true)
theorem valR5_none {l : Bs} (h : Idn.val5 l = none) : valR5 l = ([], false) := by rw [valR5, h]
theorem valR5_some {l v : Bs} (h : Idn.val5 l = some v) : valR5 l = (v, true) := by rw [valR5, h]
theorem val5_len : ∀ l v, Idn.val5 l = some v → v.length ≤ l.length := by
 intro l
 induction l using Idn.val5.induct with
 | case1 => intro v h; simp [Idn.val5] at h; subst h; simp
 | case2 x hx => intro v h; simp [Idn.val5, hx] at h
 | case3 x hx hs => intro v h; rw [Idn.val5, if_neg hx, if_pos hs] at h; cases h
 | case4 x hx hs => intro v h; rw [Idn.val5, if_neg hx, if_neg hs] at h; injection h with h; subst h; simp
 | case5 x y l hx hy ih =>
  intro v h
  rw [Idn.val5, if_pos hx, if_pos hy] at h
  obtain ⟨u, hu, rfl⟩ := Option.map_eq_some_iff.1 h
  have := ih u hu; simp; omega
 | case6 x y l hx hy => intro v h; rw [Idn.val5, if_pos hx, if_neg hy] at h; cases h
 | case7 x y l hx hs => intro v h; rw [Idn.val5, if_neg hx, if_pos hs] at h; cases h
 | case8 x y l hx hs ih =>
  intro v h
  rw [Idn.val5, if_neg hx, if_neg hs] at h
  obtain ⟨u, hu, rfl⟩ := Option.map_eq_some_iff.1 h
  have := ih u hu; simp at this ⊢; omega
theorem val5_plain (s : ByteArray) (k : Nat) (hk : k < s.size) (h92 : ¬ s[k] = 92) (hs : (s[k] == 61 || s[k] == 43) = false) : Idn.val5 ((L s).drop k) = (Idn.val5 ((L s).drop (k + 1))).map (s[k] :: ·) := by
 by_cases h2 : k + 1 < s.size
 ·rw [drop_two s k h2, Idn.val5, if_neg (by simpa using h92), if_neg (by rw [hs]; decide), drop_L s (k + 1) h2]
 ·rw [drop_last s k hk h2, drop_end s (k + 1) h2, show Idn.val5 [s[k]] = some [s[k]] by rw [Idn.val5, if_neg (by simpa using h92), if_neg (by rw [hs]; decide)]]; rfl
theorem val5_spec (s : ByteArray) (k : Nat) (hk : k < s.size) (h92 : ¬ s[k] = 92) (hs : (s[k] == 61 || s[k] == 43) = true) : Idn.val5 ((L s).drop k) = none := by
 by_cases h2 : k + 1 < s.size
 ·rw [drop_two s k h2, Idn.val5, if_neg (by simpa using h92), if_pos hs]
 ·rw [drop_last s k hk h2, Idn.val5, if_neg (by simpa using h92), if_pos hs]
theorem val5_esc (s : ByteArray) (k : Nat) (h2 : k + 1 < s.size) (h92 : s[k] = 92) (hs : Idn.special s[k + 1] = true) : Idn.val5 ((L s).drop k) = (Idn.val5 ((L s).drop (k + 2))).map (s[k + 1] :: ·) := by
 rw [drop_two s k h2, Idn.val5, if_pos (by simpa using h92), if_pos hs]
theorem val5_bad (s : ByteArray) (k : Nat) (h2 : k + 1 < s.size) (h92 : s[k] = 92) (hs : Idn.special s[k + 1] = false) : Idn.val5 ((L s).drop k) = none := by
 rw [drop_two s k h2, Idn.val5, if_pos (by simpa using h92), if_neg (by simp [hs])]
theorem val5_end (s : ByteArray) (k : Nat) (hk : k < s.size) (h2 : ¬ k + 1 < s.size) (h92 : s[k] = 92) : Idn.val5 ((L s).drop k) = none := by
 rw [drop_last s k hk h2, h92]; rfl
theorem r5_value_any (s : ByteArray) (w : World) (hs : s.size ≤ 1000000000) :
  Calls Tryz.prog 304 #[.string s] w fun e w' => e = .returned (.tuple #[.string (B (valR5 (L s)).1), .bool (valR5 (L s)).2]) ∧ Below w.heap.size w w' := by
 generalize hr : valR5 (L s) = r
 have HR := Lib.hid hr
 clear hr
 go_enter Tryz.func304, Tryz.ntmps304
 go_wp2
 go_loopw [4, 5] (fun v i wr => ∃ (k : Nat) (acc : Bs), k ≤ s.size ∧ i = .int .i64 k ∧ wr.ownsRow w.heap.size 5 1 v acc.length (acc.map bc) ∧ Below w.heap.size w wr ∧ acc.length ≤ k ∧ Hid (Idn.val5 (L s) = (Idn.val5 ((L s).drop k)).map (acc ++ ·))) (fun _ i _ => s.size - (intOf i).toNat)
 case atStart => exact ⟨0, [], Nat.zero_le _, rfl, World.ownsRow_nil _ _ _ _, Below.refl _ _, Nat.le_refl _, by show _ = _; simp⟩
 case round =>
  obtain ⟨k, acc, hk, rfl, hown, hb, hal, hinv⟩ := hrel
  by_cases hlt : k < s.size
  ·by_cases h92 : s[k] = 92
   ·have e2 : ((s[k].toNat : Int) == 92) = true := by rw [h92]; rfl
    by_cases h2 : k + 1 < s.size
    ·have h2I : ¬ ((s.size : Int) ≤ (k : Int) + 1) := by omega
     have hSp := r5_special_any s[k + 1] wr
     cases hsp : Idn.special s[k + 1]
     ·have hvb := val5_bad s k h2 h92 hsp
      rw [hsp] at hSp
      have HF : Hid (r = ([], false)) := by show _ = _; rw [← HR.out]; exact valR5_none (by rw [hinv.out, hvb]; rfl)
      clear hvb hinv hsp h92
      go_wp2_with (go_at_call 223; refine hSp.mono ?_; rintro e w1 ⟨rfl, rfl⟩)
      go_ret2
      exact ⟨by rw [HF.out]; rfl, hb⟩
     ·have hvb := val5_esc s k h2 h92 hsp
      rw [hsp] at hSp
      have HF : Hid (Idn.val5 (L s) = (Idn.val5 ((L s).drop (k + 2))).map ((acc ++ [s[k + 1]]) ++ ·)) := by show _ = _; rw [hinv.out, hvb, map_app]
      clear hvb hinv hsp h92
      go_wp2_with (first | (go_at_call 223; refine hSp.mono ?_; rintro e w1 ⟨rfl, rfl⟩) | (at_builtin; refine wpList_push wr rfl _ _ 179 rfl w.heap.size 5 (.int .u8 0) 1 1 Tryz.underlying179 info_u8 rfl (by decide) _ acc.length _ hown rfl [bc s[k + 1]] rfl rfl (by intro u hu; simp at hu; subst hu; rfl) (by omega) hb.size ?_ rfl))
      intro v' w1' hown' _ _ hb' _
      clear hown
      go_wp2
      go_roundw
      case rel => exact ⟨k + 2, acc ++ [s[k + 1]], by omega, by go_num, by simpa using hown', hb.trans hb', by simp; omega, HF⟩
      case measure => simp [intOf]; omega
    ·have h2I : (s.size : Int) ≤ (k : Int) + 1 := by omega
     have hvb := val5_end s k hlt h2 h92
     have HF : Hid (r = ([], false)) := by show _ = _; rw [← HR.out]; exact valR5_none (by rw [hinv.out, hvb]; rfl)
     clear hvb hinv h92
     go_wp2
     go_ret2
     exact ⟨by rw [HF.out]; rfl, hb⟩
   ·have e2 : ((s[k].toNat : Int) == 92) = false := byte_not (d := 92) h92
    by_cases h61 : s[k] = 61
    ·have e3 : ((s[k].toNat : Int) == 61) = true := byte_is (d := 61) h61
     have hvb := val5_spec s k hlt h92 (by rw [h61]; rfl)
     have HF : Hid (r = ([], false)) := by show _ = _; rw [← HR.out]; exact valR5_none (by rw [hinv.out, hvb]; rfl)
     clear hvb hinv h92 h61
     go_wp2
     go_ret2
     exact ⟨by rw [HF.out]; rfl, hb⟩
    ·have e3 : ((s[k].toNat : Int) == 61) = false := byte_not (d := 61) h61
     by_cases h43 : s[k] = 43
     ·have e4 : ((s[k].toNat : Int) == 43) = true := byte_is (d := 43) h43
      have hvb := val5_spec s k hlt h92 (by rw [h43]; rfl)
      have HF : Hid (r = ([], false)) := by show _ = _; rw [← HR.out]; exact valR5_none (by rw [hinv.out, hvb]; rfl)
      clear hvb hinv h92 h61 h43
      go_wp2
      go_ret2
      exact ⟨by rw [HF.out]; rfl, hb⟩
     ·have e4 : ((s[k].toNat : Int) == 43) = false := byte_not (d := 43) h43
      have hvb := val5_plain s k hlt h92 (by simp [h61, h43])
      have HF : Hid (Idn.val5 (L s) = (Idn.val5 ((L s).drop (k + 1))).map ((acc ++ [s[k]]) ++ ·)) := by show _ = _; rw [hinv.out, hvb, map_app]
      clear hvb hinv h92 h61 h43
      go_wp2_with (at_builtin; refine wpList_push wr rfl _ _ 179 rfl w.heap.size 5 (.int .u8 0) 1 1 Tryz.underlying179 info_u8 rfl (by decide) _ acc.length _ hown rfl [bc s[k]] rfl rfl (by intro u hu; simp at hu; subst hu; rfl) (by omega) hb.size ?_ rfl)
      intro v' w1' hown' _ _ hb' _
      clear hown
      go_wp2
      go_roundw
      case rel => exact ⟨k + 1, acc ++ [s[k]], by omega, by go_num, by simpa using hown', hb.trans hb', by simp; omega, HF⟩
      case measure => simp [intOf]; omega
  ·have HF : Hid (r = (acc, true)) := by show _ = _; rw [← HR.out]; exact valR5_some (by rw [hinv.out, drop_end s k hlt]; simp [Idn.val5])
   clear hinv
   go_wp2_with (with_reducible refine wpList_str _ rfl _ 179 9 5 rfl Tryz.underlying179 Tryz.underlying9 Tryz.underlying5 w.heap.size _ acc hown rfl ?_)
   go_wp2
   go_ret2
   exact ⟨by rw [HF.out]; rfl, hb⟩
end Go.Proofs.YtbkkchhimhlhcaaGreatDoor
/- identityref05: component. -/
namespace Go.Proofs.YtbkkchhimhlhcaaGreatDoor
open Go.RowKit Go.Sort
open Idn (L B Bs drop_L take_L size_L)
theorem r5_component_any (s : ByteArray) (w : World) (hs : s.size ≤ 1000000000) :
    Calls Tryz.prog 261 #[.string s] w fun e w' => e = .returned (.tuple #[prV (Idn.component5 (L s)).1, .int .i64 (Idn.component5 (L s)).2]) ∧ Below w.heap.size w w' := by
 generalize hr : Idn.component5 (L s) = r
 have HR := Lib.hid hr
 clear hr
 have hI := fun W => r5_next_any s 61 W (by omega)
 cases hx : Idn.idx 61 (L s) with
 | none =>
  rw [nextN_none hx, ← size_L] at hI
  have HF : Hid (r = (([], []), 4)) := by show _ = _; rw [← HR.out, Idn.component5, hx]
  clear hx
  go_enter Tryz.func261, Tryz.ntmps261
  go_wp2_with fail
  with_reducible refine gen1 (R := fun W => Calls Tryz.prog 260 _ W _) ?_
  intro W hbW hszW hc1 hf1
  have r0 := hc1 0 _ rfl
  have r1 := hc1 1 _ rfl
  have f0 := hf1 0
  have f1 := hf1 1
  clear hc1 hf1
  refine (hI W).mono ?_
  rintro e w1 ⟨rfl, rfl⟩
  clear hI
  go_wp2
  exact bodyPost_ret (v := .tuple #[.agg #[.string ⟨#[]⟩, .string ⟨#[]⟩], .int .i64 4]) (by simp [results, Tryz.results261, go_sem, r0, r1, f0, f1]) rfl ⟨by rw [HF.out]; rfl, (hbW.setCell (by simp) _).setCell (by simp) _⟩
 | some i =>
  rw [nextN_some hx] at hI
  have hi := Idn.idx_lt _ _ _ hx
  rw [← size_L] at hi
  have hiI : ¬ ((s.size : Int) ≤ (i : Int)) := by omega
  have HF : Hid (r = if (valR5 (Idn.trim ((L s).drop (i + 1)))).2 = false then (([], []), 4) else if Idn.name (Idn.trim ((L s).take i)) = false then (([], []), 5) else if Idn.clean (valR5 (Idn.trim ((L s).drop (i + 1)))).1 = false then (([], []), 8) else ((Idn.trim ((L s).take i), (valR5 (Idn.trim ((L s).drop (i + 1)))).1), 0)) := by
   show _ = _
   rw [← HR.out, Idn.component5, hx]
   dsimp only
   unfold valR5
   cases Idn.val5 (Idn.trim ((L s).drop (i + 1))) with
   | none => rfl
   | some v => simp
  clear hx HR
  have hT1 := fun W => r_trim_any (s.extract (i + 1) s.size) W (by simp; omega)
  rw [extract_drop, Idn.L_B] at hT1
  have hl1 := Idn.length_trim ((L s).drop (i + 1))
  have hl2 := Idn.length_trim ((L s).take i)
  rw [List.length_drop] at hl1
  rw [List.length_take] at hl2
  rw [size_L] at hs
  have hV := fun W => r5_value_any (B (Idn.trim ((L s).drop (i + 1)))) W (by rw [Idn.size_B]; omega)
  rw [Idn.L_B] at hV
  have hT2 := fun W => r_trim_any (s.extract 0 i) W (by simp; rw [size_L]; omega)
  rw [extract_take, Idn.L_B] at hT2
  have hvl : (valR5 (Idn.trim ((L s).drop (i + 1)))).1.length ≤ 1000000000 := by
   unfold valR5
   split
   ·simp
   ·rename_i v hv
    have := val5_len _ _ hv
    dsimp only; omega
  rw [← size_L] at hs
  have hN := fun W => r_name_any (B (Idn.trim ((L s).take i))) W (by rw [Idn.size_B]; omega)
  rw [Idn.L_B] at hN
  generalize valR5 (Idn.trim ((L s).drop (i + 1))) = vr at *
  obtain ⟨v, ok⟩ := vr
  dsimp only at hV HF hvl
  have hCl := fun W => r_clean_any (B v) W (by rw [Idn.size_B]; omega)
  rw [Idn.L_B] at hCl
  generalize Idn.trim ((L s).take i) = ky at *
  generalize Idn.trim ((L s).drop (i + 1)) = tv at *
  generalize Idn.name ky = nb at *
  generalize Idn.clean v = cb at *
  clear hl1 hl2 hvl
  go_enter Tryz.func261, Tryz.ntmps261
  go_wp2_with fail
  with_reducible refine gen1 (R := fun W => Calls Tryz.prog 260 _ W _) ?_
  intro W hbW hszW hc1 hf1
  have r0 := hc1 0 _ rfl
  have r1 := hc1 1 _ rfl
  have f0 := hf1 0
  have f1 := hf1 1
  have hlt : w.heap.size < W.heap.size := by omega
  clear hc1 hf1
  refine (hI W).mono ?_
  rintro e w1 ⟨rfl, rfl⟩
  clear hI
  go_wp2_with fail
  rw [extract_drop]
  refine (hT1 _).mono ?_
  rintro e w1 ⟨rfl, rfl⟩
  clear hT1
  go_wp2_with fail
  refine (hV _).mono ?_
  rintro e w2 ⟨rfl, hb2⟩
  clear hV
  have hbw2 := hbW.trans (hb2.mono hbW.size)
  replace r0 := cell_later hb2 r0
  replace r1 := cell_later hb2 r1
  replace f0 := frozen_later hb2 f0 hlt
  replace f1 := frozen_later hb2 f1 hlt
  have hlt2 : w.heap.size < w2.heap.size := Nat.lt_of_lt_of_le hlt hb2.size
  cases ok
  ·have HG : Hid (r = (([], []), 4)) := by show _ = _; rw [HF.out, if_pos rfl]
   clear HF
   go_wp2
   exact bodyPost_ret (v := .tuple #[.agg #[.string ⟨#[]⟩, .string ⟨#[]⟩], .int .i64 4]) (by simp [results, Tryz.results261, go_sem, r0, r1, f0, f1]) rfl ⟨by rw [HG.out]; rfl, (hbw2.setCell (by simp) _).setCell (by simp) _⟩
  ·go_wp2_with fail
   rw [extract_take]
   refine (hT2 _).mono ?_
   rintro e w3 ⟨rfl, rfl⟩
   clear hT2
   go_upto_region 8 with fail
   with_reducible refine gen1 (R := fun W => Code.wp Tryz.prog _ _ _ W) ?_
   intro W4 hbW4 hszW4 hc4 _
   have p0 := hc4 0 _ rfl
   have p1 := hc4 1 _ rfl
   clear hc4
   have hbw4 := hbw2.trans (hbW4.mono hbw2.size)
   replace r0 := cell_later hbW4 r0
   replace r1 := cell_later hbW4 r1
   replace f0 := frozen_later hbW4 f0 hlt2
   replace f1 := frozen_later hbW4 f1 hlt2
   have hlt4 : w.heap.size < W4.heap.size := by omega
   go_wp2_with fail
   refine (hN W4).mono ?_
   rintro e w5 ⟨rfl, rfl⟩
   clear hN
   cases nb
   ·have HG : Hid (r = (([], []), 5)) := by show _ = _; rw [HF.out, if_neg (by simp), if_pos rfl]
    clear HF
    go_wp2
    exact bodyPost_ret (v := .tuple #[.agg #[.string ⟨#[]⟩, .string ⟨#[]⟩], .int .i64 5]) (by simp [results, Tryz.results261, go_sem, r0, r1, f0, f1]) rfl ⟨by rw [HG.out]; rfl, (hbw4.setCell (by simp) _).setCell (by simp) _⟩
   ·go_wp2_with fail
    refine (hCl _).mono ?_
    rintro e w6 ⟨rfl, rfl⟩
    clear hCl
    cases cb
    ·have HG : Hid (r = (([], []), 8)) := by show _ = _; rw [HF.out, if_neg (by simp), if_neg (by simp), if_pos rfl]
     clear HF
     go_wp2
     exact bodyPost_ret (v := .tuple #[.agg #[.string ⟨#[]⟩, .string ⟨#[]⟩], .int .i64 8]) (by simp [results, Tryz.results261, go_sem, r0, r1, f0, f1]) rfl ⟨by rw [HG.out]; rfl, (hbw4.setCell (by simp) _).setCell (by simp) _⟩
    ·have HG : Hid (r = ((ky, v), 0)) := by show _ = _; rw [HF.out, if_neg (by simp), if_neg (by simp), if_neg (by simp)]
     clear HF
     go_wp2
     exact bodyPost_ret (v := .tuple #[.agg #[.string (B ky), .string (B v)], .int .i64 0]) (by simp [results, Tryz.results261, go_sem, r0, r1, f0, f1]) rfl ⟨by rw [HG.out]; rfl, (hbw4.setCell (by simp) _).setCell (by simp) _⟩
end Go.Proofs.YtbkkchhimhlhcaaGreatDoor
/- identityref05: Parse. -/
namespace Go.Proofs.YtbkkchhimhlhcaaGreatDoor
open Go.RowKit Go.Sort
open Idn (L B Bs drop_L take_L size_L)
theorem pcs_next (l : Bs) : Idn.pcs l = l.take (nextN 44 l) :: (if nextN 44 l < l.length then Idn.pcs (l.drop (nextN 44 l + 1)) else []) := by
 rw [Idn.pcs_idx]
 cases h : Idn.idx 44 l with
 | none => rw [nextN_none h, if_neg (by omega), List.take_of_length_le (Nat.le_refl _)]
 | some i => rw [nextN_some h, if_pos (Idn.idx_lt _ _ _ h)]
theorem next_free (l : Bs) : Idn.idx 44 (l.take (nextN 44 l)) = none := by
 cases h : Idn.idx 44 l with
 | none => rw [nextN_none h, List.take_of_length_le (Nat.le_refl _)]; exact h
 | some i => rw [nextN_some h]; exact Idn.idx_before 44 l i h
theorem comps_done (q : List Idn.Pr) : compsK q (Idn.comps []) = (q, 0) := by simp [compsK, Idn.comps]
def vSize : Value → Nat
 | .string s => s.size
 | _ => 0
def vOn : Value → Nat
 | .bool true => 1
 | _ => 0
theorem r5_parse_any (s : ByteArray) (w : World) (hs : s.size ≤ 1000000000) :
  Calls Tryz.prog 199 #[.string s] w (RetP w (Idn.parse (L s))) := by
 generalize hr : Idn.parse (L s) = r
 have HR := Lib.hid hr
 clear hr
 have hway : ∃ m : Bool, (s.toList == ([] : List UInt8)) = !m ∧ Hid (r = if (if m then Idn.comps (Idn.pcs (L s)) else ([], 0)).2 != 0 then ([], (if m then Idn.comps (Idn.pcs (L s)) else ([], 0)).2) else if (if m then Idn.comps (Idn.pcs (L s)) else ([], 0)).1.length > 8 then ([], 3) else ((if m then Idn.comps (Idn.pcs (L s)) else ([], 0)).1, 0)) := by
  by_cases h0 : L s = []
  ·refine ⟨false, by rw [toList_L, h0]; rfl, ?_⟩
   show _ = _; rw [← HR.out, Idn.parse, h0]; rfl
  ·refine ⟨true, by rw [toList_L, beq_eq_false_iff_ne.2 h0]; rfl, ?_⟩
   show _ = _; rw [← HR.out, Idn.parse, if_neg (by simpa using h0)]; simp only [if_true]
 obtain ⟨m0, he, HF⟩ := hway
 generalize hg : (if m0 = true then Idn.comps (Idn.pcs (L s)) else ([], 0)) = g at *
 have HG0 : Hid (if m0 = true then g = Idn.comps (Idn.pcs (L s)) else g = ([], 0)) := by show if m0 = true then _ else _; cases m0 <;> simp at hg ⊢ <;> exact hg.symm
 clear hg HR
 go_enter Tryz.func199, Tryz.ntmps199
 go_wp2
 go_loopw [4, 5, 6] (fun u r m wr => ∃ (t : ByteArray) (b : Bool) (ps : List Idn.Pr), r = .string t ∧ m = .bool b ∧ wr.ownsRow w.heap.size 156 2 u ps.length (prRow ps) ∧ Below w.heap.size w wr ∧ ps.length + t.size ≤ s.size + (if b then 0 else 1) ∧ Hid (if b = true then g = compsK ps (Idn.comps (Idn.pcs (L t))) else g = (ps, 0))) (fun _ r m _ => vOn m * (vSize r + 1))
 case atStart =>
  refine ⟨s, m0, [], rfl, by simp, World.ownsRow_nil _ _ _ _, Below.refl _ _, by simp, ?_⟩
  show if m0 = true then _ else _
  have := HG0.out
  cases m0
  ·simpa using this
  ·simp only [if_true] at this ⊢; rw [this, comps_zero]
 case round =>
  obtain ⟨t, b, ps, rfl, rfl, hown, hb, hsz, hinv⟩ := hrel
  cases b
  ·have HG : Hid (r = if 8 < ps.length then ([], 3) else (ps, 0)) := by
    show _ = _
    have := hinv.out
    simp only [Bool.false_eq_true, if_false] at this
    rw [HF.out, this]; simp
   obtain ⟨A3, c3, hu⟩ := own_shape hown
   subst hu
   clear hinv HF HG0 he
   by_cases h8 : 8 < ps.length
   ·have h8' : (8 : Int) < (ps.length : Int) := by omega
    have HH : Hid (r = ([], 3)) := by show _ = _; rw [HG.out, if_pos h8]
    clear h8
    go_wp2
    go_ret2
    exact ⟨.slice none 0 0, by rw [HH.out]; rfl, by rw [HH.out]; exact World.ownsRow_nil _ _ _ _, hb⟩
   ·have h8' : ¬ (8 : Int) < (ps.length : Int) := by omega
    have HH : Hid (r = (ps, 0)) := by show _ = _; rw [HG.out, if_neg h8]
    clear h8
    go_wp2
    go_ret2
    exact ⟨.slice A3 ps.length c3, by rw [HH.out]; rfl, by rw [HH.out]; exact hown, hb⟩
  ·have hinv2 : g = compsK ps (Idn.comps (Idn.pcs (L t))) := by have := hinv.out; simpa using this
   rw [pcs_next] at hinv2
   have hfree := next_free (L t)
   have hkl := nextN_le 44 (L t)
   rw [← size_L] at hkl hinv2
   have hts : t.size ≤ s.size := by simp at hsz; omega
   have hpl : ps.length ≤ 1000000000 := by simp at hsz; omega
   have hNx := r5_next_any t 44 wr (by omega)
   have hC := fun W => r5_component_any (t.extract 0 (nextN 44 (L t))) W (by simp; omega)
   rw [extract_take, Idn.L_B, Idn.component5_eq _ hfree] at hC
   have hdrop : L (t.extract (nextN 44 (L t) + 1) t.size) = (L t).drop (nextN 44 (L t) + 1) := by rw [extract_drop, Idn.L_B]
   rw [← hdrop] at hinv2
   have HX : Hid (t.extract 0 (nextN 44 (L t)) = B ((L t).take (nextN 44 (L t)))) := by show _ = _; exact extract_take _ _
   clear hinv hfree hdrop
   generalize nextN 44 (L t) = k at *
   generalize (L t).take k = x at *
   have hkI : (k : Int) ≤ (t.size : Int) := by omega
   by_cases h0 : (Idn.component x).2 = 0
   ·have HG : Hid (g = compsK (ps ++ [(Idn.component x).1]) (Idn.comps (if k < t.size then Idn.pcs (L (t.extract (k + 1) t.size)) else []))) := by
     show _ = _; rw [hinv2, comps_cons _ _ h0, compsK_app]
    rw [h0] at hC
    generalize (Idn.component x).1 = pr at *
    clear h0 hinv2 he HF HG0
    unfold prV at hC
    go_wp2_with fail
    refine hNx.mono ?_
    rintro e w1 ⟨rfl, rfl⟩
    go_wp2_with fail
    rw [HX.out]
    refine (hC _).mono ?_
    rintro e w2 ⟨rfl, hb2⟩
    have hown2 := own_below hown hb2
    have hbw2 := hb.trans (hb2.mono hb.size)
    have ba := (Below.refl w2.heap.size w2).alloc (Nat.le_refl _) (.cells #[.string (B pr.1), .string (B pr.2)] 156)
    have hown3 := own_below hown2 ba
    have hbw3 := hbw2.trans (ba.mono hbw2.size)
    have hs3 := hbw3.size
    have hsza : (w2.alloc (.cells #[.string (B pr.1), .string (B pr.2)] 156)).heap.size = w2.heap.size + 1 := by simp
    have Hsza := Lib.hid hsza
    clear hC hown hown2 ba hsza hNx
    go_wp2_with (at_builtin; refine wpList_push (w2.alloc (.cells #[.string (B pr.1), .string (B pr.2)] 156)) rfl _ _ 152 rfl w.heap.size 156 (.agg #[.string ⟨#[]⟩, .string ⟨#[]⟩]) 2 32 Tryz.underlying152 info_pair rfl (by decide) _ _ _ hown3 rfl [.string (B pr.1), .string (B pr.2)] (by rw [Hsza.out]; rfl) rfl (by intro u hu; simp at hu; rcases hu with rfl | rfl <;> rfl) (by omega) hs3 ?_ rfl)
    intro v' w4 hown' _ _ hb' _
    clear hown3
    have e : prRow (ps ++ [pr]) = prRow ps ++ [.string (B pr.1), .string (B pr.2)] := by unfold prRow; rw [List.flatMap_append]; rfl
    have hown5 : w4.ownsRow w.heap.size 156 2 v' (ps ++ [pr]).length (prRow (ps ++ [pr])) := by
     rw [e, List.length_append]
     exact hown'
    clear e hown'
    have hbw4 := hbw3.trans hb'
    by_cases hlt : k < t.size
    ·have hltI : (k : Int) < (t.size : Int) := by omega
     have hI2 : Hid (if true = true then g = compsK (ps ++ [pr]) (Idn.comps (Idn.pcs (L (t.extract (k + 1) t.size)))) else g = (ps ++ [pr], 0)) := by
      show if true = true then _ else _
      have := HG.out
      rw [if_pos hlt] at this
      rw [if_pos rfl]; exact this
     clear HG
     go_wp2
     go_roundw
     case rel => exact ⟨t.extract (k + 1) t.size, true, ps ++ [pr], rfl, rfl, hown5, hbw4, by simp at hsz ⊢; omega, hI2⟩
     case measure => simp [vOn, vSize]; omega
    ·have hltI : ¬ (k : Int) < (t.size : Int) := by omega
     have hI2 : Hid (if false = true then g = compsK (ps ++ [pr]) (Idn.comps (Idn.pcs (L t))) else g = (ps ++ [pr], 0)) := by
      show if false = true then _ else _
      have := HG.out
      rw [if_neg hlt, comps_done] at this
      rw [if_neg (by decide)]; exact this
     clear HG
     go_wp2
     go_roundw
     case rel => exact ⟨t, false, ps ++ [pr], rfl, rfl, hown5, hbw4, by simp at hsz ⊢; omega, hI2⟩
     case measure => simp [vOn, vSize]
   ·have HG : Hid (r = ([], (Idn.component x).2)) := by
     show _ = _
     rw [HF.out, hinv2, comps_err _ _ _ h0]; simp [h0]
    generalize Idn.component x = cr at *
    have h1 : (cr.2 != 0) = true := by simpa using h0
    have h2 : (cr.2 == 0) = false := by simpa using h0
    clear hinv2 h0 he HF HG0
    unfold prV at hC
    go_wp2_with fail
    refine hNx.mono ?_
    rintro e w1 ⟨rfl, rfl⟩
    go_wp2_with fail
    rw [HX.out]
    refine (hC _).mono ?_
    rintro e w2 ⟨rfl, hb2⟩
    have hbw2 := hb.trans (hb2.mono hb.size)
    clear hC hown hNx
    go_wp2
    go_ret2
    exact ⟨.slice none 0 0, by rw [HG.out]; rfl, by rw [HG.out]; exact World.ownsRow_nil _ _ _ _, hbw2.alloc hbw2.size _⟩
end Go.Proofs.YtbkkchhimhlhcaaGreatDoor
/- identityref05: Format of components that are whole. -/
namespace Go.Proofs.YtbkkchhimhlhcaaGreatDoor
open Go.RowKit Go.Sort
open Idn (L B Bs drop_L take_L size_L)
section
variable {P : Program} {w : World} {ops : Array Oper} {rest : List Oper} {o : Oper} {a : Act} {Q : Exit → Act → World → Prop}
theorem wpList_text (hgd : o.guard = none) (s x : Operand) (t u : TypeId) (ho : o.op = .call { callee := .builtin .append, args := #[s, x], argTypes := #[t, u] })
  (base : Nat) (e : TypeId) (ht : P.underlying t = some (.slice e)) (hu : P.underlying u = some .string) (hinf : (P.info? e).map (fun i => (i.zero, i.size, i.bytes)) = some (some (.int .u8 0), 1, 1))
  (v : Value) (acc : Bs) (hown : w.ownsRow base e 1 v acc.length (acc.map bc)) (hs : a.eval s = v) (z : Bs) (hx : a.eval x = .string (B z)) (hn : acc.length + z.length ≤ 1000000000000) (hbase : base ≤ w.heap.size)
  (hK : ∀ v' w', w'.ownsRow base e 1 v' (acc ++ z).length ((acc ++ z).map bc) → Below base w w' → wpList P ops Q rest (a.put o.dst v') w') : wpList P ops Q (o :: rest) a w := by
 obtain ⟨i, hi, hz0, hz1, hz2⟩ := info_parts hinf
 refine Lib.wpList_append_own_string w hgd s x t u ho base e i ht hu hi hz0 hz1 hz2 v acc.length _ hs hown (B z) hx (by rw [Idn.size_B]; unfold maxLen; omega) (by rw [Idn.size_B]; omega) hbase ?_
 intro v' w' h1 h2 _
 refine hK v' w' ?_ ((Below.refl base w).grown h2 hbase (fun k hk => (hown.lt k hk).1))
 rw [List.length_append, List.map_append]
 rw [Idn.size_B] at h1
 have e : Lib.strCells (B z) = z.map bc := by
  have := strCells_B z
  rw [this]; rfl
 rwa [e] at h1
end
theorem check1_parts : ∀ l : List Idn.Pr, Idn.check1 l = 0 → ∀ p ∈ l, Idn.name p.1 = true ∧ Idn.clean p.2 = true
 | [], _, p, hp => by cases hp
 | q :: l, h, p, hp => by
  unfold Idn.check1 at h
  by_cases h1 : Idn.name q.1 = true
  ·rw [h1] at h
   by_cases h2 : Idn.clean q.2 = true
   ·rw [h2] at h
    rcases List.mem_cons.1 hp with rfl | hp
    ·exact ⟨h1, h2⟩
    ·exact check1_parts l (by simpa using h) p hp
   ·simp [h2] at h
  ·simp [h1] at h
theorem check_parts {l : List Idn.Pr} (h : Idn.check l = 0) : ∀ p ∈ l, Idn.name p.1 = true ∧ Idn.clean p.2 = true := by
 refine check1_parts l ?_
 unfold Idn.check at h
 by_cases h1 : Idn.check1 l = 0
 ·exact h1
 ·simp [h1] at h
theorem r5_format_any (v : Value) (l : List Idn.Pr) (w : World) (hv : PairsV w w.heap.size v l) (h0 : Idn.check l = 0) :
  Calls Tryz.prog 165 #[v] w fun e w' => e = .returned (.tuple #[.string (B (Idn.fmtJ l)), .int .i64 0]) ∧ Below w.heap.size w w' := by
 obtain ⟨A, c, rfl, hc⟩ := SlV.shape hv
 obtain ⟨hl8, hsm⟩ := check_zero h0
 have hpt := check_parts h0
 have hkl := fmtK_len hsm
 generalize hr : Idn.fmtJ l = r
 have HF : Hid (r = fmtK l l.length) := by show _ = _; rw [← hr, fmtK, List.take_length]
 clear hr h0
 go_enter Tryz.func165, Tryz.ntmps165
 go_wp2
 go_loopw [4, 5] (fun u i wr => ∃ k : Nat, k ≤ l.length ∧ i = .int .i64 k ∧ wr.ownsRow w.heap.size 5 1 u (fmtK l k).length ((fmtK l k).map bc) ∧ Below w.heap.size w wr) (fun _ i _ => l.length - (intOf i).toNat)
 case atStart => exact ⟨0, Nat.zero_le _, rfl, World.ownsRow_nil _ _ _ _, Below.refl _ _⟩
 case round =>
  obtain ⟨k, hk, rfl, hown, hb⟩ := hrel
  by_cases hlt : k < l.length
  ·obtain ⟨b, off, rfl, hbl, c0, c1⟩ := PairsV.cell hv hlt
   have hltI : (k : Int) < (l.length : Int) := by omega
   have hk6 := hkl k hk
   have hpm := hsm l[k] (List.getElem_mem hlt)
   obtain ⟨hpn, hpc⟩ := hpt l[k] (List.getElem_mem hlt)
   have hN := fun W => r_name_any (B l[k].1) W (by rw [Idn.size_B]; omega)
   have hCl := fun W => r_clean_any (B l[k].2) W (by rw [Idn.size_B]; omega)
   have hLo := fun W => r_lower_any (B l[k].1) W (by rw [Idn.size_B]; omega)
   have hFo := fun W => r_fold_any (B l[k].2) W (by rw [Idn.size_B]; omega)
   rw [Idn.L_B] at hN hCl hLo hFo
   rw [hpn] at hN
   rw [hpc] at hCl
   have hsuc := fmtK_succ l k hlt
   have hfl := Idn.length_fold l[k].2
   have hll := Idn.length_lower l[k].1
   have hft : Idn.fmt1 l[k] = Idn.lower l[k].1 ++ 61 :: Idn.escV (Idn.fold l[k].2) := rfl
   rw [hft] at hsuc
   have HS := Lib.hid hsuc
   have d0 := cell_later hb c0
   have d1 := cell_later hb c1
   generalize l[k].1 = x0 at *
   generalize l[k].2 = x1 at *
   generalize Idn.lower x0 = lo at *
   generalize Idn.fold x1 = fo at *
   generalize hm : fmtK l k = m at *
   have HM := Lib.hid hm
   obtain ⟨m2, hm2⟩ : ∃ m2 : Bs, m2 = (if k = 0 then m else m ++ [44]) := ⟨_, rfl⟩
   have HM2 := Lib.hid hm2
   have hm2l : m2.length ≤ k * 601 + 1 := by
    rw [hm2]
    split
    ·omega
    ·rw [List.length_append]; simp; omega
   have HL2 : Hid (fmtK l (k + 1) = (m2 ++ lo) ++ 61 :: Idn.escV fo) := by
    show _ = _
    rw [HS.out, HM2.out]
    split <;> simp
   have hk8 : k * 601 ≤ 8 * 601 := Nat.mul_le_mul_right _ (by omega)
   clear hsuc hm2 hm hft HF hpn hpc HS hpt hsm hkl
   obtain ⟨t, rfl⟩ : ∃ t, fo = L t := ⟨B fo, rfl⟩
   rw [Idn.B_L] at hFo
   have hml : m.length ≤ 8 * 601 := by omega
   have hm2l8 : m2.length ≤ 8 * 601 + 1 := by omega
   have hts : t.size ≤ 256 := by rw [size_L]; omega
   have hlo : lo.length ≤ 64 := by omega
   clear hk6 hm2l hfl hll hpm hk8
   go_upto_if 29 with (first | (go_at_call 84; refine (hN _).mono ?_; rintro e w1 ⟨rfl, rfl⟩) | (go_at_call 200; refine (hCl _).mono ?_; rintro e w1 ⟨rfl, rfl⟩))
   go_cut [4] (fun u wx => wx.ownsRow w.heap.size 5 1 u m2.length (m2.map bc) ∧ Below w.heap.size w wx)
   case first =>
    by_cases hk0 : k = 0
    ·have hkI : ¬ ((0 : Int) < (k : Int)) := by omega
     have HE : Hid (m2 = m) := by show _ = _; rw [HM2.out, if_pos hk0]
     clear hk0
     go_wp2
     go_meet
     exact ⟨by rw [HE.out]; exact hown, hb⟩
    ·have hkI : (0 : Int) < (k : Int) := by omega
     have HE : Hid (m2 = m ++ [44]) := by show _ = _; rw [HM2.out, if_neg hk0]
     clear hk0
     go_wp2_with (at_builtin; refine wpList_push wr rfl _ _ 179 rfl w.heap.size 5 (.int .u8 0) 1 1 Tryz.underlying179 info_u8 rfl (by decide) _ m.length _ hown rfl [bc 44] rfl rfl (by intro u hu; simp at hu; subst hu; rfl) (by omega) hb.size ?_ rfl)
     intro v' w1' hown' _ _ hb' _
     go_wp2
     go_meet
     exact ⟨by rw [HE.out]; simpa using hown', hb.trans hb'⟩
   case rest =>
    obtain ⟨hownc, hbc⟩ := hcut
    have e0 := cell_later hbc c0
    have e1 := cell_later hbc c1
    clear hown d0 d1
    go_wp2_with fail
    refine (hLo _).mono ?_
    rintro e w2 ⟨rfl, hb2⟩
    have hown2 := own_below hownc hb2
    have hbw2 := hbc.trans (hb2.mono hbc.size)
    clear hownc e0 e1 hLo
    go_wp2_with (at_builtin; refine wpList_text rfl _ _ 179 9 rfl w.heap.size 5 Tryz.underlying179 Tryz.underlying9 info_u8 _ m2 hown2 rfl lo rfl (by omega) hbw2.size ?_)
    intro v3 w3 hown3' hb3
    have hown3 : w3.ownsRow w.heap.size 5 1 v3 (m2 ++ lo).length ((m2 ++ lo).map bc) := by simpa using hown3'
    clear hown3'
    have hbw3 := hbw2.trans hb3
    have hl3 : (m2 ++ lo).length ≤ 10000 := by rw [List.length_append]; omega
    generalize m2 ++ lo = m3 at *
    clear hown2
    go_wp2_with (at_builtin; refine wpList_push w3 rfl _ _ 179 rfl w.heap.size 5 (.int .u8 0) 1 1 Tryz.underlying179 info_u8 rfl (by decide) _ m3.length _ hown3 rfl [bc 61] rfl rfl (by intro u hu; simp at hu; subst hu; rfl) (by omega) hbw3.size ?_ rfl)
    intro v4 w4 hown4 _ _ hb4 _
    have hbw4 := hbw3.trans hb4
    have g1 := cell_later hbw4 c1
    clear hown3
    go_wp2_with fail
    refine (hFo _).mono ?_
    rintro e w5 ⟨rfl, hb5⟩
    have hbw5 := hbw4.trans (hb5.mono hbw4.size)
    have hown5 := own_below hown4 hb5
    clear hown4 hFo g1
    go_wp2
    go_loopw [4, 7] (fun u y wx => ∃ j : Nat, j ≤ t.size ∧ y = .int .i64 j ∧ wx.ownsRow w.heap.size 5 1 u ((m3 ++ [61]) ++ Idn.escV ((L t).take j)).length (((m3 ++ [61]) ++ Idn.escV ((L t).take j)).map bc) ∧ Below w.heap.size w wx) (fun _ y _ => t.size - (intOf y).toNat)
    case atStart => exact ⟨0, Nat.zero_le _, rfl, by simpa [Idn.escV] using hown5, hbw5⟩
    case round =>
     obtain ⟨j, hj, rfl, hownj, hbj⟩ := hrel
     clear hown5
     have hel := escV_len ((L t).take j)
     have htj : ((L t).take j).length ≤ j := List.length_take_le _ _
     have hl9 : ((m3 ++ [61]) ++ Idn.escV ((L t).take j)).length ≤ 20000 := by
      simp only [List.length_append, List.length_cons, List.length_nil]; omega
     by_cases hjl : j < t.size
     ·have hSp := fun W => r5_special_any t[j] W
      have HS2 : Hid ((m3 ++ [61]) ++ Idn.escV ((L t).take (j + 1)) = ((m3 ++ [61]) ++ Idn.escV ((L t).take j)) ++ (if Idn.special t[j] then [92, t[j]] else [t[j]])) := by
       show _ = _; rw [take_L t j hjl, escV_snoc]; simp only [List.append_assoc]
      generalize (m3 ++ [61]) ++ Idn.escV ((L t).take j) = acc at *
      have hjI : (j : Int) < (t.size : Int) := by omega
      cases hsp : Idn.special t[j]
      ·have HS3 : Hid ((m3 ++ [61]) ++ Idn.escV ((L t).take (j + 1)) = acc ++ [t[j]]) := by show _ = _; rw [HS2.out, hsp]; rfl
       simp only [hsp] at hSp
       clear hsp HS2
       go_wp2_with (first | (go_at_call 223; refine (hSp _).mono ?_; rintro e w6 ⟨rfl, rfl⟩) | (at_builtin; refine wpList_push _ rfl _ _ 179 rfl w.heap.size 5 (.int .u8 0) 1 1 Tryz.underlying179 info_u8 rfl (by decide) _ acc.length _ hownj rfl [bc t[j]] rfl rfl (by intro u hu; simp at hu; subst hu; rfl) (by omega) hbj.size ?_ rfl))
       intro v7 w7 hown7 _ _ hb7 _
       clear hownj
       go_wp2
       go_roundw
       case rel => exact ⟨j + 1, by omega, by go_num, by rw [HS3.out]; simpa using hown7, hbj.trans hb7⟩
       case measure => simp [intOf]; omega
      ·have HS3 : Hid ((m3 ++ [61]) ++ Idn.escV ((L t).take (j + 1)) = (acc ++ [92]) ++ [t[j]]) := by show _ = _; rw [HS2.out, hsp]; simp
       simp only [hsp] at hSp
       clear hsp HS2
       go_wp2_with (first | (go_at_call 223; refine (hSp _).mono ?_; rintro e w6 ⟨rfl, rfl⟩) | (at_builtin; refine wpList_push _ rfl _ _ 179 rfl w.heap.size 5 (.int .u8 0) 1 1 Tryz.underlying179 info_u8 rfl (by decide) _ acc.length _ hownj rfl [bc 92] rfl rfl (by intro u hu; simp at hu; subst hu; rfl) (by omega) hbj.size ?_ rfl))
       intro v7 w7 hown7 _ _ hb7 _
       have hb17 := hbj.trans hb7
       have hown8 : w7.ownsRow w.heap.size 5 1 v7 (acc ++ [92]).length ((acc ++ [92]).map bc) := by simpa using hown7
       have hl10 : (acc ++ [92]).length ≤ 20001 := by rw [List.length_append]; simp; omega
       generalize acc ++ [92] = acc2 at *
       clear hownj hown7
       go_wp2_with (at_builtin; refine wpList_push w7 rfl _ _ 179 rfl w.heap.size 5 (.int .u8 0) 1 1 Tryz.underlying179 info_u8 rfl (by decide) _ acc2.length _ hown8 rfl [bc t[j]] rfl rfl (by intro u hu; simp at hu; subst hu; rfl) (by omega) hb17.size ?_ rfl)
       intro v9 w9 hown9 _ _ hb9 _
       clear hown8
       go_wp2
       go_roundw
       case rel => exact ⟨j + 1, by omega, by go_num, by rw [HS3.out]; simpa using hown9, hb17.trans hb9⟩
       case measure => simp [intOf]; omega
     ·have hjl' : j = t.size := by omega
      have hjI : ¬ (j : Int) < (t.size : Int) := by omega
      subst hjl'
      rw [List.take_of_length_le (by rw [← size_L]; exact Nat.le_refl _)] at hownj
      go_wp2
      go_roundw
      case rel =>
       refine ⟨k + 1, by omega, by go_num, ?_, hbj⟩
       rw [HL2.out]
       simpa using hownj
      case measure => simp [intOf]; omega
  ·have hkl' : k = l.length := by omega
   have hltI : ¬ (k : Int) < (l.length : Int) := by omega
   have h8 : ¬ (8 : Int) < (l.length : Int) := by omega
   subst hkl'
   go_wp2_with (with_reducible refine wpList_str _ rfl _ 179 9 5 rfl Tryz.underlying179 Tryz.underlying9 Tryz.underlying5 w.heap.size _ (fmtK l l.length) hown rfl ?_)
   go_wp2
   go_ret2
   exact ⟨by rw [HF.out]; rfl, hb⟩
end Go.Proofs.YtbkkchhimhlhcaaGreatDoor
/- identityref05: Clean, Valid, parts, bytes. -/
namespace Go.Proofs.YtbkkchhimhlhcaaGreatDoor
open Go.RowKit Go.Sort
open Idn (L B Bs drop_L take_L size_L)
theorem component_whole (x : Bs) (h : (Idn.component x).2 = 0) : Idn.name (Idn.component x).1.1 = true ∧ Idn.clean (Idn.component x).1.2 = true := by
 revert h
 unfold Idn.component
 split
 ·intro h; simp at h
 ·split
  ·intro h; simp at h
  ·split
   ·intro h; simp at h
   ·split
    ·intro h; simp at h
    ·rename_i h1 h2
     intro _
     exact ⟨by simpa using h1, by simpa using h2⟩
theorem check1_of : ∀ l : List Idn.Pr, (∀ p ∈ l, Idn.name p.1 = true ∧ Idn.clean p.2 = true) → Idn.check1 l = 0
 | [], _ => rfl
 | p :: l, h => by
  obtain ⟨h1, h2⟩ := h p List.mem_cons_self
  unfold Idn.check1
  rw [h1, h2]
  exact check1_of l fun q hq => h q (List.mem_cons_of_mem _ hq)
theorem comps_whole : ∀ l : List Bs, (Idn.comps l).2 = 0 → ∀ p ∈ (Idn.comps l).1, Idn.name p.1 = true ∧ Idn.clean p.2 = true
 | [], _, p, hp => by simp [Idn.comps] at hp
 | x :: l, h, p, hp => by
  by_cases h0 : (Idn.component x).2 = 0
  ·rw [comps_cons x l h0] at h hp
   unfold compsK at h hp
   by_cases h1 : (Idn.comps l).2 = 0
   ·rw [if_neg (by simp [h1])] at hp
    rcases List.mem_append.1 hp with hp | hp
    ·rw [List.mem_singleton] at hp
     subst hp
     exact component_whole x h0
    ·exact comps_whole l h1 p hp
   ·simp [h1] at h
  ·rw [Idn.comps, if_pos (by simpa using h0)] at hp
   simp at hp
theorem parse_whole (s : Bs) (h : (Idn.parse s).2 = 0) : Idn.check (Idn.parse s).1 = 0 := by
 have h8 := (parse_sm s).1
 have : Idn.check1 (Idn.parse s).1 = 0 := by
  refine check1_of _ ?_
  revert h
  unfold Idn.parse
  split
  ·intro _ p hp; simp at hp
  ·split
   ·intro h; rename_i h1; simp only at h; simp [h] at h1
   ·split
    ·intro h; simp at h
    ·rename_i h1 _
     intro _
     exact comps_whole _ (by simpa using h1)
 unfold Idn.check
 rw [this, if_neg (by decide), if_neg (by omega)]
theorem cleanN_ok {s : Bs} (h : (Idn.parse s).2 = 0) : Idn.cleanN s = (Idn.fmtJ (Idn.parse s).1, 0) := by
 have hc := parse_whole s h
 unfold Idn.cleanN Idn.format
 rw [if_neg (by simp [h]), if_neg (by simp [hc])]
theorem r5_Clean_any (s : ByteArray) (w : World) (hs : s.size ≤ 1000000000) :
  Calls Tryz.prog 140 #[.string s] w fun e w' => e = .returned (.tuple #[.string (B (Idn.cleanN (L s)).1), .int .i64 (Idn.cleanN (L s)).2]) ∧ Below w.heap.size w w' := by
 have hP := r5_parse_any s w hs
 have hck := parse_whole (L s)
 have hco := fun h => cleanN_ok (s := L s) h
 generalize hr : Idn.cleanN (L s) = r at *
 have HR : Hid (r = if (Idn.parse (L s)).2 != 0 then ([], (Idn.parse (L s)).2) else Idn.format (Idn.parse (L s)).1) := hr.symm
 generalize Idn.parse (L s) = pp at *
 obtain ⟨l, x⟩ := pp
 dsimp only at HR hck hco
 clear hr
 by_cases h0 : x = 0
 ·subst h0
  have HF : Hid (r = (Idn.fmtJ l, 0)) := hco rfl
  have hF := fun (v : Value) W (hv : PairsV W W.heap.size v l) => r5_format_any v l W hv (hck rfl)
  generalize Idn.fmtJ l = fm at *
  clear HR hck hco
  go_enter Tryz.func140, Tryz.ntmps140
  go_wp2_with fail
  refine hP.mono ?_
  rintro e w1 ⟨v1, rfl, hown1, hb1⟩
  obtain ⟨A, c, hv⟩ := own_shape hown1
  subst hv
  have hF1 := hF _ w1 (PairsV.of_own hown1)
  clear hP hF hown1
  dsimp only at *
  go_wp2_with fail
  refine hF1.mono ?_
  rintro e w2 ⟨rfl, hb2⟩
  clear hF1
  go_wp2
  go_ret2
  exact ⟨by rw [HF.out] <;> rfl, hb1.trans (hb2.mono hb1.size)⟩
 ·have HF : Hid (r = ([], x)) := by show _ = _; rw [HR.out, if_pos (by simpa using h0)]
  have h1 : (x != 0) = true := by simpa using h0
  have h2 : (x == 0) = false := by simpa using h0
  clear HR h0 hck hco
  go_enter Tryz.func140, Tryz.ntmps140
  go_wp2_with fail
  refine hP.mono ?_
  rintro e w1 ⟨v1, rfl, hown1, hb1⟩
  obtain ⟨A, c, hv⟩ := own_shape hown1
  subst hv
  clear hP hown1
  go_wp2
  go_ret2
  exact ⟨by rw [HF.out] <;> rfl, hb1⟩
def validN (s : Bs) : Bool := (Idn.cleanN s).2 == 0 && (Idn.cleanN s).1 == s
theorem normal_valid (s : Bs) : (Idn.normal s).2 = validN s := by
 unfold Idn.normal validN
 by_cases h : (Idn.parse s).2 = 0
 ·rw [if_neg (by simp [h])]
  unfold Idn.cleanN
  rw [if_neg (by simp [h])]
 ·rw [if_pos (by simpa using h)]
  unfold Idn.cleanN
  rw [if_pos (by simpa using h)]
  have : ((Idn.parse s).2 == 0) = false := by simpa using h
  dsimp only
  rw [this]; rfl
theorem normal_parts {s : Bs} (h : validN s = true) : (Idn.normal s).1 = (Idn.parse s).1 ∧ (Idn.parse s).2 = 0 := by
 rw [← normal_valid] at h
 unfold Idn.normal at h ⊢
 by_cases h2 : (Idn.parse s).2 = 0
 ·rw [if_neg (by simp [h2])]; exact ⟨rfl, h2⟩
 ·rw [if_pos (by simpa using h2)] at h; simp at h
theorem r5_Valid_any (s : ByteArray) (w : World) (hs : s.size ≤ 1000000000) :
  Calls Tryz.prog 64 #[.string s] w fun e w' => e = .returned (.bool (validN (L s))) ∧ Below w.heap.size w w' := by
 have hC := r5_Clean_any s w hs
 generalize hr : validN (L s) = r
 have HR : Hid (r = ((Idn.cleanN (L s)).2 == 0 && (Idn.cleanN (L s)).1 == L s)) := hr.symm
 generalize Idn.cleanN (L s) = c at *
 obtain ⟨t, x⟩ := c
 dsimp only at HR hC
 have hbe : ((B t).toList == s.toList) = (t == L s) := by rw [str_beq, Idn.L_B, list_beq]
 generalize (t == L s) = q at *
 clear hr
 by_cases h0 : x = 0
 ·subst h0
  have HF : Hid (r = q) := by show _ = _; rw [HR.out]; rfl
  clear HR
  cases q
  all_goals
   go_enter Tryz.func64, Tryz.ntmps64
   go_wp2_with fail
   refine hC.mono ?_
   rintro e w1 ⟨rfl, hb1⟩
   go_wp2
   go_ret
   exact ⟨ret_bool HF.out.symm, hb1⟩
 ·have e0 : (x == 0) = false := by simpa using h0
  have HF : Hid (r = false) := by show _ = _; rw [HR.out, e0]; rfl
  clear HR h0
  go_enter Tryz.func64, Tryz.ntmps64
  go_wp2_with fail
  refine hC.mono ?_
  rintro e w1 ⟨rfl, hb1⟩
  go_wp2
  go_ret
  exact ⟨ret_bool HF.out.symm, hb1⟩
def partsN (s : Bs) : List Idn.Pr × Bool := if validN s = true then ((Idn.parse s).1, true) else ([], false)
theorem r5_parts_any (s : ByteArray) (w : World) (hs : s.size ≤ 1000000000) :
  Calls Tryz.prog 143 #[.string s] w (RetPB w (partsN (L s))) := by
 have hV := r5_Valid_any s w hs
 have hP := fun W => r5_parse_any s W hs
 generalize hr : partsN (L s) = r
 have HR : Hid (r = if validN (L s) = true then ((Idn.parse (L s)).1, true) else ([], false)) := hr.symm
 clear hr
 generalize Idn.parse (L s) = pp at *
 obtain ⟨l, x⟩ := pp
 dsimp only at HR
 cases hv : validN (L s)
 ·rw [hv] at hV HR
  have HF : Hid (r = ([], false)) := HR.out
  clear HR hP
  go_enter Tryz.func143, Tryz.ntmps143
  go_wp2_with fail
  refine hV.mono ?_
  rintro e w1 ⟨rfl, hb1⟩
  go_wp2
  go_ret2
  exact ⟨.slice none 0 0, by rw [HF.out]; rfl, by rw [HF.out]; exact World.ownsRow_nil _ _ _ _, hb1⟩
 ·rw [hv] at hV HR
  have HF : Hid (r = (l, true)) := HR.out
  clear HR
  go_enter Tryz.func143, Tryz.ntmps143
  go_wp2_with fail
  refine hV.mono ?_
  rintro e w1 ⟨rfl, hb1⟩
  clear hV
  go_wp2_with fail
  refine (hP _).mono ?_
  rintro e w2 ⟨v2, rfl, hown2, hb2⟩
  obtain ⟨A, c, hv2⟩ := own_shape hown2
  subst hv2
  clear hP
  dsimp only at *
  go_wp2
  go_ret2
  exact ⟨.slice A l.length c, by rw [HF.out]; rfl, by rw [HF.out]; exact own_base hown2 hb1.size, hb1.trans (hb2.mono hb1.size)⟩
theorem r5_bytes_any (a b : ByteArray) (w : World) : Calls Tryz.prog 144 #[.string a, .string b] w fun e w' => e = .returned (.int .i64 (cmpB (L a) (L b))) ∧ w = w' := by
 have h1 : Op.bytesLess a.toList b.toList = decide (L a < L b) := by rw [bytesLess_eq, toList_L, toList_L]
 have h2 : Op.bytesLess b.toList a.toList = decide (L b < L a) := by rw [bytesLess_eq, toList_L, toList_L]
 generalize hr : cmpB (L a) (L b) = r
 have HR : Hid (r = cmpB (L a) (L b)) := hr.symm
 clear hr
 unfold cmpB at HR
 by_cases c1 : L a < L b
 ·have HF : Hid (r = -1) := by show _ = _; rw [HR.out, if_pos c1]
  rw [decide_eq_true c1] at h1
  clear c1 HR
  go_enter Tryz.func144, Tryz.ntmps144
  go_wp2
  go_ret
  exact ⟨ret_int HF.out.symm, rfl⟩
 ·rw [decide_eq_false c1] at h1
  by_cases c2 : L b < L a
  ·have HF : Hid (r = 1) := by show _ = _; rw [HR.out, if_neg c1, if_pos c2]
   have he : (a.toList == b.toList) = false := str_not (fun e => by rw [e] at c2; exact List.lt_irrefl _ c2)
   rw [decide_eq_true c2] at h2
   clear c1 c2 HR
   go_enter Tryz.func144, Tryz.ntmps144
   go_wp2
   go_ret
   exact ⟨ret_int HF.out.symm, rfl⟩
  ·have HF : Hid (r = 0) := by show _ = _; rw [HR.out, if_neg c1, if_neg c2]
   have he : (a.toList == b.toList) = true := str_is (Decidable.byContradiction fun e => c2 (Idn.lt_of _ _ c1 e))
   rw [decide_eq_false c2] at h2
   clear c1 c2 HR
   go_enter Tryz.func144, Tryz.ntmps144
   go_wp2
   go_ret
   exact ⟨ret_int HF.out.symm, rfl⟩
end Go.Proofs.YtbkkchhimhlhcaaGreatDoor
