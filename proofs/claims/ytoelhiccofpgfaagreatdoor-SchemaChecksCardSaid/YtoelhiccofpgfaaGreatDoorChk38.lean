/- Part 38 of the proof that SchemaChecks returns true for every schema: the package variables hold what the program lays; nothing else is asked. -/
import Derived.Test.YtoelhiccofpgfaaGreatDoorChk01
import Derived.Test.YtoelhiccofpgfaaGreatDoorChk04
import Derived.Test.YtoelhiccofpgfaaGreatDoorChk07
/- Walks of the layer name (first part): special, index. -/
namespace Go.Proofs.YtoelhiccofpgfaaGreatDoor
open Go.RowKit
open Idn (L B Bs drop_L take_L size_L)

theorem byte_ne (c d : UInt8) : ((c.toNat : Int) != (d.toNat : Int)) = (c != d) := by
  simp only [bne, byte_eq]
theorem byte_is {c d : UInt8} (h : c = d) : ((c.toNat : Int) == (d.toNat : Int)) = true := by rw [byte_eq]; simpa using h
theorem byte_not {c d : UInt8} (h : ¬ c = d) : ((c.toNat : Int) == (d.toNat : Int)) = false := by rw [byte_eq]; simpa using h

theorem special_any (c : UInt8) (w : World) :
    Calls Tryz.prog 133 #[.int .u8 (c.toNat : Int)] w fun e w' => e = .returned (.bool (Idn.special c)) ∧ w = w' := by
  have e1 := byte_eq c 44
  have e2 := byte_eq c 61
  have e3 := byte_eq c 43
  have e4 := byte_eq c 92
  cases h1 : c == 44 <;> cases h2 : c == 61 <;> cases h3 : c == 43
  all_goals
    rw [h1] at e1
    rw [h2] at e2
    rw [h3] at e3
    replace e1 : ((c.toNat : Int) == 44) = _ := e1
    replace e2 : ((c.toNat : Int) == 61) = _ := e2
    replace e3 : ((c.toNat : Int) == 43) = _ := e3
    replace e4 : ((c.toNat : Int) == 92) = _ := e4
    have E4 := Lib.hid e4
    clear e4
    go_enter Tryz.func133, Tryz.ntmps133
    go_wp2
    go_ret
    refine ⟨ret_bool ?_, rfl⟩
    simp [Idn.special, h1, h2, h3]
    try exact E4.out

theorem drop_end (s : ByteArray) (k : Nat) (h : ¬ k < s.size) : (L s).drop k = [] := List.drop_eq_nil_of_le (by have := size_L s; omega)
theorem drop_last (s : ByteArray) (k : Nat) (h : k < s.size) (h' : ¬ k + 1 < s.size) : (L s).drop k = [s[k]] := by rw [drop_L s k h, drop_end s (k + 1) h']
theorem drop_two (s : ByteArray) (k : Nat) (h : k + 1 < s.size) : (L s).drop k = s[k] :: s[k+1] :: (L s).drop (k + 2) := by rw [drop_L s k (by omega), drop_L s (k + 1) h]

/-- name.index -/
theorem index_any (s : ByteArray) (c : UInt8) (w : World) (hs : s.size ≤ 1000000000000) :
    Calls Tryz.prog 175 #[.string s, .int .u8 (c.toNat : Int)] w fun e w' => e = .returned (.int .i64 (Idn.idxI c (L s))) ∧ w = w' := by
  go_enter Tryz.func175, Tryz.ntmps175
  go_wp2
  go_loop [5] (fun i => ∃ k : Nat, k ≤ s.size + 1 ∧ i = .int .i64 k ∧ Hid (Idn.idx c (L s) = (Idn.idx c ((L s).drop k)).map (· + k))) (fun i => s.size + 1 - (intOf i).toNat)
  case atStart => exact ⟨0, Nat.zero_le _, rfl, by show _ = _; simp⟩
  case round =>
    obtain ⟨k, hk, rfl, hinv⟩ := hrel
    by_cases hlt : k < s.size
    · by_cases hc : s[k] = c
      · have e1 := byte_is hc
        have HF : Hid (Idn.idxI c (L s) = k) := by
          show _ = _
          have : Idn.idx c (L s) = some k := by
            rw [hinv.out]
            by_cases h2 : k + 1 < s.size
            · rw [drop_two s k h2]; simp [Idn.idx, hc]
            · rw [drop_last s k hlt h2]; simp [Idn.idx, hc]
          rw [Idn.idxI, this]
        clear hc
        go_wp2
        go_ret
        exact ⟨ret_int HF.out.symm, rfl⟩
      · have e1 := byte_not hc
        by_cases h92 : s[k] = 92
        · have e2 : ((s[k].toNat : Int) == 92) = true := by rw [h92]; rfl
          have HF : Hid (Idn.idx c (L s) = (Idn.idx c ((L s).drop (k + 2))).map (· + (k + 2))) := by
            show _ = _
            rw [hinv.out]
            by_cases h2 : k + 1 < s.size
            · rw [drop_two s k h2, Idn.idx, if_neg (by simpa using hc), if_pos (by simpa using h92)]
              simp [Function.comp_def, Nat.add_assoc, Nat.add_comm 2 k]
            · rw [drop_last s k hlt h2, drop_end s (k + 2) (by omega)]; simp [Idn.idx, hc]
          clear hc h92
          go_wp2
          go_round
          case rel => exact ⟨k + 2, by omega, by go_num, HF⟩
          case measure => simp [intOf]; omega
        · have e2 : ((s[k].toNat : Int) == 92) = false := byte_not (d := 92) h92
          have HF : Hid (Idn.idx c (L s) = (Idn.idx c ((L s).drop (k + 1))).map (· + (k + 1))) := by
            show _ = _
            rw [hinv.out]
            by_cases h2 : k + 1 < s.size
            · rw [drop_two s k h2, Idn.idx, if_neg (by simpa using hc), if_neg (by simpa using h92), drop_L s (k+1) h2]
              simp [Function.comp_def, Nat.add_assoc, Nat.add_comm 1 k]
            · rw [drop_last s k hlt h2, drop_end s (k + 1) (by omega)]; simp [Idn.idx, hc]
          clear hc h92
          go_wp2
          go_round
          case rel => exact ⟨k + 1, by omega, by go_num, HF⟩
          case measure => simp [intOf]; omega
    · have HF : Hid (Idn.idxI c (L s) = -1) := by
        show _ = _
        have : Idn.idx c (L s) = none := by rw [hinv.out, drop_end s k hlt]; rfl
        rw [Idn.idxI, this]
      go_wp2
      go_ret
      exact ⟨ret_int HF.out.symm, rfl⟩

theorem idxI_none {c : UInt8} {l : Bs} (h : Idn.idx c l = none) : Idn.idxI c l = -1 := by rw [Idn.idxI, h]
theorem idxI_some {c : UInt8} {l : Bs} {k : Nat} (h : Idn.idx c l = some k) : Idn.idxI c l = k := by rw [Idn.idxI, h]

set_option maxRecDepth 100000 in
/-- name.pieces -/
theorem pieces_any (s : ByteArray) (w : World) (hs : s.size ≤ 1000000000000) :
    Calls Tryz.prog 129 #[.string s] w (RetS w (Idn.pcs (L s))) := by
  go_enter Tryz.func129, Tryz.ntmps129
  go_wp2
  go_loopw [0, 3, 4] (fun t v _ wr => ∃ (x : ByteArray) (ps : List Bs), t = .string x ∧ wr.ownsRow w.heap.size 9 1 v ps.length (ps.map sv) ∧ Below w.heap.size w wr ∧ ps.length + x.size ≤ s.size ∧ Hid (ps ++ Idn.pcs (L x) = Idn.pcs (L s))) (fun t _ _ _ => strLen t)
  case atStart => exact ⟨s, [], rfl, World.ownsRow_nil _ _ _ _, Below.refl _ _, by simp, rfl⟩
  case round =>
    obtain ⟨x, ps, rfl, hown, hb, hl, hinv⟩ := hrel
    have hI := index_any x 44 wr (by omega)
    have hp := Idn.pcs_idx (L x)
    cases hi : Idn.idx 44 (L x) with
    | none =>
      rw [idxI_none hi] at hI
      rw [hi] at hp
      have HF : Hid (Idn.pcs (L s) = ps ++ [L x]) := by show _ = _; rw [← hinv.out, hp]
      clear hp hi
      go_wp2_with (first | (go_at_call 175; refine hI.mono ?_; rintro e w' ⟨rfl, rfl⟩) | (at_builtin; refine wpList_push wr rfl _ _ 36 rfl w.heap.size 9 (.string ⟨#[]⟩) 1 16 Tryz.underlying36 info_str rfl (by decide) _ ps.length _ hown rfl [.string x] rfl rfl (by intro u hu; simp at hu; subst hu; rfl) (by omega) hb.size ?_ rfl))
      intro v' w1' hown' _ _ hb' _
      go_wp2
      go_ret
      refine ⟨v', rfl, ?_, hb.trans hb'⟩
      rw [HF.out, List.map_append, List.length_append]
      exact hown'
    | some k =>
      rw [idxI_some hi] at hI
      rw [hi] at hp
      have hk := Idn.idx_lt _ _ _ hi
      rw [← size_L] at hk
      have HF : Hid ((ps ++ [(L x).take k]) ++ Idn.pcs (L (x.extract (k + 1) x.size)) = Idn.pcs (L s)) := by
        show _ = _; rw [← hinv.out, hp, extract_drop]; simp [Idn.L_B]
      clear hp hi
      have hsz : (x.extract (k + 1) x.size).size = x.size - (k + 1) := by simp
      go_wp2_with (first | (go_at_call 175; refine hI.mono ?_; rintro e w' ⟨rfl, rfl⟩) | (at_builtin; refine wpList_push wr rfl _ _ 36 rfl w.heap.size 9 (.string ⟨#[]⟩) 1 16 Tryz.underlying36 info_str rfl (by decide) _ ps.length _ hown rfl [.string (x.extract 0 k)] rfl rfl (by intro u hu; simp at hu; subst hu; rfl) (by omega) hb.size ?_ rfl))
      intro v' w1' hown' _ _ hb' _
      clear hown
      go_wp2
      go_roundw
      case rel =>
        refine ⟨_, ps ++ [(L x).take k], rfl, ?_, hb.trans hb', ?_, HF⟩
        · rw [List.map_append, List.length_append]; rw [extract_take] at hown'; exact hown'
        · simp; omega
      case measure => simp [strLen]; omega
end Go.Proofs.YtoelhiccofpgfaaGreatDoor
/- Walks of the reference of layer 1 (identityref01): Lower, Trim, Fold, Clean, Name. -/
namespace Go.Proofs.YtoelhiccofpgfaaGreatDoor
open Go.RowKit
open Idn (L B Bs drop_L take_L size_L)

theorem r_letter_any (c : UInt8) (w : World) :
    Calls Tryz.prog 54 #[.int .u8 (c.toNat : Int)] w fun e w' => e = .returned (.bool (Idn.letter c)) ∧ w = w' := by
  have hl := byte_lt c
  by_cases h1 : (97 : Int) ≤ (c.toNat : Int) <;> by_cases h2 : (c.toNat : Int) ≤ 122 <;> by_cases h3 : (65 : Int) ≤ (c.toNat : Int)
  all_goals
    go_enter Tryz.func54, Tryz.ntmps54
    go_wp2
    go_ret
    exact ⟨ret_bool (by rw [Bool.eq_iff_iff]; simp [Idn.letter, Idn.up]; omega), rfl⟩
theorem r_digit_any (c : UInt8) (w : World) :
    Calls Tryz.prog 55 #[.int .u8 (c.toNat : Int)] w fun e w' => e = .returned (.bool (Idn.digit c)) ∧ w = w' := by
  by_cases h1 : (48 : Int) ≤ (c.toNat : Int)
  all_goals
    go_enter Tryz.func55, Tryz.ntmps55
    go_wp2
    go_ret
    exact ⟨ret_bool (by rw [Bool.eq_iff_iff]; simp [Idn.digit]; omega), rfl⟩

theorem sub65 (x : UInt8) (h : (x.toNat : Int) ≤ 90) : bc (x + 32) = Value.int .u8 ((x.toNat : Int) + 97 - 65) := by
  have h1 : ((x + 32).toNat : Int) = (x.toNat : Int) + 97 - 65 := by
    rw [UInt8.toNat_add]; simp; omega
  rw [bc, h1]

set_option maxRecDepth 100000 in
theorem r_lower_any (s : ByteArray) (w : World) (hs : s.size ≤ 1000000000000) :
    Calls Tryz.prog 60 #[.string s] w fun e w' => e = .returned (.string (B (Idn.lower (L s)))) ∧ Below w.heap.size w w' := by
  go_enter Tryz.func60, Tryz.ntmps60
  go_wp2
  go_loopw [3, 4, 5] (fun v i _ wr => ∃ k : Nat, k ≤ s.size ∧ i = .int .i64 k ∧ wr.ownsRow w.heap.size 5 1 v ((L s).take k).length ((Idn.lower ((L s).take k)).map bc) ∧ Below w.heap.size w wr) (fun _ i _ _ => s.size - (intOf i).toNat)
  case atStart => exact ⟨0, Nat.zero_le _, rfl, World.ownsRow_nil _ _ _ _, Below.refl _ _⟩
  case round =>
    obtain ⟨k, hk, rfl, hown, hb⟩ := hrel
    have hlen : ((L s).take k).length = k := by rw [List.length_take]; have := size_L s; omega
    rw [hlen] at hown
    by_cases hlt : k < s.size
    · have ht : Idn.lower ((L s).take (k + 1)) = Idn.lower ((L s).take k) ++ [Idn.low s[k]] := by rw [take_L s k hlt]; simp [Idn.lower]
      have hlen' : ((L s).take (k + 1)).length = k + 1 := by rw [List.length_take]; have := size_L s; omega
      have HT := Lib.hid ht
      have HL := Lib.hid hlen'
      clear ht hlen hlen'
      cases hu : Idn.up s[k]
      · have hlow : Hid (bc (Idn.low s[k]) = Value.int .u8 (s[k].toNat : Int)) := by show _ = _; simp [Idn.low, hu, bc]
        have hu' : (s[k].toNat : Int) < 65 ∨ 90 < (s[k].toNat : Int) := by simp [Idn.up] at hu; omega
        clear hu
        by_cases h65 : (65 : Int) ≤ (s[k].toNat : Int)
        all_goals
          go_wp2_with (at_builtin; refine wpList_push wr rfl _ _ 79 rfl w.heap.size 5 (.int .u8 0) 1 1 Tryz.underlying79 info_u8 rfl (by decide) _ k _ hown rfl [.int .u8 (s[k].toNat : Int)] rfl rfl (by intro u hu; simp at hu; subst hu; rfl) (by omega) hb.size ?_ rfl)
          intro v' w1' hown' _ _ hb' _
          clear hown
          go_wp2
          go_roundw
          case rel => exact ⟨k + 1, by omega, by go_num, by rw [HL.out, HT.out, List.map_append]; simp only [List.map_cons, List.map_nil]; rw [hlow.out]; exact hown', hb.trans hb'⟩
          case measure => simp [intOf]; omega
      · have h65 : (65 : Int) ≤ (s[k].toNat : Int) := by simp [Idn.up] at hu; omega
        have h90 : (s[k].toNat : Int) ≤ 90 := by simp [Idn.up] at hu; omega
        have hlow : Hid (bc (Idn.low s[k]) = Value.int .u8 ((s[k].toNat : Int) + 97 - 65)) := by show _ = _; simp only [Idn.low, hu, if_true]; exact sub65 _ h90
        clear hu
        go_wp2_with (at_builtin; refine wpList_push wr rfl _ _ 79 rfl w.heap.size 5 (.int .u8 0) 1 1 Tryz.underlying79 info_u8 rfl (by decide) _ k _ hown rfl _ rfl rfl (by intro u hu; simp at hu; subst hu; rfl) (by omega) hb.size ?_ rfl)
        intro v' w1' hown' _ _ hb' _
        clear hown
        go_wp2
        go_roundw
        case rel => exact ⟨k + 1, by omega, by go_num, by rw [HL.out, HT.out, List.map_append]; simp only [List.map_cons, List.map_nil]; rw [hlow.out]; exact hown', hb.trans hb'⟩
        case measure => simp [intOf]; omega
    · have e1 : (L s).take k = L s := List.take_of_length_le (by have := size_L s; omega)
      rw [e1] at hown
      have hown2 : wr.ownsRow w.heap.size 5 1 u3 (Idn.lower (L s)).length ((Idn.lower (L s)).map bc) := by
        rw [Idn.length_lower, (show (L s).length = k by rw [← e1]; exact hlen)]; exact hown
      clear hown e1 hlen
      go_wp2_with (with_reducible refine wpList_str _ rfl _ 79 9 5 rfl Tryz.underlying79 Tryz.underlying9 Tryz.underlying5 w.heap.size _ _ hown2 rfl ?_)
      go_wp2
      go_ret
      exact ⟨rfl, hb⟩

theorem trimL_drop (s : ByteArray) (h : 0 < s.size) (h32 : s[0] = 32) : Idn.trimL (L (s.extract 1 s.size)) = Idn.trimL (L s) := by
  have hd := drop_L s 0 h
  simp only [List.drop_zero] at hd
  rw [extract_drop, Idn.L_B, hd]
  simp [Idn.trimL, h32]
theorem trimL_here (s : ByteArray) (h : 0 < s.size) (h32 : ¬ s[0] = 32) : Idn.trimL (L s) = L s := by
  have hd := drop_L s 0 h
  simp only [List.drop_zero] at hd
  rw [hd]; exact Idn.trimL_of_head _ _ h32
theorem trimL_zero (s : ByteArray) (h : ¬ 0 < s.size) : Idn.trimL (L s) = L s := by
  have hd := drop_end s 0 h
  simp only [List.drop_zero] at hd
  rw [hd]; rfl
theorem snoc_L (s : ByteArray) (h : 0 < s.size) : L s = L (s.extract 0 (s.size - 1)) ++ [s[s.size - 1]] := by
  rw [extract_take, Idn.L_B]
  have h1 := take_L s (s.size - 1) (by omega)
  rw [← h1, List.take_of_length_le (by have := size_L s; omega)]
def trimR (l : Bs) : Bs := (Idn.trimL l.reverse).reverse
theorem trimR_drop (s : ByteArray) (h : 0 < s.size) (h32 : s[s.size - 1] = 32) : trimR (L (s.extract 0 (s.size - 1))) = trimR (L s) := by
  rw [snoc_L s h]; simp [trimR, Idn.trimL, h32]
theorem trimR_here (s : ByteArray) (h : 0 < s.size) (h32 : ¬ s[s.size - 1] = 32) : trimR (L s) = L s := by
  rw [snoc_L s h]; simp [trimR, Idn.trimL, h32]
theorem trimR_zero (s : ByteArray) (h : ¬ 0 < s.size) : trimR (L s) = L s := by
  have hd := drop_end s 0 h
  simp only [List.drop_zero] at hd
  rw [hd]; rfl

end Go.Proofs.YtoelhiccofpgfaaGreatDoor
