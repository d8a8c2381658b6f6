/- Part 39 of the proof that SchemaOrders: the package variables hold what the program lays; nothing else is asked. -/
import Derived.Test.YtnaaoilflokmfaaGreatDoorOdr04
import Derived.Test.YtnaaoilflokmfaaGreatDoorOdr07
import Derived.Deep.QuietTactic
import Derived.BigQuiet
/- Walks of the reference of layer 1 (identityref01): Clean, Name. -/
namespace Go.Proofs.YtnaaoilflokmfaaGreatDoor
open Go.RowKit
open Idn (L B Bs drop_L take_L size_L)

theorem length_trimR (l : Bs) : (trimR l).length ≤ l.length := by
  have := Idn.length_trimL l.reverse
  simpa [trimR] using this
theorem trim_eq_trimR (l : Bs) : Idn.trim l = trimR (Idn.trimL l) := rfl
theorem trim_self (s : ByteArray) (h : 0 < s.size) (h1 : ¬ s[0] = 32) (h2 : ¬ s[s.size - 1] = 32) : Idn.trim (L s) = L s := by
  rw [trim_eq_trimR, trimL_here s h h1, trimR_here s h h2]
theorem trim_less1 (s : ByteArray) (h : 0 < s.size) (h1 : s[0] = 32) : (Idn.trim (L s) == L s) = false := by
  rw [beq_eq_false_iff_ne]; intro e
  have e1 := congrArg List.length e
  rw [trim_eq_trimR, ← trimL_drop s h h1] at e1
  have a := length_trimR (Idn.trimL (L (s.extract 1 s.size)))
  have b := Idn.length_trimL (L (s.extract 1 s.size))
  have c : (L (s.extract 1 s.size)).length = s.size - 1 := by rw [← size_L]; simp
  have d := size_L s
  omega
theorem trim_less2 (s : ByteArray) (h : 0 < s.size) (h1 : ¬ s[0] = 32) (h2 : s[s.size - 1] = 32) : (Idn.trim (L s) == L s) = false := by
  rw [beq_eq_false_iff_ne]; intro e
  have e1 := congrArg List.length e
  rw [trim_eq_trimR, trimL_here s h h1, ← trimR_drop s h h2] at e1
  have a := length_trimR (L (s.extract 0 (s.size - 1)))
  have c : (L (s.extract 0 (s.size - 1))).length = s.size - 1 := by rw [← size_L]; simp
  have d := size_L s
  omega

set_option maxRecDepth 100000 in
theorem r_name_any (s : ByteArray) (w : World) (hs : s.size ≤ 1000000000000) :
    Calls Tryz.prog 150 #[.string s] w fun e w' => e = .returned (.bool (Idn.name (L s))) ∧ w = w' := by
  have HSZ := Lib.hid (size_L s)
  by_cases h0 : 0 < s.size
  · have hne : (L s).isEmpty = false := empty_false s h0
    have hL0 := r_letter_any s[0] w
    by_cases h64 : s.size ≤ 64
    · cases hl : Idn.letter s[0]
      · rw [hl] at hL0
        have HF : Hid (Idn.name (L s) = false) := by show _ = _; rw [Idn.name, head_L s h0, hl]; simp
        clear hl
        go_enter Tryz.func150, Tryz.ntmps150
        go_wp2_with (go_at_call 188; refine hL0.mono ?_; rintro e w' ⟨rfl, rfl⟩)
        go_ret
        exact ⟨ret_bool HF.out.symm, rfl⟩
      · rw [hl] at hL0
        have HC : Hid (Idn.name (L s) = (L s).all Idn.nameC) := by
          show _ = _
          have : (L s).length ≤ 64 := by have := HSZ.out; omega
          rw [Idn.name, head_L s h0, hl]; simp [Idn.made, hne, this]
        clear hl
        go_enter Tryz.func150, Tryz.ntmps150
        go_wp2_with (go_at_call 188; refine hL0.mono ?_; rintro e w' ⟨rfl, rfl⟩)
        go_loop [3] (fun i => ∃ k : Nat, k ≤ s.size ∧ i = .int .i64 k ∧ Hid ((L s).all Idn.nameC = ((L s).drop k).all Idn.nameC)) (fun i => s.size - (intOf i).toNat)
        case atStart => exact ⟨0, Nat.zero_le _, rfl, rfl⟩
        case round =>
          obtain ⟨k, hk, rfl, hinv⟩ := hrel
          clear hL0
          by_cases hlt : k < s.size
          · have hd := drop_L s k hlt
            have hL := r_letter_any s[k] w
            have hD := r_digit_any s[k] w
            cases h1 : Idn.letter s[k] <;> cases h2 : Idn.digit s[k] <;> cases h3 : s[k] == 45
            all_goals
              rw [h1] at hL
              rw [h2] at hD
              have e3 : ((s[k].toNat : Int) != 45) = !(s[k] == 45) := byte_ne _ 45
              rw [h3] at e3
              first
                | (have HF : Hid ((L s).all Idn.nameC = ((L s).drop (k+1)).all Idn.nameC) := by
                     show _ = _; rw [hinv.out, hd]; simp [Idn.nameC, h1, h2, h3]; done
                   clear hd h1 h2 h3
                   go_wp2_with (first | (go_at_call 188; refine hL.mono ?_; rintro e w' ⟨rfl, rfl⟩) | (go_at_call 189; refine hD.mono ?_; rintro e w' ⟨rfl, rfl⟩))
                   go_round
                   case rel => exact ⟨k + 1, by omega, by go_num, HF⟩
                   case measure => simp [intOf]; omega)
                | (have HF : Hid ((L s).all Idn.nameC = false) := by
                     show _ = _; rw [hinv.out, hd]; simp [Idn.nameC, h1, h2, h3]; done
                   clear hd h1 h2 h3
                   go_wp2_with (first | (go_at_call 188; refine hL.mono ?_; rintro e w' ⟨rfl, rfl⟩) | (go_at_call 189; refine hD.mono ?_; rintro e w' ⟨rfl, rfl⟩))
                   go_ret
                   exact ⟨ret_bool (by rw [HC.out, HF.out]), rfl⟩)
          · have HF : Hid ((L s).all Idn.nameC = true) := by show _ = _; rw [hinv.out, drop_end s k hlt]; rfl
            go_wp2
            go_ret
            exact ⟨ret_bool (by rw [HC.out, HF.out]), rfl⟩
    · have HF : Hid (Idn.name (L s) = false) := by
        show _ = _
        have : ¬ (L s).length ≤ 64 := by have := HSZ.out; omega
        simp [Idn.name, Idn.made, this]
      clear hL0
      go_enter Tryz.func150, Tryz.ntmps150
      go_wp2
      go_ret
      exact ⟨ret_bool HF.out.symm, rfl⟩
  · have HF : Hid (Idn.name (L s) = false) := by
      show _ = _
      have : (L s).isEmpty = true := empty_true s h0
      simp [Idn.name, Idn.made, this]
    go_enter Tryz.func150, Tryz.ntmps150
    go_wp2
    go_ret
    exact ⟨ret_bool HF.out.symm, rfl⟩
end Go.Proofs.YtnaaoilflokmfaaGreatDoor
/- Walks of the reference of layer 7: Lists, same. -/
namespace Go.Proofs.YtnaaoilflokmfaaGreatDoor
open Go.RowKit
open Idn (L B Bs drop_L take_L size_L)

set_option maxRecDepth 100000 in
theorem r_lists_any (v u : Value) (l m : List Bs) (w : World) (hv : StrsV w w.heap.size v l) (hu : StrsV w w.heap.size u m) (hl : l.length ≤ 1000000000000) (hm : m.length ≤ 1000000000000) :
    Calls Tryz.prog 27 #[v, u] w fun e w' => e = .returned (.bool (decide (l = m))) ∧ Below w.heap.size w w' := by
  obtain ⟨A, c, rfl, hc⟩ := hv.shape
  obtain ⟨A', c', rfl, hc'⟩ := hu.shape
  by_cases hlen : l.length = m.length
  · have e0 : ((l.length : Int) != (m.length : Int)) = false := by simp [hlen]
    have HL := Lib.hid hlen
    clear hlen
    go_enter Tryz.func27, Tryz.ntmps27
    go_wp2
    go_loopw [5] (fun i wr => ∃ k : Nat, k ≤ l.length ∧ i = .int .i64 k ∧ Below w.heap.size w wr ∧ Hid (decide (l = m) = decide (l.drop k = m.drop k))) (fun i _ => l.length - (intOf i).toNat)
    case atStart => exact ⟨0, Nat.zero_le _, rfl, Below.refl _ _, rfl⟩
    case round =>
      obtain ⟨k, hk, rfl, hb, hinv⟩ := hrel
      clear e0
      by_cases hlt : k < l.length
      · have hltm : k < m.length := by have := HL.out; omega
        obtain ⟨b, off, rfl, hbl, c0⟩ := StrsV.cell (hv.keep hb) hlt
        obtain ⟨b', off', rfl, hbl', c0'⟩ := StrsV.cell (hu.keep hb) hltm
        have hd := List.drop_eq_getElem_cons hlt
        have hd' := List.drop_eq_getElem_cons hltm
        have hltI : (k : Int) < (m.length : Int) := by omega
        by_cases he : l[k] = m[k]
        · have HF : Hid (decide (l = m) = decide (l.drop (k+1) = m.drop (k+1))) := by
            show _ = _; rw [hinv.out]
            exact decide_eq_decide.2 (by rw [hd, hd', he, List.cons.injEq]; exact ⟨fun h => h.2, fun h => ⟨rfl, h⟩⟩)
          have ht : (((B l[k]).toList == (B m[k]).toList)) = true := str_is (by rw [he])
          clear hd hd' he
          go_wp2
          go_quiet (fail)
          go_wp2
          go_roundw
          case rel => exact ⟨k + 1, by omega, by go_num, below_drewN hb _, HF⟩
          case measure => simp [intOf]; omega
        · have HF : Hid (decide (l = m) = false) := by
            show _ = _; rw [hinv.out]
            exact decide_eq_false (by rw [hd, hd', List.cons.injEq]; exact fun h => he h.1)
          have ht : (((B l[k]).toList == (B m[k]).toList)) = false := str_not he
          clear hd hd' he
          go_wp2
          go_quiet (fail)
          go_wp2
          go_ret
          exact ⟨ret_bool HF.out.symm, below_drewN hb _⟩
      · have HF : Hid (decide (l = m) = true) := by
          show _ = _; rw [hinv.out]
          have := HL.out
          exact decide_eq_true (by rw [List.drop_eq_nil_of_le (by omega), List.drop_eq_nil_of_le (by omega)])
        go_wp2
        go_ret
        exact ⟨ret_bool HF.out.symm, hb⟩
  · have e0 : ((l.length : Int) != (m.length : Int)) = true := by rw [bne_iff_ne]; omega
    have HF : Hid (decide (l = m) = false) := decide_eq_false (fun h => hlen (by rw [h]))
    clear hlen
    go_enter Tryz.func27, Tryz.ntmps27
    go_wp2
    go_ret
    exact ⟨ret_bool HF.out.symm, Below.refl _ _⟩

theorem r_same_any (s t : ByteArray) (w : World) (hs : s.size ≤ 1000000000000) (ht : t.size ≤ 1000000000000) :
    Calls Tryz.prog 114 #[.string s, .string t] w fun e w' => e = .returned (.bool (decide (Idn.lower (L s) = Idn.lower (L t)))) ∧ Below w.heap.size w w' := by
  have h1 := r_lower_any s w hs
  have h2 := fun W => r_lower_any t W ht
  go_enter Tryz.func114, Tryz.ntmps114
  go_wp2_with fail
  refine h1.mono ?_
  rintro e w1 ⟨rfl, hb1⟩
  go_wp2_with fail
  refine (h2 _).mono ?_
  rintro e w2 ⟨rfl, hb2⟩
  go_wp2
  go_ret
  refine ⟨ret_bool ?_, hb1.trans (hb2.mono hb1.size)⟩
  rw [str_beq]; rfl
end Go.Proofs.YtnaaoilflokmfaaGreatDoor
/- Walks of the reference of layer 7: typeAt, classAt. -/
namespace Go.Proofs.YtnaaoilflokmfaaGreatDoor
open Go.RowKit
open Idn (L B Bs drop_L take_L size_L)

theorem findIdx_drop {α : Type} (p : α → Bool) (l : List α) (k : Nat) (hk : k < l.length) (h : l.findIdx? p = ((l.drop k).findIdx? p).map (· + k)) :
    (p l[k] = true → l.findIdx? p = some k) ∧ (p l[k] = false → l.findIdx? p = ((l.drop (k + 1)).findIdx? p).map (· + (k + 1))) := by
  rw [List.drop_eq_getElem_cons hk, List.findIdx?_cons] at h
  constructor
  · intro hp; rw [hp] at h; simpa using h
  · intro hp; rw [hp] at h; rw [h]; simp [Function.comp_def, Nat.add_assoc, Nat.add_comm 1 k]

set_option maxRecDepth 100000 in
theorem r_typeAt_any (v : Value) (l : List Idn.AT) (n : ByteArray) (w : World) (hv : TypesV w w.heap.size v l) (hs : TSm l) (hn : n.size ≤ 1000000000) :
    Calls Tryz.prog 151 #[v, .string n] w fun e w' => e = .returned (.int .i64 (Idn.optI (Idn.ixT l (L n)))) ∧ Below w.heap.size w w' := by
  obtain ⟨A, c, rfl, hc⟩ := hv.shape
  have hl := hs.1
  go_enter Tryz.func151, Tryz.ntmps151
  go_wp2
  go_loopw [5] (fun i wr => ∃ k : Nat, k ≤ l.length ∧ i = .int .i64 k ∧ Below w.heap.size w wr ∧ Hid (Idn.ixT l (L n) = ((Idn.ixT (l.drop k) (L n)).map (· + k)))) (fun i _ => l.length - (intOf i).toNat)
  case atStart => exact ⟨0, Nat.zero_le _, rfl, Below.refl _ _, by show _ = _; simp⟩
  case round =>
    obtain ⟨k, hk, rfl, hb, hinv⟩ := hrel
    by_cases hlt : k < l.length
    · obtain ⟨b, off, rfl, hbl, c0, _, _⟩ := TypesV.cell (hv.keep hb) hlt
      have hmem := hs.2 l[k] (List.getElem_mem hlt)
      have hS := r_same_any (B l[k].name) n wr (by rw [Idn.size_B]; omega) (by omega)
      have hfd := findIdx_drop _ l k hlt hinv.out
      by_cases he : Idn.lower l[k].name = Idn.lower (L n)
      · have e0 : decide (Idn.lower (L (B l[k].name)) = Idn.lower (L n)) = true := decide_eq_true he
        rw [e0] at hS
        have HF : Hid (Idn.ixT l (L n) = some k) := hfd.1 (decide_eq_true he)
        clear hfd e0 he
        go_wp2_with (go_at_call 114; refine hS.mono ?_; rintro e w1 ⟨rfl, hb1⟩)
        go_ret
        exact ⟨ret_int (by rw [HF.out]; rfl), hb.trans (hb1.mono hb.size)⟩
      · have e0 : decide (Idn.lower (L (B l[k].name)) = Idn.lower (L n)) = false := decide_eq_false he
        rw [e0] at hS
        have HF : Hid (Idn.ixT l (L n) = ((Idn.ixT (l.drop (k + 1)) (L n)).map (· + (k + 1)))) := hfd.2 (decide_eq_false he)
        clear hfd e0 he
        go_wp2_with (go_at_call 114; refine hS.mono ?_; rintro e w1 ⟨rfl, hb1⟩)
        go_roundw
        case rel => exact ⟨k + 1, by omega, by go_num, hb.trans (hb1.mono hb.size), HF⟩
        case measure => simp [intOf]; omega
    · have HF : Hid (Idn.ixT l (L n) = none) := by show _ = _; rw [hinv.out, List.drop_eq_nil_of_le (by omega)]; rfl
      go_wp2
      go_ret
      exact ⟨ret_int (by rw [HF.out]; rfl), hb⟩

set_option maxRecDepth 100000 in
theorem r_classAt_any (v : Value) (l : List Idn.Cl) (n : ByteArray) (w : World) (hv : ClassesV w w.heap.size v l) (hs : CSm l) (hn : n.size ≤ 1000000000) :
    Calls Tryz.prog 82 #[v, .string n] w fun e w' => e = .returned (.int .i64 (Idn.optI (Idn.ixC l (L n)))) ∧ Below w.heap.size w w' := by
  obtain ⟨A, c, rfl, hc⟩ := SlV.shape hv
  have hl := hs.1
  go_enter Tryz.func82, Tryz.ntmps82
  go_wp2
  go_loopw [5] (fun i wr => ∃ k : Nat, k ≤ l.length ∧ i = .int .i64 k ∧ Below w.heap.size w wr ∧ Hid (Idn.ixC l (L n) = ((Idn.ixC (l.drop k) (L n)).map (· + k)))) (fun i _ => l.length - (intOf i).toNat)
  case atStart => exact ⟨0, Nat.zero_le _, rfl, Below.refl _ _, by show _ = _; simp⟩
  case round =>
    obtain ⟨k, hk, rfl, hb, hinv⟩ := hrel
    by_cases hlt : k < l.length
    · obtain ⟨b, off, _, _, rfl, hbl, c0, _, _, _, _, _⟩ := ClassesV.cell (ClassesV.keep hv hb) hlt
      have hmem := (hs.2 l[k] (List.getElem_mem hlt)).1
      have hS := r_same_any (B l[k].name) n wr (by rw [Idn.size_B]; omega) (by omega)
      have hfd := findIdx_drop _ l k hlt hinv.out
      by_cases he : Idn.lower l[k].name = Idn.lower (L n)
      · have e0 : decide (Idn.lower (L (B l[k].name)) = Idn.lower (L n)) = true := decide_eq_true he
        rw [e0] at hS
        have HF : Hid (Idn.ixC l (L n) = some k) := hfd.1 (decide_eq_true he)
        clear hfd e0 he
        go_wp2_with (go_at_call 114; refine hS.mono ?_; rintro e w1 ⟨rfl, hb1⟩)
        go_ret
        exact ⟨ret_int (by rw [HF.out]; rfl), hb.trans (hb1.mono hb.size)⟩
      · have e0 : decide (Idn.lower (L (B l[k].name)) = Idn.lower (L n)) = false := decide_eq_false he
        rw [e0] at hS
        have HF : Hid (Idn.ixC l (L n) = ((Idn.ixC (l.drop (k + 1)) (L n)).map (· + (k + 1)))) := hfd.2 (decide_eq_false he)
        clear hfd e0 he
        go_wp2_with (go_at_call 114; refine hS.mono ?_; rintro e w1 ⟨rfl, hb1⟩)
        go_roundw
        case rel => exact ⟨k + 1, by omega, by go_num, hb.trans (hb1.mono hb.size), HF⟩
        case measure => simp [intOf]; omega
    · have HF : Hid (Idn.ixC l (L n) = none) := by show _ = _; rw [hinv.out, List.drop_eq_nil_of_le (by omega)]; rfl
      go_wp2
      go_ret
      exact ⟨ret_int (by rw [HF.out]; rfl), hb⟩
end Go.Proofs.YtnaaoilflokmfaaGreatDoor
