/- Part 41 of the proof that what Parse reads of a class's description is what the text says, and what it writes Parse reads back: the package variables hold what the program lays; nothing else is asked. -/
import Derived.Test.YtnikolglippfmaaGreatDoorTxs10
import Derived.Test.YtnikolglippfmaaGreatDoorTxs11
import Derived.Test.YtnikolglippfmaaGreatDoorTxs21
import Derived.Test.YtnikolglippfmaaGreatDoorTxs28
import Derived.Test.YtnikolglippfmaaGreatDoorTxs33
import Derived.Test.YtnikolglippfmaaGreatDoorTxs40
/- identityref07: Cut, names. -/
namespace Go.Proofs.YtnikolglippfmaaGreatDoor
open Go.RowKit Go.Sort
open Idn (L B Bs drop_L take_L size_L)
theorem onHead_nil {ls : List Bs} (h : ls ≠ []) : Idn.onHead [] ls = ls := by
  cases ls with
  | nil => exact absurd rfl h
  | cons q l => rfl
theorem onHead_app (p q : Bs) {ls : List Bs} (h : ls ≠ []) : Idn.onHead p (Idn.onHead q ls) = Idn.onHead (p ++ q) ls := by
  cases ls with
  | nil => exact absurd rfl h
  | cons r l => simp [Idn.onHead]
def pend (s : Bs) (f k : Nat) : Bs := (s.drop f).take (k - f)
theorem pend_zero (s : Bs) (k : Nat) : pend s k k = [] := by unfold pend; simp
theorem pend_succ (s : ByteArray) (f k : Nat) (hf : f ≤ k) (hk : k < s.size) : pend (L s) f (k + 1) = pend (L s) f k ++ [s[k]] := by
  unfold pend
  rw [show k + 1 - f = (k - f) + 1 by omega]
  have hl : k - f < ((L s).drop f).length := by rw [List.length_drop, ← size_L]; omega
  rw [List.take_succ_eq_append_getElem hl, List.getElem_drop]
  have e : f + (k - f) = k := by omega
  simp only [e]
  rfl
set_option maxHeartbeats 1000000 in
set_option maxRecDepth 100000 in
theorem r_Cut_any (s : ByteArray) (c : UInt8) (w : World) (hs : s.size ≤ 1000000000) :
    Calls Tryz.prog 66 #[.string s, .int .u8 (c.toNat : Int)] w (RetS w (Idn.cutC c (L s))) := by
  generalize hrr : Idn.cutC c (L s) = r
  have HR : Hid (r = Idn.cutC c (L s)) := hrr.symm
  clear hrr
  go_enter Tryz.func66, Tryz.ntmps66
  go_wp2
  go_loopw [5, 6, 7] (fun u f i wr => ∃ (k g : Nat) (acc : List Bs), k ≤ s.size + 1 ∧ i = .int .i64 k ∧ f = .int .i64 g ∧ wr.ownsRow w.heap.size 9 1 u acc.length (acc.map sv) ∧ Below w.heap.size w wr ∧ acc.length ≤ k ∧
    ((k ≤ s.size ∧ g ≤ k ∧ Hid (r = acc ++ Idn.onHead (pend (L s) g k) (Idn.cutC c ((L s).drop k)))) ∨ (¬ k ≤ s.size ∧ Hid (r = acc)))) (fun _ _ i _ => s.size + 1 - (intOf i).toNat)
  case atStart => exact ⟨0, 0, [], Nat.zero_le _, rfl, rfl, World.ownsRow_nil _ _ _ _, Below.refl _ _, by simp, .inl ⟨Nat.zero_le _, Nat.le_refl _, by show _ = _; rw [HR.out, pend_zero, onHead_nil (Idn.cutC_ne _ _)]; simp⟩⟩
  case round =>
    obtain ⟨k, g, acc, hk, rfl, rfl, hown, hb, hal, hcase⟩ := hrel
    clear HR
    rcases hcase with ⟨hk2, hg, hinv⟩ | ⟨hk2, hinv⟩
    · have hkI : (k : Int) ≤ (s.size : Int) := by omega
      have hgI : (g : Int) ≤ (k : Int) := by omega
      have hg0 : (0 : Int) ≤ (g : Int) := by omega
      have hex : s.extract g k = B (pend (L s) g k) := extract_B s g k
      by_cases hlt : k < s.size
      · have hd := drop_L s k hlt
        have hne : ((k : Int) == (s.size : Int)) = false := by rw [beq_eq_false_iff_ne]; omega
        by_cases hc : s[k] = c
        · have ht : ((s[k].toNat : Int) == (c.toNat : Int)) = true := byte_is hc
          have HF : Hid (r = (acc ++ [pend (L s) g k]) ++ Idn.onHead (pend (L s) (k + 1) (k + 1)) (Idn.cutC c ((L s).drop (k + 1)))) := by
            show _ = _
            have e : Idn.cutC c ((L s).drop k) = [] :: Idn.cutC c ((L s).drop (k + 1)) := by
              rw [hd]
              show (if s[k] == c then _ else _) = _
              rw [if_pos (by simpa using hc)]
            rw [hinv.out, e, pend_zero, onHead_nil (Idn.cutC_ne _ _), List.append_assoc]
            simp [Idn.onHead]
          have HEX := Lib.hid hex
          clear hd hc hinv hex
          go_wp2_with (at_builtin; refine wpList_push wr rfl _ _ 48 rfl w.heap.size 9 (.string ⟨#[]⟩) 1 16 Tryz.underlying48 info_str rfl (by decide) _ _ _ hown rfl [.string (s.extract g k)] rfl rfl (by intro u hu; simp at hu; subst hu; rfl) (by omega) hb.size ?_ rfl)
          intro v1 x1 ho1 _ _ hx1 _
          go_wp2
          go_roundw
          case rel => exact ⟨k + 1, k + 1, acc ++ [pend (L s) g k], by omega, by go_num, by go_num, by rw [HEX.out] at ho1; simpa [sv] using ho1, hb.trans hx1, by simp; omega, .inl ⟨by omega, Nat.le_refl _, HF⟩⟩
          case measure => simp [intOf]; omega
        · have ht : ((s[k].toNat : Int) == (c.toNat : Int)) = false := byte_not hc
          have HF : Hid (r = acc ++ Idn.onHead (pend (L s) g (k + 1)) (Idn.cutC c ((L s).drop (k + 1)))) := by
            show _ = _
            have e : Idn.cutC c ((L s).drop k) = Idn.onHead [s[k]] (Idn.cutC c ((L s).drop (k + 1))) := by
              rw [hd]
              show (if s[k] == c then _ else _) = _
              rw [if_neg (by simpa using hc)]
            rw [hinv.out, e, onHead_app _ _ (Idn.cutC_ne _ _), pend_succ s g k hg hlt]
          clear hd hc hinv hex
          go_wp2
          go_roundw
          case rel => exact ⟨k + 1, g, acc, by omega, by go_num, rfl, hown, hb, by omega, .inl ⟨by omega, by omega, HF⟩⟩
          case measure => simp [intOf]; omega
      · have hks : k = s.size := by omega
        have hne : ((k : Int) == (s.size : Int)) = true := by rw [beq_iff_eq]; omega
        have HF : Hid (r = acc ++ [pend (L s) g k]) := by
          show _ = _
          rw [hinv.out, List.drop_eq_nil_of_le (by rw [← size_L]; omega)]
          simp [Idn.cutC, Idn.onHead]
        have HEX := Lib.hid hex
        have HK := Lib.hid hks
        clear hinv hex hks
        go_wp2_with (at_builtin; refine wpList_push wr rfl _ _ 48 rfl w.heap.size 9 (.string ⟨#[]⟩) 1 16 Tryz.underlying48 info_str rfl (by decide) _ _ _ hown rfl [.string (s.extract g k)] rfl rfl (by intro u hu; simp at hu; subst hu; rfl) (by omega) hb.size ?_ rfl)
        intro v1 x1 ho1 _ _ hx1 _
        go_wp2
        go_roundw
        case rel => exact ⟨k + 1, k + 1, acc ++ [pend (L s) g k], by omega, by go_num, by go_num, by rw [HEX.out] at ho1; simpa [sv] using ho1, hb.trans hx1, by simp; omega, .inr ⟨by have := HK.out; omega, HF⟩⟩
        case measure => simp [intOf]; omega
    · have hkI : ¬ (k : Int) ≤ (s.size : Int) := by omega
      go_wp2
      go_ret
      exact ⟨_, rfl, by rw [hinv.out]; exact hown, hb⟩
set_option maxHeartbeats 1000000 in
set_option maxRecDepth 100000 in
theorem r_names_any (s : ByteArray) (w : World) (hs : s.size ≤ 100000000) :
    Calls Tryz.prog 115 #[.string s] w (RetSB w (rNames (L s))) := by
  generalize hrr : rNames (L s) = r
  have HR : Hid (r = rNames (L s)) := hrr.symm
  clear hrr
  by_cases hd : L s = [45]
  · have ht : (s.toList == [45]) = true := by rw [toList_L, hd]; rfl
    have HF : Hid (r = ([], true)) := by show _ = _; rw [HR.out, rNames, if_pos hd]
    clear hd HR
    go_enter Tryz.func115, Tryz.ntmps115
    go_wp2
    go_ret2
    exact ⟨.slice none 0 0, by rw [HF.out]; rfl, by rw [HF.out]; exact World.ownsRow_nil _ _ _ _, Below.refl _ _⟩
  · have ht : (s.toList == [45]) = false := by rw [toList_L, beq_eq_false_iff_ne]; exact hd
    have hC := r_Cut_any s 44 w (by omega)
    obtain ⟨cl1, cl2⟩ := Idn.cutC_len 44 (L s)
    have HQ : Hid (r = if (Idn.cutC 44 (L s)).all Idn.name = true then (Idn.cutC 44 (L s), true) else ([], false)) := by show _ = _; rw [HR.out, rNames, if_neg hd]
    rw [← size_L] at cl1 cl2
    generalize Idn.cutC 44 (L s) = q at *
    clear hd HR
    go_enter Tryz.func115, Tryz.ntmps115
    go_wp2_with fail
    refine hC.mono ?_
    rintro e w1 ⟨v1, rfl, o1, hb1⟩
    have hS := StrsV.of_own o1
    obtain ⟨A, c, hv1⟩ := own_shape o1
    subst hv1
    clear hC
    go_wp2
    go_loopw [5] (fun i wr => ∃ k : Nat, k ≤ q.length ∧ i = .int .i64 k ∧ Below w1.heap.size w1 wr ∧ Hid (q.all Idn.name = (q.drop k).all Idn.name)) (fun i _ => q.length - (intOf i).toNat)
    case atStart => exact ⟨0, Nat.zero_le _, rfl, Below.refl _ _, by show _ = _; simp⟩
    case round =>
      obtain ⟨k, hk, rfl, hb, hinv⟩ := hrel
      have hbw := hb1.trans (hb.mono hb1.size)
      by_cases hlt : k < q.length
      · obtain ⟨g, o, rfl, hgl, c0⟩ := StrsV.cell (SlV.keep hS hb) hlt
        have hltI : (k : Int) < (q.length : Int) := by omega
        have hdr := List.drop_eq_getElem_cons hlt
        have hsz := cl2 _ (List.getElem_mem hlt)
        have hN := r_name_any (B q[k]) wr (by rw [Idn.size_B]; omega)
        rw [Idn.L_B] at hN
        cases hn : Idn.name q[k]
        · rw [hn] at hN
          have HF : Hid (r = ([], false)) := by show _ = _; rw [HQ.out, hinv.out, hdr, List.all_cons, hn]; rfl
          clear hdr hn hinv HQ
          go_wp2_with (go_at_call 100; refine hN.mono ?_; rintro e w2 ⟨rfl, rfl⟩)
          go_ret2
          exact ⟨.slice none 0 0, by rw [HF.out]; rfl, by rw [HF.out]; exact World.ownsRow_nil _ _ _ _, hbw⟩
        · rw [hn] at hN
          have HF : Hid (q.all Idn.name = (q.drop (k + 1)).all Idn.name) := by show _ = _; rw [hinv.out, hdr, List.all_cons, hn, Bool.true_and]
          clear hdr hn hinv
          go_wp2_with (go_at_call 100; refine hN.mono ?_; rintro e w2 ⟨rfl, rfl⟩)
          go_roundw
          case rel => exact ⟨k + 1, by omega, by go_num, hb, HF⟩
          case measure => simp [intOf]; omega
      · have hltI : ¬ (k : Int) < (q.length : Int) := by omega
        have HF : Hid (r = (q, true)) := by show _ = _; rw [HQ.out, hinv.out, List.drop_eq_nil_of_le (by omega)]; rfl
        have o2 := own_below o1 hb
        clear hinv HQ
        go_wp2
        go_ret2
        exact ⟨.slice A q.length c, by rw [HF.out]; rfl, by rw [HF.out]; exact o2, hbw⟩
end Go.Proofs.YtnikolglippfmaaGreatDoor
/- identityref07: word, list, typeLine. -/
namespace Go.Proofs.YtnikolglippfmaaGreatDoor
open Go.RowKit Go.Sort
open Idn (L B Bs drop_L take_L size_L)
set_option maxRecDepth 100000 in
theorem r_word_any (x : Int) (h1 : 1 ≤ x) (h5 : x ≤ 5) (w : World) : Calls Tryz.prog 62 #[.int .i64 x] w fun e w' => e = .returned (.string (B (Idn.word x))) ∧ Below w.heap.size w w' := by
  have hx : x = 1 ∨ x = 2 ∨ x = 3 ∨ x = 4 ∨ x = 5 := by omega
  clear h1 h5
  rcases hx with rfl | rfl | rfl | rfl | rfl
  all_goals
    go_enter Tryz.func62, Tryz.ntmps62
    go_wp2
    go_ret
    exact ⟨rfl, (Below.refl _ _).alloc (Nat.le_refl _) _⟩
/-- names with commas between them, or '-' if there are none -/
def listR (l : List Bs) : Bs := if l.length = 0 then [45] else Idn.joinL [44] l
theorem listR_eq {l : List Bs} (h : ∀ x ∈ l, Idn.name x = true) : listR l = Idn.orDash (Idn.joinL [44] l) := by
  unfold listR
  cases l with
  | nil => rfl
  | cons x l =>
    rw [if_neg (by simp)]
    have hx := (Idn.name_bytes (h x List.mem_cons_self)).2.2.2.1
    rw [orDash_ne]
    intro e
    unfold Idn.joinL at e
    exact hx (List.append_eq_nil_iff.1 e).1
theorem joinR_snoc (sep x : Bs) : ∀ l : List Bs, Idn.joinR sep (l ++ [x]) = Idn.joinR sep l ++ (sep ++ x)
  | [] => by simp [Idn.joinR]
  | y :: l => by
    have := joinR_snoc sep x l
    simp only [List.cons_append, Idn.joinR, this, List.append_assoc]
theorem joinL_snoc (sep x : Bs) {l : List Bs} (h : l ≠ []) : Idn.joinL sep (l ++ [x]) = (Idn.joinL sep l ++ sep) ++ x := by
  cases l with
  | nil => exact absurd rfl h
  | cons y l => simp only [List.cons_append, Idn.joinL, joinR_snoc, List.append_assoc]
set_option maxRecDepth 100000 in
theorem r_list_any (v : Value) (l : List Bs) (w : World) (hv : StrsV w w.heap.size v l) (hl : l.length ≤ 100000) (hs : ∀ x ∈ l, x.length ≤ 1000000) :
    Calls Tryz.prog 63 #[v] w fun e w' => e = .returned (.string (B (listR l))) ∧ w = w' := by
  obtain ⟨A, c, rfl, hc⟩ := hv.shape
  generalize hr : listR l = r
  have HR : Hid (r = listR l) := hr.symm
  clear hr
  by_cases h0 : l.length = 0
  · have e0 : ((l.length : Int) == 0) = true := by rw [h0]; rfl
    have HF : Hid (r = [45]) := by show _ = _; rw [HR.out, listR, if_pos h0]
    clear h0 HR
    go_enter Tryz.func63, Tryz.ntmps63
    go_wp2
    go_ret
    exact ⟨ret_str (by rw [HF.out]; rfl), rfl⟩
  · have e0 : ((l.length : Int) == 0) = false := by rw [beq_eq_false_iff_ne]; omega
    have hl0 : 0 < l.length := by omega
    have hl0I : (0 : Int) < (l.length : Int) := by omega
    have HF : Hid (r = Idn.joinL [44] l) := by show _ = _; rw [HR.out, listR, if_neg h0]
    obtain ⟨b, off, rfl, hbl, c0⟩ := StrsV.cell hv hl0
    have c00 : w.cell? ⟨b, off, none⟩ = some (.string (B l[0])) := by simpa using c0
    have hbnd := fun k => Idn.length_joinL [44] 1000000 (l.take k) (fun x hx => hs x (List.mem_of_mem_take hx))
    clear h0 HR
    go_enter Tryz.func63, Tryz.ntmps63
    go_wp2
    go_loop [3, 4] (fun u i => ∃ k : Nat, 1 ≤ k ∧ k ≤ l.length ∧ i = .int .i64 k ∧ u = .string (B (Idn.joinL [44] (l.take k)))) (fun _ i => l.length - (intOf i).toNat)
    case atStart =>
      refine ⟨1, Nat.le_refl _, by omega, rfl, ?_⟩
      have : l.take 1 = [l[0]] := by
        have := List.take_succ_eq_append_getElem hl0
        simpa using this
      rw [this]
      simp [Idn.joinL, Idn.joinR]
    case round =>
      obtain ⟨k, hk1, hk, rfl, rfl⟩ := hrel
      by_cases hlt : k < l.length
      · have hltI : (k : Int) < (l.length : Int) := by omega
        obtain ⟨b', off', hbo, hbl', d0⟩ := StrsV.cell hv hlt
        injection hbo with hbo
        injection hbo with hb1e hb2e
        subst hb1e hb2e
        have htk := List.take_succ_eq_append_getElem hlt
        have hb := hbnd k
        have hxs := hs l[k] (List.getElem_mem hlt)
        rw [List.length_take] at hb
        have hb2 : (Idn.joinL [44] (l.take k)).length ≤ 200000000000 := by
          refine Nat.le_trans hb ?_
          have : min k l.length * (1000000 + [(44 : UInt8)].length) ≤ 100000 * (1000000 + 1) := Nat.mul_le_mul (by omega) (by simp)
          exact Nat.le_trans this (by decide)
        have hne : l.take k ≠ [] := by
          intro e
          have := congrArg List.length e
          rw [List.length_take, List.length_nil] at this
          omega
        have HJ : Hid (Idn.joinL [44] (l.take (k + 1)) = (Idn.joinL [44] (l.take k) ++ [44]) ++ l[k]) := by show _ = _; rw [htk, joinL_snoc _ _ hne]
        generalize Idn.joinL [44] (l.take k) = acc at *
        have a1 := fun W => run_add (P := Tryz.prog) (a := acc) (b := [44]) (t := ⟨#[44]⟩) rfl rfl (by simp; omega) W
        have a2 := fun W => run_add (P := Tryz.prog) (a := acc ++ [44]) (b := l[k]) rfl rfl (by simp; omega) W
        clear htk hb hb2 hne hxs hbnd
        go_wp2
        go_round
        case rel => exact ⟨k + 1, by omega, by omega, by go_num, by rw [HJ.out]; simp⟩
        case measure => simp [intOf]; omega
      · have hltI : ¬ (k : Int) < (l.length : Int) := by omega
        have e1 : l.take k = l := List.take_of_length_le (by omega)
        have HG : Hid (r = Idn.joinL [44] (l.take k)) := by show _ = _; rw [HF.out, e1]
        clear e1 hbnd
        go_wp2
        go_ret
        exact ⟨ret_str (by rw [HG.out]), rfl⟩
end Go.Proofs.YtnikolglippfmaaGreatDoor
/- identityref07: Text. -/
namespace Go.Proofs.YtnikolglippfmaaGreatDoor
open Go.RowKit Go.Sort
open Idn (L B Bs drop_L take_L size_L)
theorem clLine_parts (c : Idn.Cl) : Idn.clLine c = [99, 108, 97, 115, 115, 32] ++ c.name ++ [32] ++ Idn.orDash c.super ++ [32] ++ Idn.orDash (Idn.joinL [44] c.must) ++ [32] ++ Idn.orDash (Idn.joinL [44] c.may) := by
  simp [Idn.clLine, Idn.joinL, Idn.joinR]
set_option maxHeartbeats 4000000 in
set_option maxRecDepth 100000 in
theorem r_Text_any (v : Value) (s : Idn.Sch) (w : World) (hv : SchV w w.heap.size v s) (hs : SSm s) :
    Calls Tryz.prog 18 #[v] w fun e w' => e = .returned (.tuple #[.string (B (Idn.sText s).1), .int .i64 (Idn.sText s).2]) ∧ Below w.heap.size w w' := by
  have hE := fun W (hW : Below w.heap.size w W) => r_check_any v s W (SchV.mono (SchV.keep hv hW) hW.size) hs
  obtain ⟨a, b, rfl, hT, hC⟩ := hv
  obtain ⟨A, ca, rfl, hca⟩ := SlV.shape hT
  obtain ⟨A', cb, rfl, hcb⟩ := SlV.shape hC
  generalize hrr : Idn.sText s = r
  have HR := Lib.hid hrr
  clear hrr
  by_cases h0 : Idn.sCheck s = 0
  case neg =>
    have HF : Hid (r = ([], Idn.sCheck s)) := by show _ = _; rw [← HR.out, Idn.sText, if_pos (by simpa using h0)]
    generalize Idn.sCheck s = x at *
    have hx : (x == 0) = false := by simpa using h0
    have hx' : (x != 0) = true := by simpa using h0
    clear h0
    go_enter Tryz.func18, Tryz.ntmps18
    go_wp2_with fail
    with_reducible refine gen1 (R := fun W => Calls Tryz.prog 61 _ W _) ?_
    intro W hbW hszW _ _
    refine (hE W hbW).mono ?_
    rintro e w1 ⟨rfl, hb1⟩
    clear hE
    go_wp2
    go_ret2
    exact ⟨by rw [HF.out]; rfl, hbW.trans (hb1.mono hbW.size)⟩
  have hT64 : s.types.length ≤ 64 ∧ s.classes.length ≤ 32 := by
    unfold Idn.sCheck at h0
    split at h0
    · cases h0
    · rename_i hn; simp at hn; omega
  have HF : Hid (r = if decide (4096 < (clK (tyK s.types s.types.length) s.classes s.classes.length).length) then ([], 3) else (clK (tyK s.types s.types.length) s.classes s.classes.length, 0)) := by
    show _ = _
    rw [← HR.out, Idn.sText, if_neg (by simp [h0]), clK, tyK, List.take_length, List.take_length]
  have h6 := ssm6_of h0
  have hok := Idn.sCheck_ok h0
  have hlk := length_tyK s.types
  have hlT := hlk s.types.length h6.1
  rw [h0] at hE
  clear h0 HR
  go_enter Tryz.func18, Tryz.ntmps18
  go_wp2_with fail
  with_reducible refine gen1 (R := fun W => Calls Tryz.prog 61 _ W _) ?_
  intro W hbW hszW hc1 _
  have b0 : W.cell? ⟨w.heap.size, 0, none⟩ = some (.slice A s.types.length ca) := hc1 0 _ rfl
  have b1 : W.cell? ⟨w.heap.size, 1, none⟩ = some (.slice A' s.classes.length cb) := hc1 1 _ rfl
  clear hc1
  refine (hE W hbW).mono ?_
  rintro e w1 ⟨rfl, hb1⟩
  replace b0 := cell_later hb1 b0
  replace b1 := cell_later hb1 b1
  have hbw1 := hbW.trans (hb1.mono hbW.size)
  have hTv := SlV.keep hT hbw1
  have hCv := ClassesV.keep hC hbw1
  clear hE hT hC hszW hb1 hbW
  go_wp2
  go_loopw [5, 6] (fun u i wr => ∃ k : Nat, k ≤ s.types.length ∧ i = .int .i64 k ∧ u = .string (B (tyK s.types k)) ∧ Below w1.heap.size w1 wr) (fun _ i _ => s.types.length - (intOf i).toNat)
  case atStart => exact ⟨0, Nat.zero_le _, rfl, rfl, Below.refl _ _⟩
  case round =>
    obtain ⟨k, hk, rfl, rfl, hb⟩ := hrel
    replace b0 := cell_later hb b0
    replace b1 := cell_later hb b1
    by_cases hlt : k < s.types.length
    · obtain ⟨b, off, rfl, hbl, c0, c1, c2⟩ := TypesV.cell (SlV.keep hTv (hb.mono hbw1.size)) hlt
      have hn6 := h6.1 s.types[k] (List.getElem_mem hlt)
      have hsy := (hok.1 s.types[k] (List.getElem_mem hlt)).2
      have hW := fun W => r_word_any s.types[k].syn hsy.1 hsy.2 W
      have hltI : (k : Int) < (s.types.length : Int) := by omega
      have hlw := Idn.length_word s.types[k].syn
      have hlk' := hlk k h6.1
      have hsucc : Hid (tyK s.types (k + 1) = tyK s.types k ++ (Idn.tyLine s.types[k] ++ [10])) := tyK_succ s.types k hlt
      have hbnd : s.types.length * 2000000 ≤ 64 * 2000000 := Nat.mul_le_mul_right _ hT64.1
      unfold Idn.tyLine at hsucc
      generalize s.types[k] = t at *
      obtain ⟨n, x, g⟩ := t
      dsimp only at c0 c1 c2 hn6 hW hlw hsucc
      generalize tyK s.types k = acc at *
      generalize Idn.word x = wd at *
      have a1 := fun W => run_add (P := Tryz.prog) (a := acc) (b := [116, 121, 112, 101, 32]) (t := ⟨#[116, 121, 112, 101, 32]⟩) rfl rfl (by simp; omega) W
      have a2 := fun W => run_add (P := Tryz.prog) (a := acc ++ [116, 121, 112, 101, 32]) (b := n) rfl rfl (by simp; omega) W
      have a3 := fun W => run_add (P := Tryz.prog) (a := acc ++ [116, 121, 112, 101, 32] ++ n) (b := [32]) (t := ⟨#[32]⟩) rfl rfl (by simp; omega) W
      have a4 := fun W => run_add (P := Tryz.prog) (a := acc ++ [116, 121, 112, 101, 32] ++ n ++ [32]) (b := wd) rfl rfl (by simp; omega) W
      have a5 := fun W => run_add (P := Tryz.prog) (a := acc ++ [116, 121, 112, 101, 32] ++ n ++ [32] ++ wd) (b := [32, 115, 105, 110, 103, 108, 101]) (t := ⟨#[32, 115, 105, 110, 103, 108, 101]⟩) rfl rfl (by simp; omega) W
      have a6 := fun W => run_add (P := Tryz.prog) (a := acc ++ [116, 121, 112, 101, 32] ++ n ++ [32] ++ wd) (b := [10]) (t := ⟨#[10]⟩) rfl rfl (by simp; omega) W
      have a7 := fun W => run_add (P := Tryz.prog) (a := acc ++ [116, 121, 112, 101, 32] ++ n ++ [32] ++ wd ++ [32, 115, 105, 110, 103, 108, 101]) (b := [10]) (t := ⟨#[10]⟩) rfl rfl (by simp; omega) W
      have hsA : Hid (g = false → tyK s.types (k + 1) = acc ++ [116, 121, 112, 101, 32] ++ n ++ [32] ++ wd ++ [10]) := fun hg => by rw [hsucc.out, hg]; simp
      have hsB : Hid (g = true → tyK s.types (k + 1) = acc ++ [116, 121, 112, 101, 32] ++ n ++ [32] ++ wd ++ [32, 115, 105, 110, 103, 108, 101] ++ [10]) := fun hg => by rw [hsucc.out, hg]; simp
      generalize acc ++ [116, 121, 112, 101, 32] = m1 at *
      generalize m1 ++ n = m2 at *
      generalize m2 ++ [32] = m3 at *
      generalize m3 ++ wd = m4 at *
      generalize m4 ++ [32, 115, 105, 110, 103, 108, 101] = m5 at *
      clear hsucc hlw hlk' hn6 hbnd
      go_upto_region 9 with fail
      with_reducible refine gen1 (R := fun W => Code.wp Tryz.prog _ _ _ W) ?_
      intro W2 hbW2 hszW2 hc2 _
      have d0 : W2.cell? ⟨wr.heap.size, 0, none⟩ = some (.string (B n)) := hc2 0 _ rfl
      have d1 : W2.cell? ⟨wr.heap.size, 1, none⟩ = some (.int .i64 x) := hc2 1 _ rfl
      have d2 : W2.cell? ⟨wr.heap.size, 2, none⟩ = some (.bool g) := hc2 2 _ rfl
      have hb2 := hb.trans (hbW2.mono hb.size)
      have k0 := cell_regrown d0
      have k1 := cell_regrown d1
      have q1 := cq (W := W2) fun W' _ => hW W'
      clear hc2 hszW2 c0 c1 c2 hW
      refine wp_region_quiet_below (by kernel_rfl) (by kernel_rfl) ?_
      repeat (first | go_big_quiet_step ((go_at_call 62; exact q1 _ _)) | quiet_step ((go_at_call 62; exact q1 _ _)))
      refine wpQuiet_nil ?_
      intro _ hw'
      obtain ⟨⟨dq, osq⟩, hw''⟩ := hw'
      subst hw''
      have hb3 := below_regrown W2 dq osq
      generalize grow (redrawn W2 dq) osq = W3 at hb3 ⊢
      have e2 := cell_later hb3 d2
      have hb4 := hb2.trans (hb3.mono hb2.size)
      clear q1 k0 k1 d0 d1 d2
      cases g
      · have hsF : Hid (tyK s.types (k + 1) = m4 ++ [10]) := hsA.out rfl
        clear hsA hsB
        go_wp2
        go_roundw
        case rel => exact ⟨k + 1, by omega, by go_num, by rw [hsF.out], hb4⟩
        case measure => simp [intOf]; omega
      · have hsF : Hid (tyK s.types (k + 1) = m5 ++ [10]) := hsB.out rfl
        clear hsA hsB
        go_wp2
        go_roundw
        case rel => exact ⟨k + 1, by omega, by go_num, by rw [hsF.out], hb4⟩
        case measure => simp [intOf]; omega
    · have hkl : k = s.types.length := by omega
      have hltI : ¬ (k : Int) < (s.types.length : Int) := by omega
      subst hkl
      obtain ⟨wo, hwo⟩ : ∃ wo : World, wo = wr := ⟨_, rfl⟩
      subst hwo
      have hCv := ClassesV.keep hCv (hb.mono hbw1.size)
      have hbwo := hbw1.trans (hb.mono hbw1.size)
      clear hTv hlk
      generalize tyK s.types s.types.length = m at *
      have hm0 : clK m s.classes 0 = m := by simp [clK, Idn.clLines]
      rw [← hm0]
      clear hm0
      go_wp2
      clear hltI
      go_loopw [5, 8] (fun u i wr => ∃ k : Nat, k ≤ s.classes.length ∧ i = .int .i64 k ∧ u = .string (B (clK m s.classes k)) ∧ Below wo.heap.size wo wr) (fun _ i _ => s.classes.length - (intOf i).toNat)
      case atStart => exact ⟨0, Nat.zero_le _, rfl, rfl, Below.refl _ _⟩
      case round =>
        obtain ⟨k, hk, rfl, rfl, hb'⟩ := hrel
        have hbt := hbwo.trans (hb'.mono hbwo.size)
        replace b0 := cell_later hb' b0
        replace b1 := cell_later hb' b1
        by_cases hlt : k < s.classes.length
        · obtain ⟨b, off, vm, vn, rfl, hbl, c0, c1, c2, c3, hm, hn'⟩ := ClassesV.cell (ClassesV.keep hCv (hb'.mono hbwo.size)) hlt
          obtain ⟨g1, g2, g3, g4, g5, g6⟩ := h6.2 s.classes[k] (List.getElem_mem hlt)
          obtain ⟨o1, o2, o3, o4, o5, o6⟩ := hok.2.1 s.classes[k] (List.getElem_mem hlt)
          have hltI : (k : Int) < (s.classes.length : Int) := by omega
          have hwr : w.heap.size ≤ wr.heap.size := hbt.size
          have hLM := fun W (hW : Below wr.heap.size wr W) => r_list_any _ s.classes[k].must W (SlV.mono (SlV.keep hm (hW.mono hwr)) (Nat.le_trans hwr hW.size)) (by omega) g5
          have hLN := fun W (hW : Below wr.heap.size wr W) => r_list_any _ s.classes[k].may W (SlV.mono (SlV.keep hn' (hW.mono hwr)) (Nat.le_trans hwr hW.size)) (by omega) g6
          rw [listR_eq o5] at hLM
          rw [listR_eq o6] at hLN
          obtain ⟨Am, cm, rfl, hcm⟩ := SlV.shape hm
          obtain ⟨An, cn, rfl, hcn⟩ := SlV.shape hn'
          have hl2 := length_clLine s.classes[k] g1 g2 g3 g4 g5 g6
          have hsucc : Hid (clK m s.classes (k + 1) = clK m s.classes k ++ (Idn.clLine s.classes[k] ++ [10])) := clK_succ m s.classes k hlt
          have hlm : (clK m s.classes k).length ≤ 64000000000 := by
            unfold clK Idn.clLines
            have h1 := flat_len8 (fun t => Idn.clLine t ++ [10]) 1000000000 (s.classes.take k) (fun t ht => by
              obtain ⟨g1, g2, g3, g4, g5, g6⟩ := h6.2 t (List.mem_of_mem_take ht)
              exact length_clLine t g1 g2 g3 g4 g5 g6)
            have h2 : (s.classes.take k).length ≤ 32 := by rw [List.length_take]; omega
            have h3 : (s.classes.take k).length * 1000000000 ≤ 32 * 1000000000 := Nat.mul_le_mul_right _ h2
            have h4 : s.types.length * 2000000 ≤ 64 * 2000000 := Nat.mul_le_mul_right _ hT64.1
            rw [List.length_append]
            omega
          rw [clLine_parts] at hl2 hsucc
          generalize clK m s.classes k = acc at *
          generalize Idn.orDash (Idn.joinL [44] s.classes[k].must) = lm at *
          generalize Idn.orDash (Idn.joinL [44] s.classes[k].may) = ln at *
          have hsd : (s.classes[k].super = [] ∧ Idn.orDash s.classes[k].super = [45]) ∨ (s.classes[k].super ≠ [] ∧ Idn.orDash s.classes[k].super = s.classes[k].super) := by
            by_cases h : s.classes[k].super = []
            · exact .inl ⟨h, by rw [h]; rfl⟩
            · exact .inr ⟨h, orDash_ne h⟩
          generalize s.classes[k].name = nk at *
          generalize hsu : Idn.orDash s.classes[k].super = sd at *
          generalize s.classes[k].super = su at *
          simp only [List.length_append, List.length_cons, List.length_nil] at hl2
          have a1 := fun W => run_add (P := Tryz.prog) (a := acc) (b := [99, 108, 97, 115, 115, 32]) (t := ⟨#[99, 108, 97, 115, 115, 32]⟩) rfl rfl (by simp; omega) W
          have a2 := fun W => run_add (P := Tryz.prog) (a := acc ++ [99, 108, 97, 115, 115, 32]) (b := nk) rfl rfl (by simp; omega) W
          have a3 := fun W => run_add (P := Tryz.prog) (a := acc ++ [99, 108, 97, 115, 115, 32] ++ nk) (b := [32]) (t := ⟨#[32]⟩) rfl rfl (by simp; omega) W
          have a4 := fun W => run_add (P := Tryz.prog) (a := acc ++ [99, 108, 97, 115, 115, 32] ++ nk ++ [32]) (b := sd) rfl rfl (by simp; omega) W
          have a5 := fun W => run_add (P := Tryz.prog) (a := acc ++ [99, 108, 97, 115, 115, 32] ++ nk ++ [32] ++ sd) (b := [32]) (t := ⟨#[32]⟩) rfl rfl (by simp; omega) W
          have a6 := fun W => run_add (P := Tryz.prog) (a := acc ++ [99, 108, 97, 115, 115, 32] ++ nk ++ [32] ++ sd ++ [32]) (b := lm) rfl rfl (by simp; omega) W
          have a7 := fun W => run_add (P := Tryz.prog) (a := acc ++ [99, 108, 97, 115, 115, 32] ++ nk ++ [32] ++ sd ++ [32] ++ lm) (b := [32]) (t := ⟨#[32]⟩) rfl rfl (by simp; omega) W
          have a8 := fun W => run_add (P := Tryz.prog) (a := acc ++ [99, 108, 97, 115, 115, 32] ++ nk ++ [32] ++ sd ++ [32] ++ lm ++ [32]) (b := ln) rfl rfl (by simp; omega) W
          have a9 := fun W => run_add (P := Tryz.prog) (a := acc ++ [99, 108, 97, 115, 115, 32] ++ nk ++ [32] ++ sd ++ [32] ++ lm ++ [32] ++ ln) (b := [10]) (t := ⟨#[10]⟩) rfl rfl (by simp; omega) W
          have hsF : Hid (clK m s.classes (k + 1) = acc ++ [99, 108, 97, 115, 115, 32] ++ nk ++ [32] ++ sd ++ [32] ++ lm ++ [32] ++ ln ++ [10]) := by show _ = _; rw [hsucc.out]; simp
          generalize acc ++ [99, 108, 97, 115, 115, 32] = m1 at *
          generalize m1 ++ nk = m2 at *
          generalize m2 ++ [32] = m3 at *
          generalize m3 ++ sd = m4 at *
          generalize m4 ++ [32] = m5 at *
          generalize m5 ++ lm = m6 at *
          generalize m6 ++ [32] = m7 at *
          generalize m7 ++ ln = m8 at *
          clear hsucc hlm hl2 hm hn' g1 g2 g3 g4 g5 g6 o1 o2 o3 o4 o5 o6 hsu
          go_upto_region 18 with fail
          with_reducible refine gen1 (R := fun W => Code.wp Tryz.prog _ _ _ W) ?_
          intro W2 hbW2 hszW2 hc2 _
          have d0 : W2.cell? ⟨wr.heap.size, 0, none⟩ = some (.string (B nk)) := hc2 0 _ rfl
          have d1 : W2.cell? ⟨wr.heap.size, 1, none⟩ = some (.string (B su)) := hc2 1 _ rfl
          have d2 : W2.cell? ⟨wr.heap.size, 2, none⟩ = some (.slice Am s.classes[k].must.length cm) := hc2 2 _ rfl
          have d3 : W2.cell? ⟨wr.heap.size, 3, none⟩ = some (.slice An s.classes[k].may.length cn) := hc2 3 _ rfl
          have hb2 := hb'.trans (hbW2.mono hb'.size)
          have k0 := cell_regrown d0
          have k1 := cell_regrown d1
          have k2 := cell_regrown d2
          have k3 := cell_regrown d3
          have q1 := cq (W := W2) fun W' hW' => (hLM W' (hbW2.trans (hW'.mono hbW2.size))).mono (fun e w9 h9 => ⟨h9.1, h9.2 ▸ Below.refl _ _⟩)
          have q2 := cq (W := W2) fun W' hW' => (hLN W' (hbW2.trans (hW'.mono hbW2.size))).mono (fun e w9 h9 => ⟨h9.1, h9.2 ▸ Below.refl _ _⟩)
          clear hc2 hszW2 c0 c1 c2 c3 hLM hLN
          rcases hsd with ⟨hsu0, hsd0⟩ | ⟨hsu0, hsd0⟩
          · have ts : (B su).toList.isEmpty = true := by rw [toList_L, Idn.L_B, hsu0]; rfl
            subst hsd0
            have a4b : ∀ W, (Op.stringOp .add (B m3) ⟨#[45]⟩).run Tryz.prog W = .ok (.string (B m4)) W := a4
            clear hsu0
            go_wp2
            refine wp_region_quiet_below (by kernel_rfl) (by kernel_rfl) ?_
            repeat (first | go_big_quiet_step ((go_at_call 63; first | with_reducible exact q1 _ _ | with_reducible exact q2 _ _)) | quiet_step ((go_at_call 63; first | with_reducible exact q1 _ _ | with_reducible exact q2 _ _)))
            refine wpQuiet_nil ?_
            intro _ hw'
            obtain ⟨⟨dq, osq⟩, hw''⟩ := hw'
            subst hw''
            have hb3 := below_regrown W2 dq osq
            generalize grow (redrawn W2 dq) osq = W3 at hb3 ⊢
            have hb4 := hb2.trans (hb3.mono hb2.size)
            clear q1 q2 k0 k1 k2 k3 d0 d1 d2 d3
            go_wp2
            go_roundw
            case rel => exact ⟨k + 1, by omega, by go_num, by rw [hsF.out], hb4⟩
            case measure => simp [intOf]; omega
          · have ts : (B su).toList.isEmpty = false := by
              rw [toList_L, Idn.L_B]
              cases su with
              | nil => exact absurd rfl hsu0
              | cons x y => rfl
            subst hsd0
            clear hsu0
            go_wp2
            refine wp_region_quiet_below (by kernel_rfl) (by kernel_rfl) ?_
            repeat (first | go_big_quiet_step ((go_at_call 63; first | with_reducible exact q1 _ _ | with_reducible exact q2 _ _)) | quiet_step ((go_at_call 63; first | with_reducible exact q1 _ _ | with_reducible exact q2 _ _)))
            refine wpQuiet_nil ?_
            intro _ hw'
            obtain ⟨⟨dq, osq⟩, hw''⟩ := hw'
            subst hw''
            have hb3 := below_regrown W2 dq osq
            generalize grow (redrawn W2 dq) osq = W3 at hb3 ⊢
            have hb4 := hb2.trans (hb3.mono hb2.size)
            clear q1 q2 k0 k1 k2 k3 d0 d1 d2 d3
            go_wp2
            go_roundw
            case rel => exact ⟨k + 1, by omega, by go_num, by rw [hsF.out], hb4⟩
            case measure => simp [intOf]; omega
        · have hkl : k = s.classes.length := by omega
          have hltI : ¬ (k : Int) < (s.classes.length : Int) := by omega
          subst hkl
          have hqz := Idn.size_B (clK m s.classes s.classes.length)
          generalize clK m s.classes s.classes.length = q at *
          by_cases h4 : 4096 < q.length
          · have HG : Hid (r = ([], 3)) := by show _ = _; rw [HF.out, if_pos (decide_eq_true h4)]
            have h4' : (4096 : Int) < ((B q).size : Int) := by omega
            clear h4 HF hqz
            go_wp2
            go_ret2
            exact ⟨by rw [HG.out]; rfl, hbt⟩
          · have HG : Hid (r = (q, 0)) := by show _ = _; rw [HF.out, if_neg (by simpa using h4)]
            have h4' : ((B q).size : Int) ≤ (4096 : Int) := by omega
            clear h4 HF hqz
            go_wp2
            go_ret2
            exact ⟨by rw [HG.out]; rfl, hbt⟩
end Go.Proofs.YtnikolglippfmaaGreatDoor
