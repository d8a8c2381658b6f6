/- Part 47 of the proof that identitylaw09.FilterTexts returns true at every filter: the package variables hold what the program lays; nothing else is asked. -/
import Derived.Test.YtmamnmjfbadiiaaGreatDoorFtx14
import Derived.Test.YtmamnmjfbadiiaaGreatDoorFtx19
import Derived.Test.YtmamnmjfbadiiaaGreatDoorFtx22
import Derived.Test.YtmamnmjfbadiiaaGreatDoorFtx37
import Derived.Test.YtmamnmjfbadiiaaGreatDoorFtx42
import Derived.Test.YtmamnmjfbadiiaaGreatDoorFtx46
set_option linter.unusedVariables false
set_option linter.unusedSimpArgs false
/- filter: escaped, text, Text. -/
namespace Go.Proofs.YtmamnmjfbadiiaaGreatDoor
open Go.RowKit Go.Sort
open Idn (L B Bs drop_L take_L size_L)
theorem escF1_len (c : UInt8) : (escF1 c).length ≤ 3 := by unfold escF1; split <;> (try split) <;> (try split) <;> (try split) <;> simp
theorem escF_len (l : Bs) : (escF l).length ≤ 3 * l.length := by
  induction l with
  | nil => simp [escF]
  | cons c l ih =>
    have := escF1_len c
    have e : escF (c :: l) = escF1 c ++ escF l := by unfold escF; rw [List.flatMap_cons]
    rw [e, List.length_append, List.length_cons]; omega
theorem escF_snoc (l : Bs) (c : UInt8) : escF (l ++ [c]) = escF l ++ escF1 c := by unfold escF; rw [List.flatMap_append]; simp
theorem escF_cases (c : UInt8) : (c = 40 ∧ escF1 c = [92, 50, 56]) ∨ (c = 41 ∧ escF1 c = [92, 50, 57]) ∨ (c = 42 ∧ escF1 c = [92, 50, 97]) ∨ (c = 92 ∧ escF1 c = [92, 53, 99]) ∨
    (((c.toNat : Int) == 40) = false ∧ ((c.toNat : Int) == 41) = false ∧ ((c.toNat : Int) == 42) = false ∧ ((c.toNat : Int) == 92) = false ∧ escF1 c = [c]) := by
  by_cases h1 : c = 40
  · subst h1; exact .inl ⟨rfl, rfl⟩
  by_cases h2 : c = 41
  · subst h2; exact .inr (.inl ⟨rfl, rfl⟩)
  by_cases h3 : c = 42
  · subst h3; exact .inr (.inr (.inl ⟨rfl, rfl⟩))
  by_cases h4 : c = 92
  · subst h4; exact .inr (.inr (.inr (.inl ⟨rfl, rfl⟩)))
  refine .inr (.inr (.inr (.inr ⟨(byte_eq c 40).trans (beq_eq_false_iff_ne.2 h1), (byte_eq c 41).trans (beq_eq_false_iff_ne.2 h2), (byte_eq c 42).trans (beq_eq_false_iff_ne.2 h3), (byte_eq c 92).trans (beq_eq_false_iff_ne.2 h4), ?_⟩)))
  unfold escF1
  rw [if_neg h1, if_neg h2, if_neg h3, if_neg h4]
set_option maxHeartbeats 2000000 in
set_option maxRecDepth 100000 in
theorem escaped_any (s : ByteArray) (w : World) (hs : s.size ≤ 1000000000) :
    Calls Tryz.prog 70 #[.string s] w fun e w' => e = .returned (.string (B (escF (L s)))) ∧ Below w.heap.size w w' := by
  have hB0 := Bld.new w
  generalize hr : escF (L s) = r
  have HR := Lib.hid hr
  clear hr
  go_enter Tryz.func70, Tryz.ntmps70
  go_wp2
  go_loopw [7] (fun i wr => ∃ (k : Nat) (acc : Bs), k ≤ s.size ∧ i = .int .i64 k ∧ Below w.heap.size w wr ∧ Bld w.heap.size w.heap.size (Lib.byteCells acc) wr ∧ Hid (acc = escF ((L s).take k)) ∧ acc.length ≤ 3 * k) (fun i _ => s.size - (intOf i).toNat)
  case atStart => exact ⟨0, [], Nat.zero_le _, rfl, (Below.refl _ _).alloc (Nat.le_refl _) _, hB0, rfl, Nat.le_refl _⟩
  case round =>
    obtain ⟨k, acc, hk, rfl, hb, hB, hinv, hal⟩ := hrel
    clear hB0
    by_cases hlt : k < s.size
    · have hltI : (k : Int) < (s.size : Int) := by omega
      have hstep : escF ((L s).take (k + 1)) = escF ((L s).take k) ++ escF1 s[k] := by rw [take_L s k hlt, escF_snoc]
      obtain ⟨ch, hch⟩ : ∃ ch : UInt8, ch = s[k] := ⟨_, rfl⟩
      rw [← hch] at hstep
      have hix : (s[k].toNat : Int) = (ch.toNat : Int) := by rw [hch]
      have hW1 := writeByte_any w.heap.size w.heap.size (Lib.byteCells acc) s[k] wr hB (by rw [byteCells_len]; omega) hb.size
      rcases escF_cases ch with ⟨hc, e1⟩ | ⟨hc, e1⟩ | ⟨hc, e1⟩ | ⟨hc, e1⟩ | ⟨h1, h2, h3, h4, e1⟩
      · have n0 : ((s[k].toNat : Int) == 40) = true := by rw [hix, hc]; rfl
        have HF : Hid (acc ++ [92, 50, 56] = escF ((L s).take (k + 1))) := by show _ = _; rw [hstep, e1, hinv.out]
        have hW := writeString_any w.heap.size w.heap.size (Lib.byteCells acc) ⟨#[92, 50, 56]⟩ wr hB (by rw [byteCells_len]; show acc.length + 3 ≤ _; omega) hb.size
        clear hstep e1 hinv hB hW1 hch hix hc
        go_wp2_with fail
        refine hW.mono ?_
        rintro e w1 ⟨rfl, hB1, hb1, _⟩
        clear hW
        go_wp2_with fail
        go_roundw
        case rel => exact ⟨k + 1, acc ++ [92, 50, 56], by omega, by go_num, hb.trans hb1, by rw [bytes_str] at hB1; exact hB1, HF, by simp; omega⟩
        case measure => simp [intOf]; omega
      · have n0 : ((s[k].toNat : Int) == 41) = true := by rw [hix, hc]; rfl
        have n40 : ((s[k].toNat : Int) == 40) = false := by rw [hix, hc]; rfl
        have HF : Hid (acc ++ [92, 50, 57] = escF ((L s).take (k + 1))) := by show _ = _; rw [hstep, e1, hinv.out]
        have hW := writeString_any w.heap.size w.heap.size (Lib.byteCells acc) ⟨#[92, 50, 57]⟩ wr hB (by rw [byteCells_len]; show acc.length + 3 ≤ _; omega) hb.size
        clear hstep e1 hinv hB hW1 hch hix hc
        go_wp2_with fail
        refine hW.mono ?_
        rintro e w1 ⟨rfl, hB1, hb1, _⟩
        clear hW
        go_wp2_with fail
        go_roundw
        case rel => exact ⟨k + 1, acc ++ [92, 50, 57], by omega, by go_num, hb.trans hb1, by rw [bytes_str] at hB1; exact hB1, HF, by simp; omega⟩
        case measure => simp [intOf]; omega
      · have n0 : ((s[k].toNat : Int) == 42) = true := by rw [hix, hc]; rfl
        have n40 : ((s[k].toNat : Int) == 40) = false := by rw [hix, hc]; rfl
        have n41 : ((s[k].toNat : Int) == 41) = false := by rw [hix, hc]; rfl
        have HF : Hid (acc ++ [92, 50, 97] = escF ((L s).take (k + 1))) := by show _ = _; rw [hstep, e1, hinv.out]
        have hW := writeString_any w.heap.size w.heap.size (Lib.byteCells acc) ⟨#[92, 50, 97]⟩ wr hB (by rw [byteCells_len]; show acc.length + 3 ≤ _; omega) hb.size
        clear hstep e1 hinv hB hW1 hch hix hc
        go_wp2_with fail
        refine hW.mono ?_
        rintro e w1 ⟨rfl, hB1, hb1, _⟩
        clear hW
        go_wp2_with fail
        go_roundw
        case rel => exact ⟨k + 1, acc ++ [92, 50, 97], by omega, by go_num, hb.trans hb1, by rw [bytes_str] at hB1; exact hB1, HF, by simp; omega⟩
        case measure => simp [intOf]; omega
      · have n0 : ((s[k].toNat : Int) == 92) = true := by rw [hix, hc]; rfl
        have n40 : ((s[k].toNat : Int) == 40) = false := by rw [hix, hc]; rfl
        have n41 : ((s[k].toNat : Int) == 41) = false := by rw [hix, hc]; rfl
        have n42 : ((s[k].toNat : Int) == 42) = false := by rw [hix, hc]; rfl
        have HF : Hid (acc ++ [92, 53, 99] = escF ((L s).take (k + 1))) := by show _ = _; rw [hstep, e1, hinv.out]
        have hW := writeString_any w.heap.size w.heap.size (Lib.byteCells acc) ⟨#[92, 53, 99]⟩ wr hB (by rw [byteCells_len]; show acc.length + 3 ≤ _; omega) hb.size
        clear hstep e1 hinv hB hW1 hch hix hc
        go_wp2_with fail
        refine hW.mono ?_
        rintro e w1 ⟨rfl, hB1, hb1, _⟩
        clear hW
        go_wp2_with fail
        go_roundw
        case rel => exact ⟨k + 1, acc ++ [92, 53, 99], by omega, by go_num, hb.trans hb1, by rw [bytes_str] at hB1; exact hB1, HF, by simp; omega⟩
        case measure => simp [intOf]; omega
      · have n1 : ((s[k].toNat : Int) == 40) = false := by rw [hix]; exact h1
        have n2 : ((s[k].toNat : Int) == 41) = false := by rw [hix]; exact h2
        have n3 : ((s[k].toNat : Int) == 42) = false := by rw [hix]; exact h3
        have n4 : ((s[k].toNat : Int) == 92) = false := by rw [hix]; exact h4
        have HF : Hid (acc ++ [s[k]] = escF ((L s).take (k + 1))) := by show _ = _; rw [hstep, e1, hinv.out, hch]
        clear hstep e1 hinv hB h1 h2 h3 h4 hch hix
        go_wp2_with fail
        refine hW1.mono ?_
        rintro e w1 ⟨rfl, hB1, hb1, _⟩
        clear hW1
        go_wp2_with fail
        go_roundw
        case rel => exact ⟨k + 1, acc ++ [s[k]], by omega, by go_num, hb.trans hb1, by rw [bytes_one]; exact hB1, HF, by simp; omega⟩
        case measure => simp [intOf]; omega
    · have hltI : ¬ (k : Int) < (s.size : Int) := by omega
      have hStr := Tryz.Builder_String_any_k w.heap.size w.heap.size acc wr hB hb.size
      have HF : Hid (r = acc) := by show _ = _; rw [← HR.out, hinv.out, List.take_of_length_le (by have := size_L s; omega)]
      clear hinv
      go_wp2_with fail
      refine hStr.mono ?_
      rintro e w4 ⟨rfl, _, hb4, _⟩
      go_wp2
      go_ret
      exact ⟨by rw [HF.out]; rfl, hb.trans hb4⟩
def escV (l : List Bs) : List Value := (l.map escF).map sv
theorem fTxt_unf (f : Flt) : fTxt f = txtF f.kind f.name f.value f.parts (fTxts f.kids) := by cases f; rfl
theorem txtF_len {k : Int} {n v : Bs} {ps : List Bs} {t : Bs} (h1 : n.length ≤ 100000) (h2 : v.length ≤ 100000) (h3 : ps.length ≤ 1000) (h4 : ∀ x ∈ ps, x.length ≤ 100000) : (txtF k n v ps t).length ≤ t.length + 400000000 := by
  have e1 := escF_len v
  have e2 := Idn.length_joinL [42] 300000 (ps.map escF) (fun x hx => by
    obtain ⟨y, hy, rfl⟩ := List.mem_map.1 hx
    have := escF_len y
    have := h4 y hy
    omega)
  rw [List.length_map] at e2
  have e3 : ps.length * (300000 + [42].length) ≤ 1000 * (300000 + [42].length) := Nat.mul_le_mul_right _ h3
  rw [List.length_singleton] at e2 e3
  unfold txtF
  repeat' split
  all_goals
    simp only [List.length_append, List.length_cons, List.length_nil]
    omega
theorem fTxt_len : ∀ f : Flt, fOk f → (fTxt f).length ≤ fSize f * 400000000 := by
  intro f
  induction f using Flt.ind with
  | h k n v ps ks ih =>
    intro ho
    have ok := fOk_kids ho
    obtain ⟨h1, h2, h3, h4⟩ := fOk_own ho
    have h5 : ∀ l : List Flt, (∀ f ∈ l, (fTxt f).length ≤ fSize f * 400000000) → (fTxts l).length ≤ fSizes l * 400000000 := by
      intro l
      induction l with
      | nil => intro _; simp [fTxts]
      | cons g l ihl =>
        intro h
        have a1 := h g List.mem_cons_self
        have a2 := ihl fun f hf => h f (List.mem_cons_of_mem _ hf)
        rw [fTxts, List.length_append, fSizes, Nat.add_mul]; omega
    have h6 := h5 ks fun g hg => ih g hg (ok g hg)
    have h7 := txtF_len (k := k) (t := fTxts ks) h1 h2 h3 h4
    rw [fTxt, fSize, Nat.add_mul]
    exact Nat.le_trans h7 (by omega)
theorem fTxts_len {l : List Flt} {n : Nat} (h : FSms n l) : (fTxts l).length ≤ n * 400000000 := by
  have h5 : ∀ l : List Flt, (∀ f ∈ l, fOk f) → (fTxts l).length ≤ fSizes l * 400000000 := by
    intro l
    induction l with
    | nil => intro _; simp [fTxts]
    | cons g l ihl =>
      intro h
      have a1 := fTxt_len g (h g List.mem_cons_self)
      have a2 := ihl fun f hf => h f (List.mem_cons_of_mem _ hf)
      rw [fTxts, List.length_append, fSizes, Nat.add_mul]; omega
  exact Nat.le_trans (h5 l h.2) (Nat.mul_le_mul_right _ h.1)
theorem fTxts_take {l : List Flt} {k : Nat} (h : k < l.length) : fTxts (l.take (k + 1)) = fTxts (l.take k) ++ fTxt l[k] := by
  rw [List.take_succ_eq_append_getElem h, fTxts_eq, fTxts_eq, List.flatMap_append]; simp
theorem fTxts_part (l : List Flt) (k : Nat) : (fTxts (l.take k)).length ≤ (fTxts l).length := by
  have : fTxts l = fTxts (l.take k) ++ fTxts (l.drop k) := by rw [fTxts_eq, fTxts_eq, fTxts_eq, ← List.flatMap_append, List.take_append_drop]
  rw [this, List.length_append]; omega
set_option maxHeartbeats 8000000 in
set_option maxRecDepth 100000 in
theorem ftext_any : ∀ (d : Nat) (v : Value) (f : Flt) (w : World), FltV w w.heap.size d v f → FSm 1000 f →
    Calls Tryz.prog 39 #[v] w fun e w' => e = .returned (.string (B (fTxt f))) ∧ Below w.heap.size w w' := by
  intro d
  induction d using Nat.strongRecOn with
  | _ d ih =>
  intro v f w hv hs
  obtain ⟨Ap, cp, Ak, ck, rfl, hp, hk⟩ := hv.shape
  have hks := hs.kids
  have hkl := hks.len
  obtain ⟨o1, o2, o3, o4⟩ := fOk_own hs.2
  have HR : Hid (fTxt f = txtF f.kind f.name f.value f.parts (fTxts f.kids)) := fTxt_unf f
  have htl := fTxts_len hks
  have eE := fun W => escaped_any (B f.value) W (by rw [Idn.size_B]; omega)
  have eP := fun (j : Nat) (hj : j < f.parts.length) W => escaped_any (B f.parts[j]) W (by rw [Idn.size_B]; have := o4 _ (List.getElem_mem hj); omega)
  simp only [Idn.L_B] at eE eP
  have el := escF_len f.value
  have jl := Idn.length_joinL [42] 300000 (f.parts.map escF) (fun x hx => by
    obtain ⟨y, hy, rfl⟩ := List.mem_map.1 hx
    have := escF_len y
    have := o4 y hy
    omega)
  rw [List.length_map, List.length_singleton] at jl
  have jl2 : f.parts.length * (300000 + 1) ≤ 1000 * (300000 + 1) := Nat.mul_le_mul_right _ o3
  generalize fTxt f = R at *
  clear hv
  go_enter Tryz.func39, Tryz.ntmps39
  go_upto_region 1 with fail
  with_reducible refine gen1 (R := fun W => Code.wp Tryz.prog _ _ _ W) ?_
  intro W hbW hszW hc _
  have b0 : W.cell? ⟨w.heap.size, 0, none⟩ = some (.int .i64 f.kind) := hc 0 _ rfl
  have b1 : W.cell? ⟨w.heap.size, 1, none⟩ = some (.string (B f.name)) := hc 1 _ rfl
  have b2 : W.cell? ⟨w.heap.size, 2, none⟩ = some (.string (B f.value)) := hc 2 _ rfl
  have b3 : W.cell? ⟨w.heap.size, 3, none⟩ = some (.slice Ap f.parts.length cp) := hc 3 _ rfl
  have b4 : W.cell? ⟨w.heap.size, 4, none⟩ = some (.slice Ak f.kids.length ck) := hc 4 _ rfl
  clear hc hszW
  go_wp2_with fail
  go_loopw [3, 12] (fun u i wr => ∃ k : Nat, k ≤ f.kids.length ∧ u = .string (B (fTxts (f.kids.take k))) ∧ i = .int .i64 k ∧ Below W.heap.size W wr) (fun _ i _ => f.kids.length - (intOf i).toNat)
  case atStart => exact ⟨0, Nat.zero_le _, rfl, rfl, Below.refl _ _⟩
  case round =>
    obtain ⟨k, hk9, rfl, rfl, hbr⟩ := hrel
    have hb := hbW.trans (hbr.mono hbW.size)
    by_cases hlt : k < f.kids.length
    · obtain ⟨g, off, Ap', cp', Ak', ck', hA, hg, c0, c1, c2, c3, c4, hd, hkid⟩ := FltsV.kid2 (FltsV.keep hk hb) hlt
      subst hA
      have hltI : (k : Int) < (f.kids.length : Int) := by omega
      have hmem := List.getElem_mem hlt
      go_upto_region 5 with fail
      with_reducible refine gen1 (R := fun W => Code.wp Tryz.prog _ _ _ W) ?_
      intro W5 hbW5 hsz5 hc5 _
      have k0 : W5.cell? ⟨wr.heap.size, 0, none⟩ = some (.int .i64 f.kids[k].kind) := hc5 0 _ rfl
      have k1 : W5.cell? ⟨wr.heap.size, 1, none⟩ = some (.string (B f.kids[k].name)) := hc5 1 _ rfl
      have k2 : W5.cell? ⟨wr.heap.size, 2, none⟩ = some (.string (B f.kids[k].value)) := hc5 2 _ rfl
      have k3 : W5.cell? ⟨wr.heap.size, 3, none⟩ = some (.slice Ap' f.kids[k].parts.length cp') := hc5 3 _ rfl
      have k4 : W5.cell? ⟨wr.heap.size, 4, none⟩ = some (.slice Ak' f.kids[k].kids.length ck') := hc5 4 _ rfl
      have hcall := ih (d - 1) (by omega) _ f.kids[k] W5 (FltV.on (FltV.mono hkid hb.size) hbW5) (hks.mem hmem)
      have HT := Lib.hid (fTxts_take hlt)
      have hl1 := fTxts_part f.kids (k + 1)
      rw [fTxts_take hlt, List.length_append] at hl1
      have a1 := fun W => run_add (P := Tryz.prog) (a := fTxts (f.kids.take k)) (b := fTxt f.kids[k]) rfl rfl (by omega) W
      have hbr5 := hbr.trans (hbW5.mono hbr.size)
      generalize fTxt f.kids[k] = tk at *
      generalize fTxts (f.kids.take k) = ta at *
      clear hc5 hsz5 hkid c0 c1 c2 c3 c4 hbW5 ih hk hl1 hbr hb b0 b1 b2 b3 b4 HR eE eP
      go_wp2_with fail
      refine hcall.mono ?_
      rintro e w6 ⟨rfl, hb6⟩
      clear hcall k0 k1 k2 k3 k4
      go_wp2_with fail
      go_roundw
      case rel => exact ⟨k + 1, by omega, by rw [HT.out], by go_num, hbr5.trans (hb6.mono hbr5.size)⟩
      case measure => simp [intOf]; omega
    · have hkk : k = f.kids.length := by omega
      have hltI : ¬ (k : Int) < (f.kids.length : Int) := by omega
      rw [hkk, List.take_of_length_le (Nat.le_refl _)]
      replace b0 := cell_later hbr b0
      replace b1 := cell_later hbr b1
      replace b2 := cell_later hbr b2
      replace b3 := cell_later hbr b3
      replace hp := SlV.keep hp hb
      clear ih hk b4 hks hbr
      rw [← hkk]
      generalize fTxts f.kids = T at *
      clear hkk
      generalize hkd : f.kind = kd at *
      clear hkd
      rcases kinds kd with rfl | rfl | rfl | rfl | rfl | rfl | rfl | rfl | hk9
      · have HF : Hid (R = [40, 38] ++ T ++ [41]) := HR.out
        have a1 := fun W => run_add (P := Tryz.prog) (s := ⟨#[40, 38]⟩) (a := [40, 38]) (b := T) rfl rfl (by simp; omega) W
        have a2 := fun W => run_add (P := Tryz.prog) (a := [40, 38] ++ T) (b := [41]) (t := ⟨#[41]⟩) rfl rfl (by simp; omega) W
        generalize [40, 38] ++ T = T1 at *
        clear HR eE eP hp jl jl2 el htl o4
        go_wp2_with fail
        go_ret
        exact ⟨ret_str (by rw [HF.out]), hb⟩
      · have HF : Hid (R = [40, 124] ++ T ++ [41]) := HR.out
        have a1 := fun W => run_add (P := Tryz.prog) (s := ⟨#[40, 124]⟩) (a := [40, 124]) (b := T) rfl rfl (by simp; omega) W
        have a2 := fun W => run_add (P := Tryz.prog) (a := [40, 124] ++ T) (b := [41]) (t := ⟨#[41]⟩) rfl rfl (by simp; omega) W
        generalize [40, 124] ++ T = T1 at *
        clear HR eE eP hp jl jl2 el htl o4
        go_wp2_with fail
        go_ret
        exact ⟨ret_str (by rw [HF.out]), hb⟩
      · have HF : Hid (R = [40, 33] ++ T ++ [41]) := HR.out
        have a1 := fun W => run_add (P := Tryz.prog) (s := ⟨#[40, 33]⟩) (a := [40, 33]) (b := T) rfl rfl (by simp; omega) W
        have a2 := fun W => run_add (P := Tryz.prog) (a := [40, 33] ++ T) (b := [41]) (t := ⟨#[41]⟩) rfl rfl (by simp; omega) W
        generalize [40, 33] ++ T = T1 at *
        clear HR eE eP hp jl jl2 el htl o4
        go_wp2_with fail
        go_ret
        exact ⟨ret_str (by rw [HF.out]), hb⟩
      · have HF : Hid (R = [40] ++ f.name ++ [61] ++ escF f.value ++ [41]) := HR.out
        have a1 := fun W => run_add (P := Tryz.prog) (s := ⟨#[40]⟩) (a := [40]) (b := f.name) rfl rfl (by simp; omega) W
        have a2 := fun W => run_add (P := Tryz.prog) (a := [40] ++ f.name) (b := [61]) (t := ⟨#[61]⟩) rfl rfl (by simp; omega) W
        have a3 := fun W => run_add (P := Tryz.prog) (a := [40] ++ f.name ++ [61]) (b := escF f.value) rfl rfl (by simp; omega) W
        have a4 := fun W => run_add (P := Tryz.prog) (a := [40] ++ f.name ++ [61] ++ escF f.value) (b := [41]) (t := ⟨#[41]⟩) rfl rfl (by simp; omega) W
        generalize escF f.value = ev at *
        generalize [40] ++ f.name = t1 at *
        generalize t1 ++ [61] = t2 at *
        generalize t2 ++ ev = t3 at *
        obtain ⟨W3, hW3⟩ : ∃ W3 : World, W3 = wr := ⟨_, rfl⟩
        subst hW3
        have k1 := cell_regrown b1
        have k2 := cell_regrown b2
        have q1 := cq (W := W3) fun W' _ => eE W'
        clear HR eE eP hp jl jl2 el htl o4
        go_wp2_with fail
        refine wp_region_quiet_below (by kernel_rfl) (by kernel_rfl) ?_
        repeat (first | go_big_quiet_step ((go_at_call 70; exact q1 _ _)) | quiet_step ((go_at_call 70; exact q1 _ _)))
        refine wpQuiet_nil ?_
        intro _ hw'
        obtain ⟨⟨dq, osq⟩, hw''⟩ := hw'
        subst hw''
        have hb4 := below_regrown W3 dq osq
        generalize grow (redrawn W3 dq) osq = W4 at hb4 ⊢
        have hb5 := hb.trans (hb4.mono hb.size)
        clear q1 k1 k2 b1 b2
        go_wp2_with fail
        go_ret
        exact ⟨ret_str (by rw [HF.out]), hb5⟩
      · have HF : Hid (R = [40] ++ f.name ++ [62, 61] ++ escF f.value ++ [41]) := HR.out
        have a1 := fun W => run_add (P := Tryz.prog) (s := ⟨#[40]⟩) (a := [40]) (b := f.name) rfl rfl (by simp; omega) W
        have a2 := fun W => run_add (P := Tryz.prog) (a := [40] ++ f.name) (b := [62, 61]) (t := ⟨#[62, 61]⟩) rfl rfl (by simp; omega) W
        have a3 := fun W => run_add (P := Tryz.prog) (a := [40] ++ f.name ++ [62, 61]) (b := escF f.value) rfl rfl (by simp; omega) W
        have a4 := fun W => run_add (P := Tryz.prog) (a := [40] ++ f.name ++ [62, 61] ++ escF f.value) (b := [41]) (t := ⟨#[41]⟩) rfl rfl (by simp; omega) W
        generalize escF f.value = ev at *
        generalize [40] ++ f.name = t1 at *
        generalize t1 ++ [62, 61] = t2 at *
        generalize t2 ++ ev = t3 at *
        obtain ⟨W3, hW3⟩ : ∃ W3 : World, W3 = wr := ⟨_, rfl⟩
        subst hW3
        have k1 := cell_regrown b1
        have k2 := cell_regrown b2
        have q1 := cq (W := W3) fun W' _ => eE W'
        clear HR eE eP hp jl jl2 el htl o4
        go_wp2_with fail
        refine wp_region_quiet_below (by kernel_rfl) (by kernel_rfl) ?_
        repeat (first | go_big_quiet_step ((go_at_call 70; exact q1 _ _)) | quiet_step ((go_at_call 70; exact q1 _ _)))
        refine wpQuiet_nil ?_
        intro _ hw'
        obtain ⟨⟨dq, osq⟩, hw''⟩ := hw'
        subst hw''
        have hb4 := below_regrown W3 dq osq
        generalize grow (redrawn W3 dq) osq = W4 at hb4 ⊢
        have hb5 := hb.trans (hb4.mono hb.size)
        clear q1 k1 k2 b1 b2
        go_wp2_with fail
        go_ret
        exact ⟨ret_str (by rw [HF.out]), hb5⟩
      · have HF : Hid (R = [40] ++ f.name ++ [60, 61] ++ escF f.value ++ [41]) := HR.out
        have a1 := fun W => run_add (P := Tryz.prog) (s := ⟨#[40]⟩) (a := [40]) (b := f.name) rfl rfl (by simp; omega) W
        have a2 := fun W => run_add (P := Tryz.prog) (a := [40] ++ f.name) (b := [60, 61]) (t := ⟨#[60, 61]⟩) rfl rfl (by simp; omega) W
        have a3 := fun W => run_add (P := Tryz.prog) (a := [40] ++ f.name ++ [60, 61]) (b := escF f.value) rfl rfl (by simp; omega) W
        have a4 := fun W => run_add (P := Tryz.prog) (a := [40] ++ f.name ++ [60, 61] ++ escF f.value) (b := [41]) (t := ⟨#[41]⟩) rfl rfl (by simp; omega) W
        generalize escF f.value = ev at *
        generalize [40] ++ f.name = t1 at *
        generalize t1 ++ [60, 61] = t2 at *
        generalize t2 ++ ev = t3 at *
        obtain ⟨W3, hW3⟩ : ∃ W3 : World, W3 = wr := ⟨_, rfl⟩
        subst hW3
        have k1 := cell_regrown b1
        have k2 := cell_regrown b2
        have q1 := cq (W := W3) fun W' _ => eE W'
        clear HR eE eP hp jl jl2 el htl o4
        go_wp2_with fail
        refine wp_region_quiet_below (by kernel_rfl) (by kernel_rfl) ?_
        repeat (first | go_big_quiet_step ((go_at_call 70; exact q1 _ _)) | quiet_step ((go_at_call 70; exact q1 _ _)))
        refine wpQuiet_nil ?_
        intro _ hw'
        obtain ⟨⟨dq, osq⟩, hw''⟩ := hw'
        subst hw''
        have hb4 := below_regrown W3 dq osq
        generalize grow (redrawn W3 dq) osq = W4 at hb4 ⊢
        have hb5 := hb.trans (hb4.mono hb.size)
        clear q1 k1 k2 b1 b2
        go_wp2_with fail
        go_ret
        exact ⟨ret_str (by rw [HF.out]), hb5⟩
      · have HF : Hid (R = [40] ++ f.name ++ [61, 42, 41]) := HR.out
        have a1 := fun W => run_add (P := Tryz.prog) (s := ⟨#[40]⟩) (a := [40]) (b := f.name) rfl rfl (by simp; omega) W
        have a2 := fun W => run_add (P := Tryz.prog) (a := [40] ++ f.name) (b := [61, 42, 41]) (t := ⟨#[61, 42, 41]⟩) rfl rfl (by simp; omega) W
        generalize [40] ++ f.name = t1 at *
        clear HR eE eP hp jl jl2 el htl o4
        go_wp2_with fail
        go_ret
        exact ⟨ret_str (by rw [HF.out]), hb⟩
      · have HF : Hid (R = [40] ++ f.name ++ [61] ++ Idn.joinL [42] (f.parts.map escF) ++ [41]) := HR.out
        obtain ⟨wo, hwo⟩ : ∃ wo : World, wo = wr := ⟨_, rfl⟩
        subst hwo
        clear HR eE b2
        go_wp2_with fail
        go_loopw [6, 80] (fun u i wx => ∃ k : Nat, k ≤ f.parts.length ∧ i = .int .i64 k ∧ wx.ownsRow wo.heap.size 9 1 u k (escV (f.parts.take k)) ∧ Below wo.heap.size wo wx) (fun _ i _ => f.parts.length - (intOf i).toNat)
        case atStart => exact ⟨0, Nat.zero_le _, rfl, World.ownsRow_nil _ _ _ _, Below.refl _ _⟩
        case round =>
          obtain ⟨j, hj9, rfl, hown, hbx⟩ := hrel
          obtain ⟨A, c, rfl⟩ := own_shape hown
          obtain ⟨wz, hwz⟩ : ∃ wz : World, wz = wr := ⟨_, rfl⟩
          subst hwz
          by_cases hjl : j < f.parts.length
          · obtain ⟨g, off, hA, hgl, d0⟩ := StrsV.cell (SlV.keep hp (hbx.mono hb.size)) hjl
            subst hA
            have hjI : (j : Int) < (f.parts.length : Int) := by omega
            have hE := eP j hjl wz
            have hsucc : escV (f.parts.take (j + 1)) = escV (f.parts.take j) ++ [.string (B (escF f.parts[j]))] := by
              unfold escV
              rw [List.take_succ_eq_append_getElem hjl, List.map_append, List.map_append]; rfl
            have HS := Lib.hid hsucc
            generalize escF f.parts[j] = ej at *
            clear eP hp HF hsucc b1 b3
            go_wp2_with fail
            refine hE.mono ?_
            rintro e w6 ⟨rfl, hb6⟩
            have hown6 := own_below hown hb6
            have hbx6 := hbx.trans (hb6.mono hbx.size)
            have hs6 := hbx6.size
            clear hE hown d0
            go_wp2_with (at_builtin; refine wpList_push w6 rfl _ _ 23 rfl wo.heap.size 9 (.string ⟨#[]⟩) 1 16 Tryz.underlying23 info_str rfl (by decide) _ _ _ hown6 rfl [.string (B ej)] rfl rfl (by intro u hu; simp at hu; subst hu; rfl) (by omega) hs6 ?_ rfl)
            intro v7 w7 hown7 _ _ hb7 _
            clear hown6
            go_wp2_with fail
            go_roundw
            case rel => exact ⟨j + 1, by omega, by go_num, by rw [HS.out]; exact hown7, hbx6.trans hb7⟩
            case measure => simp [intOf]; omega
          · have hjj : j = f.parts.length := by omega
            have hjI : ¬ (j : Int) < (f.parts.length : Int) := by omega
            subst hjj
            have hown8 : wz.ownsRow wo.heap.size 9 1 (.slice A f.parts.length c) (f.parts.map escF).length ((f.parts.map escF).map sv) := by
              rw [List.take_of_length_le (Nat.le_refl _)] at hown
              rw [List.length_map]; exact hown
            have hS8 := StrsV.of_own hown8
            have hJ := fun W (hW : Below wz.heap.size wz W) => join_any _ (f.parts.map escF) ⟨#[42]⟩ W (SlV.mono (SlV.keep hS8 hW) hW.size) (by rw [List.length_map]; omega) (fun x hx => by
              obtain ⟨y, hy, rfl⟩ := List.mem_map.1 hx
              have := escF_len y
              have := o4 y hy
              omega) (by decide)
            rw [show L (⟨#[42]⟩ : ByteArray) = [42] from rfl] at hJ
            have hbz : Below w.heap.size w wz := hb.trans (hbx.mono hb.size)
            replace b1 := cell_later hbx b1
            have a1 := fun W => run_add (P := Tryz.prog) (s := ⟨#[40]⟩) (a := [40]) (b := f.name) rfl rfl (by simp; omega) W
            have a2 := fun W => run_add (P := Tryz.prog) (a := [40] ++ f.name) (b := [61]) (t := ⟨#[61]⟩) rfl rfl (by simp; omega) W
            have a3 := fun W => run_add (P := Tryz.prog) (a := [40] ++ f.name ++ [61]) (b := Idn.joinL [42] (f.parts.map escF)) rfl rfl (by simp; omega) W
            have a4 := fun W => run_add (P := Tryz.prog) (a := [40] ++ f.name ++ [61] ++ Idn.joinL [42] (f.parts.map escF)) (b := [41]) (t := ⟨#[41]⟩) rfl rfl (by simp; omega) W
            generalize Idn.joinL [42] (f.parts.map escF) = jn at *
            generalize [40] ++ f.name = t1 at *
            generalize t1 ++ [61] = t2 at *
            generalize t2 ++ jn = t3 at *
            have k1 := cell_regrown b1
            have q1 := cq (W := wz) fun W' hW' => hJ W' hW'
            clear hJ hS8 hown8 hown hp eP o4 jl jl2 el htl hbx b3
            go_wp2_with fail
            refine wp_region_quiet_below (by kernel_rfl) (by kernel_rfl) ?_
            repeat (first | go_big_quiet_step ((go_at_call 71; exact q1 _ _)) | quiet_step ((go_at_call 71; exact q1 _ _)))
            refine wpQuiet_nil ?_
            intro _ hw'
            obtain ⟨⟨dq, osq⟩, hw''⟩ := hw'
            subst hw''
            have hb4 := below_regrown wz dq osq
            generalize grow (redrawn wz dq) osq = W4 at hb4 ⊢
            have hb5 := hbz.trans (hb4.mono hbz.size)
            clear q1 k1 b1
            go_wp2_with fail
            go_ret
            exact ⟨ret_str (by rw [HF.out]), hb5⟩
      · obtain ⟨e1, e2, e3, e4, e5, e6, e7, _⟩ := hk9
        have n1 := beq_eq_false_iff_ne.1 e1
        have n2 := beq_eq_false_iff_ne.1 e2
        have n3 := beq_eq_false_iff_ne.1 e3
        have n4 := beq_eq_false_iff_ne.1 e4
        have n5 := beq_eq_false_iff_ne.1 e5
        have n6 := beq_eq_false_iff_ne.1 e6
        have n7 := beq_eq_false_iff_ne.1 e7
        have HF : Hid (R = [40] ++ f.name ++ [61] ++ Idn.joinL [42] (f.parts.map escF) ++ [41]) := by
          show _ = _; rw [HR.out, txtF, if_neg (by omega), if_neg (by omega), if_neg (by omega), if_neg (by omega), if_neg (by omega), if_neg (by omega), if_neg (by omega)]
  

        obtain ⟨wo, hwo⟩ : ∃ wo : World, wo = wr := ⟨_, rfl⟩
        subst hwo
        clear HR eE n1 n2 n3 n4 n5 n6 n7 b2
        go_wp2_with fail
        go_loopw [6, 80] (fun u i wx => ∃ k : Nat, k ≤ f.parts.length ∧ i = .int .i64 k ∧ wx.ownsRow wo.heap.size 9 1 u k (escV (f.parts.take k)) ∧ Below wo.heap.size wo wx) (fun _ i _ => f.parts.length - (intOf i).toNat)
        case atStart => exact ⟨0, Nat.zero_le _, rfl, World.ownsRow_nil _ _ _ _, Below.refl _ _⟩
        case round =>
          obtain ⟨j, hj9, rfl, hown, hbx⟩ := hrel
          obtain ⟨A, c, rfl⟩ := own_shape hown
          obtain ⟨wz, hwz⟩ : ∃ wz : World, wz = wr := ⟨_, rfl⟩
          subst hwz
          by_cases hjl : j < f.parts.length
          · obtain ⟨g, off, hA, hgl, d0⟩ := StrsV.cell (SlV.keep hp (hbx.mono hb.size)) hjl
            subst hA
            have hjI : (j : Int) < (f.parts.length : Int) := by omega
            have hE := eP j hjl wz
            have hsucc : escV (f.parts.take (j + 1)) = escV (f.parts.take j) ++ [.string (B (escF f.parts[j]))] := by
              unfold escV
              rw [List.take_succ_eq_append_getElem hjl, List.map_append, List.map_append]; rfl
            have HS := Lib.hid hsucc
            generalize escF f.parts[j] = ej at *
            clear eP hp HF hsucc b1 b3
            go_wp2_with fail
            refine hE.mono ?_
            rintro e w6 ⟨rfl, hb6⟩
            have hown6 := own_below hown hb6
            have hbx6 := hbx.trans (hb6.mono hbx.size)
            have hs6 := hbx6.size
            clear hE hown d0
            go_wp2_with (at_builtin; refine wpList_push w6 rfl _ _ 23 rfl wo.heap.size 9 (.string ⟨#[]⟩) 1 16 Tryz.underlying23 info_str rfl (by decide) _ _ _ hown6 rfl [.string (B ej)] rfl rfl (by intro u hu; simp at hu; subst hu; rfl) (by omega) hs6 ?_ rfl)
            intro v7 w7 hown7 _ _ hb7 _
            clear hown6
            go_wp2_with fail
            go_roundw
            case rel => exact ⟨j + 1, by omega, by go_num, by rw [HS.out]; exact hown7, hbx6.trans hb7⟩
            case measure => simp [intOf]; omega
          · have hjj : j = f.parts.length := by omega
            have hjI : ¬ (j : Int) < (f.parts.length : Int) := by omega
            subst hjj
            have hown8 : wz.ownsRow wo.heap.size 9 1 (.slice A f.parts.length c) (f.parts.map escF).length ((f.parts.map escF).map sv) := by
              rw [List.take_of_length_le (Nat.le_refl _)] at hown
              rw [List.length_map]; exact hown
            have hS8 := StrsV.of_own hown8
            have hJ := fun W (hW : Below wz.heap.size wz W) => join_any _ (f.parts.map escF) ⟨#[42]⟩ W (SlV.mono (SlV.keep hS8 hW) hW.size) (by rw [List.length_map]; omega) (fun x hx => by
              obtain ⟨y, hy, rfl⟩ := List.mem_map.1 hx
              have := escF_len y
              have := o4 y hy
              omega) (by decide)
            rw [show L (⟨#[42]⟩ : ByteArray) = [42] from rfl] at hJ
            have hbz : Below w.heap.size w wz := hb.trans (hbx.mono hb.size)
            replace b1 := cell_later hbx b1
            have a1 := fun W => run_add (P := Tryz.prog) (s := ⟨#[40]⟩) (a := [40]) (b := f.name) rfl rfl (by simp; omega) W
            have a2 := fun W => run_add (P := Tryz.prog) (a := [40] ++ f.name) (b := [61]) (t := ⟨#[61]⟩) rfl rfl (by simp; omega) W
            have a3 := fun W => run_add (P := Tryz.prog) (a := [40] ++ f.name ++ [61]) (b := Idn.joinL [42] (f.parts.map escF)) rfl rfl (by simp; omega) W
            have a4 := fun W => run_add (P := Tryz.prog) (a := [40] ++ f.name ++ [61] ++ Idn.joinL [42] (f.parts.map escF)) (b := [41]) (t := ⟨#[41]⟩) rfl rfl (by simp; omega) W
            generalize Idn.joinL [42] (f.parts.map escF) = jn at *
            generalize [40] ++ f.name = t1 at *
            generalize t1 ++ [61] = t2 at *
            generalize t2 ++ jn = t3 at *
            have k1 := cell_regrown b1
            have q1 := cq (W := wz) fun W' hW' => hJ W' hW'
            clear hJ hS8 hown8 hown hp eP o4 jl jl2 el htl hbx b3
            go_wp2_with fail
            refine wp_region_quiet_below (by kernel_rfl) (by kernel_rfl) ?_
            repeat (first | go_big_quiet_step ((go_at_call 71; exact q1 _ _)) | quiet_step ((go_at_call 71; exact q1 _ _)))
            refine wpQuiet_nil ?_
            intro _ hw'
            obtain ⟨⟨dq, osq⟩, hw''⟩ := hw'
            subst hw''
            have hb4 := below_regrown wz dq osq
            generalize grow (redrawn wz dq) osq = W4 at hb4 ⊢
            have hb5 := hbz.trans (hb4.mono hbz.size)
            clear q1 k1 b1
            go_wp2_with fail
            go_ret
            exact ⟨ret_str (by rw [HF.out]), hb5⟩
set_option maxRecDepth 100000 in
theorem fText_any (d : Nat) (v : Value) (f : Flt) (w : World) (hv : FltV w w.heap.size d v f) (hs : FSm 1000 f) :
    Calls Tryz.prog 16 #[v] w fun e w' => e = .returned (.tuple #[.string (B (fText f).1), .int .i64 (fText f).2]) ∧ Below w.heap.size w w' := by
  have kC := fun W (hW : Below w.heap.size w W) => fCheck_any d _ f W (hv.on hW) hs
  have kT := fun W (hW : Below w.heap.size w W) => ftext_any d _ f W (hv.on hW) hs
  have HR : Hid (fText f = if fCheck f != 0 then ([], fCheck f) else if 4096 < (fTxt f).length then ([], 3) else (fTxt f, 0)) := rfl
  obtain ⟨Ap, cp, Ak, ck, rfl, hp, hk⟩ := hv.shape
  have hz := Idn.size_B (fTxt f)
  generalize fText f = R at *
  generalize fCheck f = ec at *
  generalize fTxt f = t at *
  clear hp hk hv hs
  go_enter Tryz.func16, Tryz.ntmps16
  go_upto_region 1 with fail
  with_reducible refine gen1 (R := fun W => Code.wp Tryz.prog _ _ _ W) ?_
  intro W hbW hszW hc _
  have b0 : W.cell? ⟨w.heap.size, 0, none⟩ = some (.int .i64 f.kind) := hc 0 _ rfl
  have b1 : W.cell? ⟨w.heap.size, 1, none⟩ = some (.string (B f.name)) := hc 1 _ rfl
  have b2 : W.cell? ⟨w.heap.size, 2, none⟩ = some (.string (B f.value)) := hc 2 _ rfl
  have b3 : W.cell? ⟨w.heap.size, 3, none⟩ = some (.slice Ap f.parts.length cp) := hc 3 _ rfl
  have b4 : W.cell? ⟨w.heap.size, 4, none⟩ = some (.slice Ak f.kids.length ck) := hc 4 _ rfl
  clear hc hszW
  go_wp2_with fail
  refine (kC W hbW).mono ?_
  rintro e w1 ⟨rfl, hb1⟩
  replace b0 := cell_later hb1 b0
  replace b1 := cell_later hb1 b1
  replace b2 := cell_later hb1 b2
  replace b3 := cell_later hb1 b3
  replace b4 := cell_later hb1 b4
  have hbw1 := hbW.trans (hb1.mono hbW.size)
  clear kC hb1 hbW
  by_cases hec : ec = 0
  case neg =>
    have hI : (ec != 0) = true := by simpa using hec
    have HF : Hid (R = ([], ec)) := by show _ = _; rw [HR.out, hI]; rfl
    clear HR kT hec hz
    go_wp2_with fail
    go_ret2
    exact ⟨by rw [HF.out]; rfl, hbw1⟩
  subst hec
  have HR2 : Hid (R = if 4096 < t.length then ([], 3) else (t, 0)) := HR.out
  clear HR
  go_wp2_with fail
  refine (kT w1 hbw1).mono ?_
  rintro e w2 ⟨rfl, hb2⟩
  have hbw2 := hbw1.trans (hb2.mono hbw1.size)
  clear kT b0 b1 b2 b3 b4
  by_cases h4 : 4096 < t.length
  · have hI : (4096 : Int) < ((B t).size : Int) := by omega
    have HF : Hid (R = ([], 3)) := by show _ = _; rw [HR2.out, if_pos h4]
    clear HR2 h4 hz
    go_wp2_with fail
    go_ret2
    exact ⟨by rw [HF.out]; rfl, hbw2⟩
  · have hI : ¬ (4096 : Int) < ((B t).size : Int) := by omega
    have HF : Hid (R = (t, 0)) := by show _ = _; rw [HR2.out, if_neg h4]
    clear HR2 h4 hz
    go_wp2_with fail
    go_ret2
    exact ⟨by rw [HF.out]; rfl, hbw2⟩
end Go.Proofs.YtmamnmjfbadiiaaGreatDoor
/- identityref09: escape, text, Text; identityref02.Between. -/
namespace Go.Proofs.YtmamnmjfbadiiaaGreatDoor
open Go.RowKit Go.Sort
open Idn (L B Bs drop_L take_L size_L)
set_option maxHeartbeats 2000000 in
set_option maxRecDepth 100000 in
theorem r9_escape_any (s : ByteArray) (w : World) (hs : s.size ≤ 1000000000) :
    Calls Tryz.prog 72 #[.string s] w fun e w' => e = .returned (.string (B (escF (L s)))) ∧ Below w.heap.size w w' := by
  generalize hr : escF (L s) = r
  have HR := Lib.hid hr
  clear hr
  go_enter Tryz.func72, Tryz.ntmps72
  go_wp2
  go_loopw [3, 4] (fun o i wr => ∃ (k : Nat) (acc : Bs), k ≤ s.size ∧ i = .int .i64 k ∧ wr.ownsRow w.heap.size 5 1 o acc.length (acc.map bc) ∧ Below w.heap.size w wr ∧ Hid (acc = escF ((L s).take k)) ∧ acc.length ≤ 3 * k) (fun _ i _ => s.size - (intOf i).toNat)
  case atStart => exact ⟨0, [], Nat.zero_le _, rfl, World.ownsRow_nil _ _ _ _, Below.refl _ _, rfl, Nat.le_refl _⟩
  case round =>
    obtain ⟨k, acc, hk, rfl, hown, hb, hinv, hal⟩ := hrel
    obtain ⟨wo, hwo⟩ : ∃ wo : World, wo = wr := ⟨_, rfl⟩
    subst hwo
    by_cases hlt : k < s.size
    · have hltI : (k : Int) < (s.size : Int) := by omega
      have hstep : escF ((L s).take (k + 1)) = escF ((L s).take k) ++ escF1 s[k] := by rw [take_L s k hlt, escF_snoc]
      obtain ⟨ch, hch⟩ : ∃ ch : UInt8, ch = s[k] := ⟨_, rfl⟩
      rw [← hch] at hstep
      have hix : (s[k].toNat : Int) = (ch.toNat : Int) := by rw [hch]
      rcases escF_cases ch with ⟨hc, e1⟩ | ⟨hc, e1⟩ | ⟨hc, e1⟩ | ⟨hc, e1⟩ | ⟨h1, h2, h3, h4, e1⟩
      · have n0 : ((s[k].toNat : Int) == 40) = true := by rw [hix, hc]; rfl
        have HF : Hid (acc ++ [92, 50, 56] = escF ((L s).take (k + 1))) := by show _ = _; rw [hstep, e1, hinv.out]
        clear hstep e1 hinv hch hix hc
        go_wp2_with (at_builtin; refine wpList_pushN rfl _ _ 89 rfl w.heap.size 5 (.int .u8 0) 1 1 Tryz.underlying89 info_u8 rfl (by decide) _ acc.length _ hown rfl [.int .u8 92, .int .u8 50, .int .u8 56] 3 rfl rfl (by intro u hu; simp at hu; rcases hu with rfl | rfl | rfl <;> rfl) (by omega) hb.size ?_ rfl)
        intro v' w1 hown' hg' hb'
        clear hown
        go_wp2_with fail
        go_roundw
        case rel => exact ⟨k + 1, acc ++ [92, 50, 56], by omega, by go_num, by rw [List.length_append, List.map_append]; exact hown', hb.trans hb', HF, by rw [List.length_append]; simp; omega⟩
        case measure => simp [intOf]; omega
      · have n0 : ((s[k].toNat : Int) == 41) = true := by rw [hix, hc]; rfl
        have n40 : ((s[k].toNat : Int) == 40) = false := by rw [hix, hc]; rfl
        have HF : Hid (acc ++ [92, 50, 57] = escF ((L s).take (k + 1))) := by show _ = _; rw [hstep, e1, hinv.out]
        clear hstep e1 hinv hch hix hc
        go_wp2_with (at_builtin; refine wpList_pushN rfl _ _ 89 rfl w.heap.size 5 (.int .u8 0) 1 1 Tryz.underlying89 info_u8 rfl (by decide) _ acc.length _ hown rfl [.int .u8 92, .int .u8 50, .int .u8 57] 3 rfl rfl (by intro u hu; simp at hu; rcases hu with rfl | rfl | rfl <;> rfl) (by omega) hb.size ?_ rfl)
        intro v' w1 hown' hg' hb'
        clear hown
        go_wp2_with fail
        go_roundw
        case rel => exact ⟨k + 1, acc ++ [92, 50, 57], by omega, by go_num, by rw [List.length_append, List.map_append]; exact hown', hb.trans hb', HF, by rw [List.length_append]; simp; omega⟩
        case measure => simp [intOf]; omega
      · have n0 : ((s[k].toNat : Int) == 42) = true := by rw [hix, hc]; rfl
        have n40 : ((s[k].toNat : Int) == 40) = false := by rw [hix, hc]; rfl
        have n41 : ((s[k].toNat : Int) == 41) = false := by rw [hix, hc]; rfl
        have HF : Hid (acc ++ [92, 50, 97] = escF ((L s).take (k + 1))) := by show _ = _; rw [hstep, e1, hinv.out]
        clear hstep e1 hinv hch hix hc
        go_wp2_with (at_builtin; refine wpList_pushN rfl _ _ 89 rfl w.heap.size 5 (.int .u8 0) 1 1 Tryz.underlying89 info_u8 rfl (by decide) _ acc.length _ hown rfl [.int .u8 92, .int .u8 50, .int .u8 97] 3 rfl rfl (by intro u hu; simp at hu; rcases hu with rfl | rfl | rfl <;> rfl) (by omega) hb.size ?_ rfl)
        intro v' w1 hown' hg' hb'
        clear hown
        go_wp2_with fail
        go_roundw
        case rel => exact ⟨k + 1, acc ++ [92, 50, 97], by omega, by go_num, by rw [List.length_append, List.map_append]; exact hown', hb.trans hb', HF, by rw [List.length_append]; simp; omega⟩
        case measure => simp [intOf]; omega
      · have n0 : ((s[k].toNat : Int) == 92) = true := by rw [hix, hc]; rfl
        have n40 : ((s[k].toNat : Int) == 40) = false := by rw [hix, hc]; rfl
        have n41 : ((s[k].toNat : Int) == 41) = false := by rw [hix, hc]; rfl
        have n42 : ((s[k].toNat : Int) == 42) = false := by rw [hix, hc]; rfl
        have HF : Hid (acc ++ [92, 53, 99] = escF ((L s).take (k + 1))) := by show _ = _; rw [hstep, e1, hinv.out]
        clear hstep e1 hinv hch hix hc
        go_wp2_with (at_builtin; refine wpList_pushN rfl _ _ 89 rfl w.heap.size 5 (.int .u8 0) 1 1 Tryz.underlying89 info_u8 rfl (by decide) _ acc.length _ hown rfl [.int .u8 92, .int .u8 53, .int .u8 99] 3 rfl rfl (by intro u hu; simp at hu; rcases hu with rfl | rfl | rfl <;> rfl) (by omega) hb.size ?_ rfl)
        intro v' w1 hown' hg' hb'
        clear hown
        go_wp2_with fail
        go_roundw
        case rel => exact ⟨k + 1, acc ++ [92, 53, 99], by omega, by go_num, by rw [List.length_append, List.map_append]; exact hown', hb.trans hb', HF, by rw [List.length_append]; simp; omega⟩
        case measure => simp [intOf]; omega
      · have n1 : ((s[k].toNat : Int) == 40) = false := by rw [hix]; exact h1
        have n2 : ((s[k].toNat : Int) == 41) = false := by rw [hix]; exact h2
        have n3 : ((s[k].toNat : Int) == 42) = false := by rw [hix]; exact h3
        have n4 : ((s[k].toNat : Int) == 92) = false := by rw [hix]; exact h4
        have HF : Hid (acc ++ [s[k]] = escF ((L s).take (k + 1))) := by show _ = _; rw [hstep, e1, hinv.out, hch]
        clear hstep e1 hinv h1 h2 h3 h4 hch hix
        go_wp2_with (at_builtin; refine wpList_push wo rfl _ _ 89 rfl w.heap.size 5 (.int .u8 0) 1 1 Tryz.underlying89 info_u8 rfl (by decide) _ acc.length _ hown rfl [bc s[k]] rfl rfl (by intro u hu; simp at hu; subst hu; rfl) (by omega) hb.size ?_ rfl)
        intro v' w1' hown' _ _ hb' _
        clear hown
        go_wp2
        go_roundw
        case rel => exact ⟨k + 1, acc ++ [s[k]], by omega, by go_num, by simpa using hown', hb.trans hb', HF, by simp; omega⟩
        case measure => simp [intOf]; omega
    · have hltI : ¬ (k : Int) < (s.size : Int) := by omega
      have HF : Hid (r = acc) := by show _ = _; rw [← HR.out, hinv.out, List.take_of_length_le (by have := size_L s; omega)]
      obtain ⟨Ao, co, hov⟩ := own_shape hown
      subst hov
      have hcv := run_str (P := Tryz.prog) (w := wo) 89 9 5 Tryz.underlying89 Tryz.underlying9 Tryz.underlying5 w.heap.size _ _ hown
      clear hinv hown
      go_wp2
      go_ret
      exact ⟨by rw [HF.out] <;> rfl, hb⟩
theorem joinL_snoc (sep : Bs) (l : List Bs) (k : Nat) (h : k < l.length) : Idn.joinL sep (l.take (k + 1)) = (if k = 0 then [] else Idn.joinL sep (l.take k) ++ sep) ++ l[k] := by
  rw [List.take_succ_eq_append_getElem h]
  have hR : ∀ (a : List Bs) (x : Bs), Idn.joinR sep (a ++ [x]) = Idn.joinR sep a ++ (sep ++ x) := fun a x => by
    induction a with
    | nil => simp [Idn.joinR]
    | cons y a ih => rw [List.cons_append, Idn.joinR, Idn.joinR, ih]; simp
  by_cases h0 : k = 0
  · subst h0
    simp [Idn.joinL, Idn.joinR]
  · rw [if_neg h0]
    cases hl : l.take k with
    | nil =>
      have := congrArg List.length hl
      rw [List.length_take] at this
      rw [List.length_nil] at this; omega
    | cons y a => rw [List.cons_append, Idn.joinL, Idn.joinL, hR]; simp
set_option maxHeartbeats 1000000 in
set_option maxRecDepth 100000 in
theorem r2_between_any (v : Value) (l : List Bs) (sep : Bs) (w : World) (hv : StrsV w w.heap.size v l) (hl : l.length ≤ 100000) (hx : ∀ x ∈ l, x.length ≤ 1000000000) (hs : sep.length ≤ 1000) :
    Calls Tryz.prog 73 #[v, .string (B sep)] w fun e w' => e = .returned (.string (B (Idn.joinL sep l))) ∧ w = w' := by
  obtain ⟨A, c, rfl, hc⟩ := SlV.shape hv
  have hjl := fun k => Idn.length_joinL sep 1000000000 (l.take k) (fun x h => hx x (List.mem_of_mem_take h))
  go_enter Tryz.func73, Tryz.ntmps73
  go_wp2_with fail
  go_loop [5, 6] (fun o i => ∃ k : Nat, k ≤ l.length ∧ o = .string (B (Idn.joinL sep (l.take k))) ∧ i = .int .i64 (k : Int)) (fun _ i => l.length - (intOf i).toNat)
  case atStart => exact ⟨0, Nat.zero_le _, rfl, rfl⟩
  case round =>
    obtain ⟨k, hk, rfl, rfl⟩ := hrel
    by_cases hlt : k < l.length
    · obtain ⟨g, off, hA, hgl, c0⟩ := StrsV.cell hv hlt
      subst hA
      have hltI : (k : Int) < (l.length : Int) := by omega
      have HJ := Lib.hid (joinL_snoc sep l k hlt)
      have h1 := hjl k
      have hxk := hx l[k] (List.getElem_mem hlt)
      have hmul : (l.take k).length * (1000000000 + sep.length) ≤ 100000 * (1000000000 + sep.length) := Nat.mul_le_mul_right _ (by rw [List.length_take]; omega)
      have hjb : (Idn.joinL sep (l.take k)).length ≤ 100000 * 1000001000 := by
        have : 100000 * (1000000000 + sep.length) ≤ 100000 * 1000001000 := Nat.mul_le_mul_left _ (by omega)
        omega
      clear h1 hmul
      have HZ : Hid (k = 0 → Idn.joinL sep (l.take k) = []) := fun e => by subst e; rfl
      generalize Idn.joinL sep (l.take k) = t at *
      by_cases h0 : k = 0
      · subst h0
        have HF : Hid (Idn.joinL sep (l.take (0 + 1)) = [] ++ l[0]) := HJ.out
        have a1 := fun W => run_add (P := Tryz.prog) (a := t) (b := l[0]) rfl rfl (by omega) W
        clear HJ hjl
        have hz : t = [] := HZ.out rfl
        subst hz
        rw [Nat.add_zero] at c0
        go_wp2_with fail
        go_round
        case rel => exact ⟨1, by omega, by rw [HF.out]; rfl, by go_num⟩
        case measure => simp [intOf]; omega
      · have h0I : (0 : Int) < (k : Int) := by omega
        have HF : Hid (Idn.joinL sep (l.take (k + 1)) = (t ++ sep) ++ l[k]) := by show _ = _; rw [HJ.out, if_neg h0]
        have a1 := fun W => run_add (P := Tryz.prog) (a := t) (b := sep) rfl rfl (by omega) W
        have a2 := fun W => run_add (P := Tryz.prog) (a := t ++ sep) (b := l[k]) rfl rfl (by rw [List.length_append]; omega) W
        clear HJ hjl HZ
        generalize t ++ sep = t2 at *
        go_wp2_with fail
        go_round
        case rel => exact ⟨k + 1, by omega, by rw [HF.out], by go_num⟩
        case measure => simp [intOf]; omega
    · have hkk : k = l.length := by omega
      have hltI : ¬ (k : Int) < (l.length : Int) := by omega
      rw [hkk, List.take_of_length_le (Nat.le_refl _)]
      clear hjl
      rw [← hkk]
      go_wp2_with fail
      go_ret
      exact ⟨rfl, rfl⟩
set_option maxHeartbeats 8000000 in
set_option maxRecDepth 100000 in
theorem r9_text_any : ∀ (d : Nat) (v : Value) (f : Flt) (w : World), FltV w w.heap.size d v f → FSm 1000 f →
    Calls Tryz.prog 40 #[v] w fun e w' => e = .returned (.string (B (fTxt f))) ∧ Below w.heap.size w w' := by
  intro d
  induction d using Nat.strongRecOn with
  | _ d ih =>
  intro v f w hv hs
  obtain ⟨Ap, cp, Ak, ck, rfl, hp, hk⟩ := hv.shape
  have hks := hs.kids
  have hkl := hks.len
  obtain ⟨o1, o2, o3, o4⟩ := fOk_own hs.2
  have HR : Hid (fTxt f = txtF f.kind f.name f.value f.parts (fTxts f.kids)) := fTxt_unf f
  have htl := fTxts_len hks
  have eE := fun W => r9_escape_any (B f.value) W (by rw [Idn.size_B]; omega)
  have eP := fun (j : Nat) (hj : j < f.parts.length) W => r9_escape_any (B f.parts[j]) W (by rw [Idn.size_B]; have := o4 _ (List.getElem_mem hj); omega)
  simp only [Idn.L_B] at eE eP
  have el := escF_len f.value
  have jl := Idn.length_joinL [42] 300000 (f.parts.map escF) (fun x hx => by
    obtain ⟨y, hy, rfl⟩ := List.mem_map.1 hx
    have := escF_len y
    have := o4 y hy
    omega)
  rw [List.length_map, List.length_singleton] at jl
  have jl2 : f.parts.length * (300000 + 1) ≤ 1000 * (300000 + 1) := Nat.mul_le_mul_right _ o3
  generalize fTxt f = R at *
  clear hv
  go_enter Tryz.func40, Tryz.ntmps40
  go_upto_region 1 with fail
  with_reducible refine gen1 (R := fun W => Code.wp Tryz.prog _ _ _ W) ?_
  intro W hbW hszW hc _
  have b0 : W.cell? ⟨w.heap.size, 0, none⟩ = some (.int .i64 f.kind) := hc 0 _ rfl
  have b1 : W.cell? ⟨w.heap.size, 1, none⟩ = some (.string (B f.name)) := hc 1 _ rfl
  have b2 : W.cell? ⟨w.heap.size, 2, none⟩ = some (.string (B f.value)) := hc 2 _ rfl
  have b3 : W.cell? ⟨w.heap.size, 3, none⟩ = some (.slice Ap f.parts.length cp) := hc 3 _ rfl
  have b4 : W.cell? ⟨w.heap.size, 4, none⟩ = some (.slice Ak f.kids.length ck) := hc 4 _ rfl
  clear hc hszW
  go_wp2_with fail
  go_loopw [3, 4] (fun u i wr => ∃ k : Nat, k ≤ f.kids.length ∧ u = .string (B (fTxts (f.kids.take k))) ∧ i = .int .i64 k ∧ Below W.heap.size W wr) (fun _ i _ => f.kids.length - (intOf i).toNat)
  case atStart => exact ⟨0, Nat.zero_le _, rfl, rfl, Below.refl _ _⟩
  case round =>
    obtain ⟨k, hk9, rfl, rfl, hbr⟩ := hrel
    have hb := hbW.trans (hbr.mono hbW.size)
    replace b4 := cell_later hbr b4
    by_cases hlt : k < f.kids.length
    · obtain ⟨g, off, Ap', cp', Ak', ck', hA, hg, c0, c1, c2, c3, c4, hd, hkid⟩ := FltsV.kid2 (FltsV.keep hk hb) hlt
      subst hA
      have hltI : (k : Int) < (f.kids.length : Int) := by omega
      have hmem := List.getElem_mem hlt
      have hcall := ih (d - 1) (by omega) _ f.kids[k] wr (FltV.mono hkid hb.size) (hks.mem hmem)
      have HT := Lib.hid (fTxts_take hlt)
      have hl1 := fTxts_part f.kids (k + 1)
      rw [fTxts_take hlt, List.length_append] at hl1
      have a1 := fun W => run_add (P := Tryz.prog) (a := fTxts (f.kids.take k)) (b := fTxt f.kids[k]) rfl rfl (by omega) W
      generalize fTxt f.kids[k] = tk at *
      generalize fTxts (f.kids.take k) = ta at *
      clear hkid ih hk hl1 hb b0 b1 b2 b3 HR eE eP
      go_wp2_with fail
      refine hcall.mono ?_
      rintro e w6 ⟨rfl, hb6⟩
      clear hcall c0 c1 c2 c3 c4
      go_wp2_with fail
      go_roundw
      case rel => exact ⟨k + 1, by omega, by rw [HT.out], by go_num, hbr.trans (hb6.mono hbr.size)⟩
      case measure => simp [intOf]; omega
    · have hkk : k = f.kids.length := by omega
      have hltI : ¬ (k : Int) < (f.kids.length : Int) := by omega
      rw [hkk, List.take_of_length_le (Nat.le_refl _)]
      replace b0 := cell_later hbr b0
      replace b1 := cell_later hbr b1
      replace b2 := cell_later hbr b2
      replace b3 := cell_later hbr b3
      replace hp := SlV.keep hp hb
      clear ih hk hks hbr
      rw [← hkk]
      generalize fTxts f.kids = T at *
      clear hkk
      generalize hkd : f.kind = kd at *
      clear hkd
      rcases kinds kd with rfl | rfl | rfl | rfl | rfl | rfl | rfl | rfl | hk9
      · have HF : Hid (R = [40, 38] ++ T ++ [41]) := HR.out
        have a1 := fun W => run_add (P := Tryz.prog) (s := ⟨#[40, 38]⟩) (a := [40, 38]) (b := T) rfl rfl (by simp; omega) W
        have a2 := fun W => run_add (P := Tryz.prog) (a := [40, 38] ++ T) (b := [41]) (t := ⟨#[41]⟩) rfl rfl (by simp; omega) W
        generalize [40, 38] ++ T = T1 at *
        clear HR eE eP hp jl jl2 el htl o4
        go_wp2_with fail
        go_ret
        exact ⟨ret_str (by rw [HF.out]), hb⟩
      · have HF : Hid (R = [40, 124] ++ T ++ [41]) := HR.out
        have a1 := fun W => run_add (P := Tryz.prog) (s := ⟨#[40, 124]⟩) (a := [40, 124]) (b := T) rfl rfl (by simp; omega) W
        have a2 := fun W => run_add (P := Tryz.prog) (a := [40, 124] ++ T) (b := [41]) (t := ⟨#[41]⟩) rfl rfl (by simp; omega) W
        generalize [40, 124] ++ T = T1 at *
        clear HR eE eP hp jl jl2 el htl o4
        go_wp2_with fail
        go_ret
        exact ⟨ret_str (by rw [HF.out]), hb⟩
      · have HF : Hid (R = [40, 33] ++ T ++ [41]) := HR.out
        have a1 := fun W => run_add (P := Tryz.prog) (s := ⟨#[40, 33]⟩) (a := [40, 33]) (b := T) rfl rfl (by simp; omega) W
        have a2 := fun W => run_add (P := Tryz.prog) (a := [40, 33] ++ T) (b := [41]) (t := ⟨#[41]⟩) rfl rfl (by simp; omega) W
        generalize [40, 33] ++ T = T1 at *
        clear HR eE eP hp jl jl2 el htl o4
        go_wp2_with fail
        go_ret
        exact ⟨ret_str (by rw [HF.out]), hb⟩
      · have HF : Hid (R = [40] ++ f.name ++ [61] ++ escF f.value ++ [41]) := HR.out
        have a1 := fun W => run_add (P := Tryz.prog) (s := ⟨#[40]⟩) (a := [40]) (b := f.name) rfl rfl (by simp; omega) W
        have a2 := fun W => run_add (P := Tryz.prog) (a := [40] ++ f.name) (b := [61]) (t := ⟨#[61]⟩) rfl rfl (by simp; omega) W
        have a3 := fun W => run_add (P := Tryz.prog) (a := [40] ++ f.name ++ [61]) (b := escF f.value) rfl rfl (by simp; omega) W
        have a4 := fun W => run_add (P := Tryz.prog) (a := [40] ++ f.name ++ [61] ++ escF f.value) (b := [41]) (t := ⟨#[41]⟩) rfl rfl (by simp; omega) W
        generalize escF f.value = ev at *
        generalize [40] ++ f.name = t1 at *
        generalize t1 ++ [61] = t2 at *
        generalize t2 ++ ev = t3 at *
        obtain ⟨W3, hW3⟩ : ∃ W3 : World, W3 = wr := ⟨_, rfl⟩
        subst hW3
        have k1 := cell_regrown b1
        have k2 := cell_regrown b2
        have q1 := cq (W := W3) fun W' _ => eE W'
        clear HR eE eP hp jl jl2 el htl o4
        go_wp2_with fail
        refine wp_region_quiet_below (by kernel_rfl) (by kernel_rfl) ?_
        repeat (first | go_big_quiet_step ((go_at_call 72; exact q1 _ _)) | quiet_step ((go_at_call 72; exact q1 _ _)))
        refine wpQuiet_nil ?_
        intro _ hw'
        obtain ⟨⟨dq, osq⟩, hw''⟩ := hw'
        subst hw''
        have hb4 := below_regrown W3 dq osq
        generalize grow (redrawn W3 dq) osq = W4 at hb4 ⊢
        have hb5 := hb.trans (hb4.mono hb.size)
        clear q1 k1 k2 b1 b2
        go_wp2_with fail
        go_ret
        exact ⟨ret_str (by rw [HF.out]), hb5⟩
      · have HF : Hid (R = [40] ++ f.name ++ [62, 61] ++ escF f.value ++ [41]) := HR.out
        have a1 := fun W => run_add (P := Tryz.prog) (s := ⟨#[40]⟩) (a := [40]) (b := f.name) rfl rfl (by simp; omega) W
        have a2 := fun W => run_add (P := Tryz.prog) (a := [40] ++ f.name) (b := [62, 61]) (t := ⟨#[62, 61]⟩) rfl rfl (by simp; omega) W
        have a3 := fun W => run_add (P := Tryz.prog) (a := [40] ++ f.name ++ [62, 61]) (b := escF f.value) rfl rfl (by simp; omega) W
        have a4 := fun W => run_add (P := Tryz.prog) (a := [40] ++ f.name ++ [62, 61] ++ escF f.value) (b := [41]) (t := ⟨#[41]⟩) rfl rfl (by simp; omega) W
        generalize escF f.value = ev at *
        generalize [40] ++ f.name = t1 at *
        generalize t1 ++ [62, 61] = t2 at *
        generalize t2 ++ ev = t3 at *
        obtain ⟨W3, hW3⟩ : ∃ W3 : World, W3 = wr := ⟨_, rfl⟩
        subst hW3
        have k1 := cell_regrown b1
        have k2 := cell_regrown b2
        have q1 := cq (W := W3) fun W' _ => eE W'
        clear HR eE eP hp jl jl2 el htl o4
        go_wp2_with fail
        refine wp_region_quiet_below (by kernel_rfl) (by kernel_rfl) ?_
        repeat (first | go_big_quiet_step ((go_at_call 72; exact q1 _ _)) | quiet_step ((go_at_call 72; exact q1 _ _)))
        refine wpQuiet_nil ?_
        intro _ hw'
        obtain ⟨⟨dq, osq⟩, hw''⟩ := hw'
        subst hw''
        have hb4 := below_regrown W3 dq osq
        generalize grow (redrawn W3 dq) osq = W4 at hb4 ⊢
        have hb5 := hb.trans (hb4.mono hb.size)
        clear q1 k1 k2 b1 b2
        go_wp2_with fail
        go_ret
        exact ⟨ret_str (by rw [HF.out]), hb5⟩
      · have HF : Hid (R = [40] ++ f.name ++ [60, 61] ++ escF f.value ++ [41]) := HR.out
        have a1 := fun W => run_add (P := Tryz.prog) (s := ⟨#[40]⟩) (a := [40]) (b := f.name) rfl rfl (by simp; omega) W
        have a2 := fun W => run_add (P := Tryz.prog) (a := [40] ++ f.name) (b := [60, 61]) (t := ⟨#[60, 61]⟩) rfl rfl (by simp; omega) W
        have a3 := fun W => run_add (P := Tryz.prog) (a := [40] ++ f.name ++ [60, 61]) (b := escF f.value) rfl rfl (by simp; omega) W
        have a4 := fun W => run_add (P := Tryz.prog) (a := [40] ++ f.name ++ [60, 61] ++ escF f.value) (b := [41]) (t := ⟨#[41]⟩) rfl rfl (by simp; omega) W
        generalize escF f.value = ev at *
        generalize [40] ++ f.name = t1 at *
        generalize t1 ++ [60, 61] = t2 at *
        generalize t2 ++ ev = t3 at *
        obtain ⟨W3, hW3⟩ : ∃ W3 : World, W3 = wr := ⟨_, rfl⟩
        subst hW3
        have k1 := cell_regrown b1
        have k2 := cell_regrown b2
        have q1 := cq (W := W3) fun W' _ => eE W'
        clear HR eE eP hp jl jl2 el htl o4
        go_wp2_with fail
        refine wp_region_quiet_below (by kernel_rfl) (by kernel_rfl) ?_
        repeat (first | go_big_quiet_step ((go_at_call 72; exact q1 _ _)) | quiet_step ((go_at_call 72; exact q1 _ _)))
        refine wpQuiet_nil ?_
        intro _ hw'
        obtain ⟨⟨dq, osq⟩, hw''⟩ := hw'
        subst hw''
        have hb4 := below_regrown W3 dq osq
        generalize grow (redrawn W3 dq) osq = W4 at hb4 ⊢
        have hb5 := hb.trans (hb4.mono hb.size)
        clear q1 k1 k2 b1 b2
        go_wp2_with fail
        go_ret
        exact ⟨ret_str (by rw [HF.out]), hb5⟩
      · have HF : Hid (R = [40] ++ f.name ++ [61, 42, 41]) := HR.out
        have a1 := fun W => run_add (P := Tryz.prog) (s := ⟨#[40]⟩) (a := [40]) (b := f.name) rfl rfl (by simp; omega) W
        have a2 := fun W => run_add (P := Tryz.prog) (a := [40] ++ f.name) (b := [61, 42, 41]) (t := ⟨#[61, 42, 41]⟩) rfl rfl (by simp; omega) W
        generalize [40] ++ f.name = t1 at *
        clear HR eE eP hp jl jl2 el htl o4
        go_wp2_with fail
        go_ret
        exact ⟨ret_str (by rw [HF.out]), hb⟩
      · have HF : Hid (R = [40] ++ f.name ++ [61] ++ Idn.joinL [42] (f.parts.map escF) ++ [41]) := HR.out
        obtain ⟨wo, hwo⟩ : ∃ wo : World, wo = wr := ⟨_, rfl⟩
        subst hwo
        clear HR eE b2
        go_wp2_with fail
        go_loopw [5, 6] (fun u i wx => ∃ k : Nat, k ≤ f.parts.length ∧ i = .int .i64 k ∧ wx.ownsRow wo.heap.size 9 1 u k (escV (f.parts.take k)) ∧ Below wo.heap.size wo wx) (fun _ i _ => f.parts.length - (intOf i).toNat)
        case atStart => exact ⟨0, Nat.zero_le _, rfl, World.ownsRow_nil _ _ _ _, Below.refl _ _⟩
        case round =>
          obtain ⟨j, hj9, rfl, hown, hbx⟩ := hrel
          obtain ⟨A, c, rfl⟩ := own_shape hown
          obtain ⟨wz, hwz⟩ : ∃ wz : World, wz = wr := ⟨_, rfl⟩
          subst hwz
          have b3z := cell_later hbx b3
          by_cases hjl : j < f.parts.length
          · obtain ⟨g, off, hA, hgl, d0⟩ := StrsV.cell (SlV.keep hp (hbx.mono hb.size)) hjl
            subst hA
            have hjI : (j : Int) < (f.parts.length : Int) := by omega
            have hE := eP j hjl wz
            have hsucc : escV (f.parts.take (j + 1)) = escV (f.parts.take j) ++ [.string (B (escF f.parts[j]))] := by
              unfold escV
              rw [List.take_succ_eq_append_getElem hjl, List.map_append, List.map_append]; rfl
            have HS := Lib.hid hsucc
            generalize escF f.parts[j] = ej at *
            clear eP hp HF hsucc b1 b3
            go_wp2_with fail
            refine hE.mono ?_
            rintro e w6 ⟨rfl, hb6⟩
            have hown6 := own_below hown hb6
            have hbx6 := hbx.trans (hb6.mono hbx.size)
            have hs6 := hbx6.size
            clear hE hown d0
            go_wp2_with (at_builtin; refine wpList_push w6 rfl _ _ 23 rfl wo.heap.size 9 (.string ⟨#[]⟩) 1 16 Tryz.underlying23 info_str rfl (by decide) _ _ _ hown6 rfl [.string (B ej)] rfl rfl (by intro u hu; simp at hu; subst hu; rfl) (by omega) hs6 ?_ rfl)
            intro v7 w7 hown7 _ _ hb7 _
            clear hown6
            go_wp2_with fail
            go_roundw
            case rel => exact ⟨j + 1, by omega, by go_num, by rw [HS.out]; exact hown7, hbx6.trans hb7⟩
            case measure => simp [intOf]; omega
          · have hjj : j = f.parts.length := by omega
            have hjI : ¬ (j : Int) < (f.parts.length : Int) := by omega
            subst hjj
            have hown8 : wz.ownsRow wo.heap.size 9 1 (.slice A f.parts.length c) (f.parts.map escF).length ((f.parts.map escF).map sv) := by
              rw [List.take_of_length_le (Nat.le_refl _)] at hown
              rw [List.length_map]; exact hown
            have hS8 := StrsV.of_own hown8
            have hJ := fun W (hW : Below wz.heap.size wz W) => show Calls Tryz.prog 73 #[.slice A f.parts.length c, .string ⟨#[42]⟩] W (fun e w' => e = .returned (.string (B (Idn.joinL [42] (f.parts.map escF)))) ∧ Below W.heap.size W w') from Calls.mono ((r2_between_any (.slice A f.parts.length c) (f.parts.map escF) [42] W (SlV.mono (SlV.keep hS8 hW) hW.size) (by rw [List.length_map]; omega) (fun x hx => by
              obtain ⟨y, hy, rfl⟩ := List.mem_map.1 hx
              have := escF_len y
              have := o4 y hy
              omega) (by decide))) fun e w' h => ⟨h.1, h.2 ▸ Below.refl _ _⟩
            have hbz : Below w.heap.size w wz := hb.trans (hbx.mono hb.size)
            replace b1 := cell_later hbx b1
            have a1 := fun W => run_add (P := Tryz.prog) (s := ⟨#[40]⟩) (a := [40]) (b := f.name) rfl rfl (by simp; omega) W
            have a2 := fun W => run_add (P := Tryz.prog) (a := [40] ++ f.name) (b := [61]) (t := ⟨#[61]⟩) rfl rfl (by simp; omega) W
            have a3 := fun W => run_add (P := Tryz.prog) (a := [40] ++ f.name ++ [61]) (b := Idn.joinL [42] (f.parts.map escF)) rfl rfl (by simp; omega) W
            have a4 := fun W => run_add (P := Tryz.prog) (a := [40] ++ f.name ++ [61] ++ Idn.joinL [42] (f.parts.map escF)) (b := [41]) (t := ⟨#[41]⟩) rfl rfl (by simp; omega) W
            generalize Idn.joinL [42] (f.parts.map escF) = jn at *
            generalize [40] ++ f.name = t1 at *
            generalize t1 ++ [61] = t2 at *
            generalize t2 ++ jn = t3 at *
            have k1 := cell_regrown b1
            have q1 := cq (W := wz) fun W' hW' => hJ W' hW'
            clear hJ hS8 hown8 hown hp eP o4 jl jl2 el htl hbx b3
            go_wp2_with fail
            refine wp_region_quiet_below (by kernel_rfl) (by kernel_rfl) ?_
            repeat (first | go_big_quiet_step ((go_at_call 73; exact q1 _ _)) | quiet_step ((go_at_call 73; exact q1 _ _)))
            refine wpQuiet_nil ?_
            intro _ hw'
            obtain ⟨⟨dq, osq⟩, hw''⟩ := hw'
            subst hw''
            have hb4 := below_regrown wz dq osq
            generalize grow (redrawn wz dq) osq = W4 at hb4 ⊢
            have hb5 := hbz.trans (hb4.mono hbz.size)
            clear q1 k1 b1
            go_wp2_with fail
            go_ret
            exact ⟨ret_str (by rw [HF.out]), hb5⟩
      · obtain ⟨e1, e2, e3, e4, e5, e6, e7, _⟩ := hk9
        have n1 := beq_eq_false_iff_ne.1 e1
        have n2 := beq_eq_false_iff_ne.1 e2
        have n3 := beq_eq_false_iff_ne.1 e3
        have n4 := beq_eq_false_iff_ne.1 e4
        have n5 := beq_eq_false_iff_ne.1 e5
        have n6 := beq_eq_false_iff_ne.1 e6
        have n7 := beq_eq_false_iff_ne.1 e7
        have HF : Hid (R = [40] ++ f.name ++ [61] ++ Idn.joinL [42] (f.parts.map escF) ++ [41]) := by
          show _ = _; rw [HR.out, txtF, if_neg (by omega), if_neg (by omega), if_neg (by omega), if_neg (by omega), if_neg (by omega), if_neg (by omega), if_neg (by omega)]
  

        obtain ⟨wo, hwo⟩ : ∃ wo : World, wo = wr := ⟨_, rfl⟩
        subst hwo
        clear HR eE n1 n2 n3 n4 n5 n6 n7 b2
        go_wp2_with fail
        go_loopw [5, 6] (fun u i wx => ∃ k : Nat, k ≤ f.parts.length ∧ i = .int .i64 k ∧ wx.ownsRow wo.heap.size 9 1 u k (escV (f.parts.take k)) ∧ Below wo.heap.size wo wx) (fun _ i _ => f.parts.length - (intOf i).toNat)
        case atStart => exact ⟨0, Nat.zero_le _, rfl, World.ownsRow_nil _ _ _ _, Below.refl _ _⟩
        case round =>
          obtain ⟨j, hj9, rfl, hown, hbx⟩ := hrel
          obtain ⟨A, c, rfl⟩ := own_shape hown
          obtain ⟨wz, hwz⟩ : ∃ wz : World, wz = wr := ⟨_, rfl⟩
          subst hwz
          have b3z := cell_later hbx b3
          by_cases hjl : j < f.parts.length
          · obtain ⟨g, off, hA, hgl, d0⟩ := StrsV.cell (SlV.keep hp (hbx.mono hb.size)) hjl
            subst hA
            have hjI : (j : Int) < (f.parts.length : Int) := by omega
            have hE := eP j hjl wz
            have hsucc : escV (f.parts.take (j + 1)) = escV (f.parts.take j) ++ [.string (B (escF f.parts[j]))] := by
              unfold escV
              rw [List.take_succ_eq_append_getElem hjl, List.map_append, List.map_append]; rfl
            have HS := Lib.hid hsucc
            generalize escF f.parts[j] = ej at *
            clear eP hp HF hsucc b1 b3
            go_wp2_with fail
            refine hE.mono ?_
            rintro e w6 ⟨rfl, hb6⟩
            have hown6 := own_below hown hb6
            have hbx6 := hbx.trans (hb6.mono hbx.size)
            have hs6 := hbx6.size
            clear hE hown d0
            go_wp2_with (at_builtin; refine wpList_push w6 rfl _ _ 23 rfl wo.heap.size 9 (.string ⟨#[]⟩) 1 16 Tryz.underlying23 info_str rfl (by decide) _ _ _ hown6 rfl [.string (B ej)] rfl rfl (by intro u hu; simp at hu; subst hu; rfl) (by omega) hs6 ?_ rfl)
            intro v7 w7 hown7 _ _ hb7 _
            clear hown6
            go_wp2_with fail
            go_roundw
            case rel => exact ⟨j + 1, by omega, by go_num, by rw [HS.out]; exact hown7, hbx6.trans hb7⟩
            case measure => simp [intOf]; omega
          · have hjj : j = f.parts.length := by omega
            have hjI : ¬ (j : Int) < (f.parts.length : Int) := by omega
            subst hjj
            have hown8 : wz.ownsRow wo.heap.size 9 1 (.slice A f.parts.length c) (f.parts.map escF).length ((f.parts.map escF).map sv) := by
              rw [List.take_of_length_le (Nat.le_refl _)] at hown
              rw [List.length_map]; exact hown
            have hS8 := StrsV.of_own hown8
            have hJ := fun W (hW : Below wz.heap.size wz W) => show Calls Tryz.prog 73 #[.slice A f.parts.length c, .string ⟨#[42]⟩] W (fun e w' => e = .returned (.string (B (Idn.joinL [42] (f.parts.map escF)))) ∧ Below W.heap.size W w') from Calls.mono ((r2_between_any (.slice A f.parts.length c) (f.parts.map escF) [42] W (SlV.mono (SlV.keep hS8 hW) hW.size) (by rw [List.length_map]; omega) (fun x hx => by
              obtain ⟨y, hy, rfl⟩ := List.mem_map.1 hx
              have := escF_len y
              have := o4 y hy
              omega) (by decide))) fun e w' h => ⟨h.1, h.2 ▸ Below.refl _ _⟩
            have hbz : Below w.heap.size w wz := hb.trans (hbx.mono hb.size)
            replace b1 := cell_later hbx b1
            have a1 := fun W => run_add (P := Tryz.prog) (s := ⟨#[40]⟩) (a := [40]) (b := f.name) rfl rfl (by simp; omega) W
            have a2 := fun W => run_add (P := Tryz.prog) (a := [40] ++ f.name) (b := [61]) (t := ⟨#[61]⟩) rfl rfl (by simp; omega) W
            have a3 := fun W => run_add (P := Tryz.prog) (a := [40] ++ f.name ++ [61]) (b := Idn.joinL [42] (f.parts.map escF)) rfl rfl (by simp; omega) W
            have a4 := fun W => run_add (P := Tryz.prog) (a := [40] ++ f.name ++ [61] ++ Idn.joinL [42] (f.parts.map escF)) (b := [41]) (t := ⟨#[41]⟩) rfl rfl (by simp; omega) W
            generalize Idn.joinL [42] (f.parts.map escF) = jn at *
            generalize [40] ++ f.name = t1 at *
            generalize t1 ++ [61] = t2 at *
            generalize t2 ++ jn = t3 at *
            have k1 := cell_regrown b1
            have q1 := cq (W := wz) fun W' hW' => hJ W' hW'
            clear hJ hS8 hown8 hown hp eP o4 jl jl2 el htl hbx b3
            go_wp2_with fail
            refine wp_region_quiet_below (by kernel_rfl) (by kernel_rfl) ?_
            repeat (first | go_big_quiet_step ((go_at_call 73; exact q1 _ _)) | quiet_step ((go_at_call 73; exact q1 _ _)))
            refine wpQuiet_nil ?_
            intro _ hw'
            obtain ⟨⟨dq, osq⟩, hw''⟩ := hw'
            subst hw''
            have hb4 := below_regrown wz dq osq
            generalize grow (redrawn wz dq) osq = W4 at hb4 ⊢
            have hb5 := hbz.trans (hb4.mono hbz.size)
            clear q1 k1 b1
            go_wp2_with fail
            go_ret
            exact ⟨ret_str (by rw [HF.out]), hb5⟩
set_option maxRecDepth 100000 in
theorem r9_Text_any (d : Nat) (v : Value) (f : Flt) (w : World) (hv : FltV w w.heap.size d v f) (hs : FSm 1000 f) :
    Calls Tryz.prog 17 #[v] w fun e w' => e = .returned (.tuple #[.string (B (fText f).1), .int .i64 (fText f).2]) ∧ Below w.heap.size w w' := by
  have kC := fun W (hW : Below w.heap.size w W) => r9_Check_any d _ f W (hv.on hW) hs
  have kT := fun W (hW : Below w.heap.size w W) => r9_text_any d _ f W (hv.on hW) hs
  have HR : Hid (fText f = if fCheck f != 0 then ([], fCheck f) else if 4096 < (fTxt f).length then ([], 3) else (fTxt f, 0)) := rfl
  obtain ⟨Ap, cp, Ak, ck, rfl, hp, hk⟩ := hv.shape
  have hz := Idn.size_B (fTxt f)
  generalize fText f = R at *
  generalize fCheck f = ec at *
  generalize fTxt f = t at *
  clear hp hk hv hs
  go_enter Tryz.func17, Tryz.ntmps17
  go_upto_region 1 with fail
  with_reducible refine gen1 (R := fun W => Code.wp Tryz.prog _ _ _ W) ?_
  intro W hbW hszW hc _
  have b0 : W.cell? ⟨w.heap.size, 0, none⟩ = some (.int .i64 f.kind) := hc 0 _ rfl
  have b1 : W.cell? ⟨w.heap.size, 1, none⟩ = some (.string (B f.name)) := hc 1 _ rfl
  have b2 : W.cell? ⟨w.heap.size, 2, none⟩ = some (.string (B f.value)) := hc 2 _ rfl
  have b3 : W.cell? ⟨w.heap.size, 3, none⟩ = some (.slice Ap f.parts.length cp) := hc 3 _ rfl
  have b4 : W.cell? ⟨w.heap.size, 4, none⟩ = some (.slice Ak f.kids.length ck) := hc 4 _ rfl
  clear hc hszW
  go_wp2_with fail
  refine (kC W hbW).mono ?_
  rintro e w1 ⟨rfl, hb1⟩
  replace b0 := cell_later hb1 b0
  replace b1 := cell_later hb1 b1
  replace b2 := cell_later hb1 b2
  replace b3 := cell_later hb1 b3
  replace b4 := cell_later hb1 b4
  have hbw1 := hbW.trans (hb1.mono hbW.size)
  clear kC hb1 hbW
  by_cases hec : ec = 0
  case neg =>
    have hI : (ec != 0) = true := by simpa using hec
    have HF : Hid (R = ([], ec)) := by show _ = _; rw [HR.out, hI]; rfl
    clear HR kT hec hz
    go_wp2_with fail
    go_ret2
    exact ⟨by rw [HF.out]; rfl, hbw1⟩
  subst hec
  have HR2 : Hid (R = if 4096 < t.length then ([], 3) else (t, 0)) := HR.out
  clear HR
  go_wp2_with fail
  refine (kT w1 hbw1).mono ?_
  rintro e w2 ⟨rfl, hb2⟩
  have hbw2 := hbw1.trans (hb2.mono hbw1.size)
  clear kT b0 b1 b2 b3 b4
  by_cases h4 : 4096 < t.length
  · have hI : (4096 : Int) < ((B t).size : Int) := by omega
    have HF : Hid (R = ([], 3)) := by show _ = _; rw [HR2.out, if_pos h4]
    clear HR2 h4 hz
    go_wp2_with fail
    go_ret2
    exact ⟨by rw [HF.out]; rfl, hbw2⟩
  · have hI : ¬ (4096 : Int) < ((B t).size : Int) := by omega
    have HF : Hid (R = (t, 0)) := by show _ = _; rw [HR2.out, if_neg h4]
    clear HR2 h4 hz
    go_wp2_with fail
    go_ret2
    exact ⟨by rw [HF.out]; rfl, hbw2⟩
end Go.Proofs.YtmamnmjfbadiiaaGreatDoor
