/- Part 9 of the proof that identitylaw11.IndexCandidates returns true for every data that it may be called with: proof: the package variables hold what the program lays; nothing else is asked. -/
import Derived.Test.YtbkkchhimhlhcaaGreatDoorIcd06
import Derived.Test.YtbkkchhimhlhcaaGreatDoorIcd08
set_option linter.unusedVariables false
set_option linter.unusedSimpArgs false
set_option maxRecDepth 100000
set_option maxHeartbeats 16000000
/- What the walks ask of the library's variables. -/
namespace Go.Proofs.YtbkkchhimhlhcaaGreatDoor
open Go.RowKit
theorem var_keep {P : Program} {w w' : World} {n : String} {cs : Array Value} (h : w.var? P n = some cs) (hb : Below w.heap.size w w') : w'.var? P n = some cs := by
 unfold World.var? at h ⊢
 cases hg : P.globalNamed n with
 | none => rw [hg] at h; cases h
 | some g =>
  rw [hg] at h
  simp only [Option.bind_some] at h ⊢
  cases hh : w.heap[g]? with
  | none => rw [hh] at h; cases h
  | some o => rw [hb.block g (Array.getElem?_eq_some_iff.1 hh).1, hh]; rw [hh] at h; exact h
def Env (w : World) : Prop :=
 (∃ m : Int, w.cell? ⟨0, 0, none⟩ = some (.int .i64 m)) ∧ Lib.TabIs Tryz.prog w "internal/strconv.uint64pow10" .u64 Lib.pow10Tab ∧ ∃ tp p, w.var? Tryz.prog "strconv.ErrRange" = some #[.iface tp p]
def EnvU (w : World) : Prop := Lib.CaseVar 3 Lib.caseA w ∧ Lib.Utf8Tabs 4 5 w
theorem EnvU.keep {w w' : World} (h : EnvU w) (hb : Below w.heap.size w w') : EnvU w' := ⟨Lib.CaseVar_below h.1 hb, Utf8Tabs_below h.2 hb⟩
theorem Env.keep {w w' : World} (h : Env w) (hb : Below w.heap.size w w') : Env w' := by
 obtain ⟨⟨m, h1⟩, h2, tp, p, h3⟩ := h
 exact ⟨⟨m, cell_later hb h1⟩, var_keep h2 hb, tp, p, var_keep h3 hb⟩
theorem gen2g {R : World → Prop} {w : World} {C1 C2 : Array Value} {t1 t2 : TypeId}
  (h : ∀ W, Below w.heap.size w W → W.heap.size = w.heap.size + 2 → (∀ (i : Nat) (v : Value), C1[i]? = some v → W.cell? ⟨w.heap.size, i, none⟩ = some v) → (∀ (i : Nat) (v : Value), C2[i]? = some v → W.cell? ⟨w.heap.size + 1, i, none⟩ = some v) →
   (∀ i, W.frozen? ⟨w.heap.size, i, none⟩ = false) → (∀ i, W.frozen? ⟨w.heap.size + 1, i, none⟩ = false) → R W) : R ((w.alloc (.cells C1 t1)).alloc (.cells C2 t2)) := by
 have e1 : (w.alloc (.cells C1 t1)).heap.size = w.heap.size + 1 := by simp
 have hnew : ((w.alloc (.cells C1 t1)).alloc (.cells C2 t2)).heap[w.heap.size + 1]? = some (.cells C2 t2 (0, 0)) := by
  rw [← e1]; exact heap_alloc_new _ _
 have hold : ((w.alloc (.cells C1 t1)).alloc (.cells C2 t2)).heap[w.heap.size]? = some (.cells C1 t1 (0, 0)) := by
  rw [Below.heap_alloc _ _ _ (by rw [e1]; omega)]; exact heap_alloc_new w _
 refine gen2 (R := fun W => W = ((w.alloc (.cells C1 t1)).alloc (.cells C2 t2)) → R W) (fun W a b c d e => ?_) rfl
 subst e
 exact h _ a b c d (fun i => Lib.frozen_of_heap hold i) (fun i => Lib.frozen_of_heap hnew i)
theorem frozen_later {w w' : World} {b i : Nat} (hb : Below w.heap.size w w') (h : w.frozen? ⟨b, i, none⟩ = false) (hl : b < w.heap.size) : w'.frozen? ⟨b, i, none⟩ = false :=
 (hb.frozen (p := ⟨b, i, none⟩) hl).trans h
end Go.Proofs.YtbkkchhimhlhcaaGreatDoor
/- codec.ReadInt, codec.Int. -/
namespace Go.Proofs.YtbkkchhimhlhcaaGreatDoor
open Go.RowKit
open Idn (L B Bs drop_L take_L size_L)
theorem digit_range (c : UInt8) : Idn.digit c = true ↔ 48 ≤ c.toNat ∧ c.toNat ≤ 57 := by simp [Idn.digit]
theorem noSyntax : ∀ (l : Bs) (acc : Nat), l.all Idn.digit = true → Lib.parseUint10 acc l ≠ .syntax
 | [], acc, _ => by simp [Lib.parseUint10]
 | c :: r, acc, h => by
  rw [List.all_cons, Bool.and_eq_true] at h
  have hc := (digit_range c).1 h.1
  simp only [Lib.parseUint10]
  rw [if_pos hc]
  split
  ·simp
  ·split
   ·simp
   ·exact noSyntax r _ h.2
theorem noSyntax2 (l : Bs) (h0 : l ≠ []) (h : l.all Idn.digit = true) : Lib.parseMag l ≠ .syntax := by
 unfold Lib.parseMag; rw [if_neg h0]; exact noSyntax l 0 h
theorem atoi_no (s : Bs) (h0 : Lib.trimPrefix s [45] ≠ []) (h : (Lib.trimPrefix s [45]).all Idn.digit = true) : Lib.atoiAll s ≠ .syntax := by
 cases s with
 | nil => exact absurd rfl h0
 | cons c r =>
  by_cases hc : c = 45
  ·subst hc
   have e : Lib.trimPrefix (45 :: r) [45] = r := by simp [Lib.trimPrefix, Lib.hasPrefix, List.isPrefixOf]
   rw [e] at h0 h
   have := noSyntax2 r h0 h
   unfold Lib.atoiAll
   simp
   split
   ·rename_i h2; exact absurd h2 this
   ·simp
   ·(repeat' split) <;> simp
  ·have e : Lib.trimPrefix (c :: r) [45] = c :: r := by
     have : (45 == c) = false := by simpa using fun h => hc h.symm
     simp [Lib.trimPrefix, Lib.hasPrefix, List.isPrefixOf, this]
   rw [e] at h0 h
   have hd : Idn.digit c = true := by rw [List.all_cons, Bool.and_eq_true] at h; exact h.1
   have hr := (digit_range c).1 hd
   have := noSyntax2 (c :: r) (by simp) h
   have hn : ¬ (c.toNat = 43 ∨ c.toNat = 45) := by omega
   unfold Lib.atoiAll
   simp only [if_neg hn]
   split
   ·rename_i h2; exact absurd h2 this
   ·simp
   ·(repeat' split) <;> simp
theorem readInt_any (s : ByteArray) (w : World) (hE : Env w) (hs : s.size ≤ 1000000000) :
    Calls Tryz.prog 234 #[.string s] w fun e w' => e = .returned (.tuple #[.int .i64 (Idn.readInt (L s)).1, .int .i64 (Idn.readInt (L s)).2]) ∧ Below w.heap.size w w' := by
 have hTP := fun W => (Tryz.strings_TrimPrefix s ⟨#[45]⟩ W).mono fun e w' ⟨h1, h2⟩ => (⟨h1, h2.symm⟩ : _ ∧ W = w')
 have e45 : (⟨#[45]⟩ : ByteArray).data.toList = [45] := rfl
 rw [e45, data_L] at hTP
 have hns := atoi_no (L s)
 generalize hrr : Idn.readInt (L s) = r
 have HR := Lib.hid hrr
 clear hrr e45
 have hd : L (⟨(Lib.trimPrefix (L s) [45]).toArray⟩ : ByteArray) = Lib.trimPrefix (L s) [45] := rfl
 have hdl : (Lib.trimPrefix (L s) [45]).length ≤ (L s).length := by
  unfold Lib.trimPrefix; split <;> simp
 have hd48 : L s = [48] → Lib.trimPrefix (L s) [45] = [48] := fun h => by rw [h]; decide
 generalize (⟨(Lib.trimPrefix (L s) [45]).toArray⟩ : ByteArray) = d at *
 rw [← hd] at hns hdl hd48
 have HD := Lib.hid hd
 clear hd
 have hcase : (L s = [48]) ∨ (L s ≠ [48] ∧ (L d).isEmpty = true) ∨ (L s ≠ [48] ∧ ∃ h : 0 < d.size, d[0] = 48) ∨ (L s ≠ [48] ∧ ∃ h : 0 < d.size, d[0] ≠ 48) := by
  by_cases h1 : L s = [48]
  ·exact .inl h1
  ·by_cases h2 : (L d).isEmpty = true
   ·exact .inr (.inl ⟨h1, h2⟩)
   ·have h3 : 0 < d.size := by
      rcases Nat.eq_zero_or_pos d.size with h | h
      ·exact absurd (empty_true d (by omega)) h2
      ·exact h
    by_cases h4 : d[0] = 48
    ·exact .inr (.inr (.inl ⟨h1, h3, h4⟩))
    ·exact .inr (.inr (.inr ⟨h1, h3, h4⟩))
 have stops : ∀ (hA : Idn.readInt (L s) = (0, 4)), r = (0, 4) := fun hA => by rw [← HR.out, hA]
 rcases hcase with h1 | ⟨h1, h2⟩ | ⟨h1, h3, h4⟩ | ⟨h1, h3, h4⟩
 case inr.inl =>
  have HF : Hid (r = (0, 4)) := stops (by unfold Idn.readInt; rw [← HD.out, decide_eq_true h1, h2]; rfl)
  have e1 : (s.toList == [48]) = false := by rw [toList_L]; simpa using h1
  have e2 : d.toList.isEmpty = true := by rw [toList_L]; exact h2
  clear h1 h2 stops hns hd48 hdl
  go_enter Tryz.func234, Tryz.ntmps234
  go_wp2_with (go_at_call 291; refine (hTP _).mono ?_; rintro e w1 ⟨rfl, rfl⟩)
  go_ret2
  exact ⟨by rw [HF.out]; rfl, Below.refl _ _⟩
 case inr.inr.inl =>
  have HF : Hid (r = (0, 4)) := stops (by
   unfold Idn.readInt
   rw [← HD.out, decide_eq_true h1, head_L d h3, h4]
   simp)
  have e1 : (s.toList == [48]) = false := by rw [toList_L]; simpa using h1
  have e2 : d.toList.isEmpty = false := by rw [toList_L]; exact empty_false d h3
  have e3 : ((d[0].toNat : Int) == 48) = true := by rw [h4]; rfl
  clear h1 h4 stops hns hd48 hdl
  go_enter Tryz.func234, Tryz.ntmps234
  go_wp2_with (go_at_call 291; refine (hTP _).mono ?_; rintro e w1 ⟨rfl, rfl⟩)
  go_ret2
  exact ⟨by rw [HF.out]; rfl, Below.refl _ _⟩
 case inl =>
  have hdd := hd48 h1
  have h3 : 0 < d.size := by have := size_L d; rw [hdd] at this; simp at this; omega
  have e1 : (s.toList == [48]) = true := by rw [toList_L, h1]; rfl
  have HF : Hid (r = Idn.tailR (L d) (L s)) := by
   show _ = _
   rw [← HR.out]
   unfold Idn.readInt
   rw [← HD.out, h1]
   rfl
  clear h1 hd48 hdd stops HR
  go_enter Tryz.func234, Tryz.ntmps234
  go_wp2_with (go_at_call 291; refine (hTP _).mono ?_; rintro e w1 ⟨rfl, rfl⟩)
  go_loopw [6] (fun _ wr => ∃ k : Nat, k ≤ d.size ∧ wr.heap[w.heap.size]? = some (.stringIter d k) ∧ Below w.heap.size w wr ∧ Hid ((L d).all Idn.digit = ((L d).drop k).all Idn.digit)) (fun _ wr => d.size - wr.iterPos w.heap.size)
  case atStart => exact ⟨0, Nat.zero_le _, by simpa using World.iter_heap w d 0, (Below.refl _ w).alloc (Nat.le_refl _) _, rfl⟩
  case round =>
   obtain ⟨k, hk, hit, hb, hinv⟩ := hrel
   by_cases hlt : k < d.size
   ·have hnx : ∀ ty, (Instr.next (.pointer (some ⟨w.heap.size, 0, none⟩)) true ty).run Tryz.prog wr = _ := fun ty => Lib.run_next_any_at wr w.heap.size d k ty hit hlt
    have hb2 := Lib.below_iterAt hb (k := w.heap.size) (Nat.le_refl _) d (k + (Utf8.decode d k).2)
    by_cases hp : Idn.digit d[k] = true
    ·have hp2 := (digit_range _).1 hp
     have ha : (d[k]).toNat < 128 := by omega
     have h1 : (48 : Int) ≤ (d[k].toNat : Int) := by omega
     have h2 : (d[k].toNat : Int) ≤ 57 := by omega
     rw [decode_ascii d k hlt ha] at hnx hb2
     have hit2 := Lib.iterAt_heap wr w.heap.size d k (k + 1) hit
     have hdr := drop_L d k hlt
     have HG : Hid ((L d).all Idn.digit = ((L d).drop (k+1)).all Idn.digit) := by show _ = _; rw [hinv.out, hdr]; simp [hp]
     clear hdr hp hp2
     go_wp2
     go_roundw
     case rel => exact ⟨k + 1, by omega, hit2, hb2, HG⟩
     case measure => simp only [World.iterPos, hit2, hit]; omega
    ·have hdr := drop_L d k hlt
     have HG : Hid (r = (0, 4)) := by
      show _ = _
      rw [HF.out, Idn.tailR, hinv.out, hdr, List.all_cons, Bool.eq_false_iff.2 hp]; rfl
     have hc : (Utf8.decode d k).1 < 48 ∨ 57 < (Utf8.decode d k).1 := by
      by_cases ha : (d[k]).toNat < 128
      ·rw [decode_ascii d k hlt ha]
       have hq : ¬ (48 ≤ d[k].toNat ∧ d[k].toNat ≤ 57) := fun h => hp ((digit_range _).2 h)
       show d[k].toNat < 48 ∨ 57 < d[k].toNat
       omega
      ·have := (decode_high d k hlt (by omega)).1; omega
     clear hdr hp
     rcases hc with hc | hc
     all_goals
      go_wp2
      go_ret2
      exact ⟨by rw [HG.out]; rfl, hb2⟩
   ·have hnx : ∀ ty, (Instr.next (.pointer (some ⟨w.heap.size, 0, none⟩)) true ty).run Tryz.prog wr = _ := fun ty => Lib.run_next_end_at wr w.heap.size d k ty hit hlt
    have hall : (L d).all Idn.digit = true := by rw [hinv.out, List.drop_eq_nil_of_le (by have := size_L d; omega)]; rfl
    have hnn := hns (by intro e; have := size_L d; rw [e, List.length_nil] at this; omega) hall
    obtain ⟨_, _, tp, pv, hvar⟩ := hE.keep hb
    cases hat : Lib.atoiAll (L s) with
    | ok n =>
     have HG : Hid (r = (n, 0)) := by show _ = _; rw [HF.out, Idn.tailR, hall, hat]; rfl
     have hAt := Tryz.strconv_Atoi_ok s (by omega) n hat wr
     clear hat hall hinv HF
     go_wp2_with (go_at_call 292; refine hAt.mono ?_; rintro e w2 ⟨rfl, hw2⟩)
     have hb2 : Below wr.heap.size wr w2 := by
      rcases hw2 with rfl | ⟨t, rfl⟩
      ·exact Below.refl _ _
      ·exact Lib.bytesWorld_below _ _ _
     clear hw2
     go_wp2
     go_ret2
     exact ⟨by rw [HG.out]; rfl, hb.trans (hb2.mono hb.size)⟩
    | range =>
     have HG : Hid (r = (0, 27)) := by show _ = _; rw [HF.out, Idn.tailR, hall, hat]; rfl
     have hAt := Tryz.strconv_Atoi_range_var s (by omega) hat tp pv wr hvar
     clear hat hall hinv HF
     go_wp2_with (go_at_call 292; refine hAt.mono ?_; rintro e w2 ⟨N, rfl, _, _, hb2⟩)
     go_ret2
     exact ⟨by rw [HG.out]; rfl, hb.trans (hb2.mono hb.size)⟩
    | _ => exact absurd hat hnn
 case inr.inr.inr =>
  have HF : Hid (r = Idn.tailR (L d) (L s)) := by
   show _ = _
   rw [← HR.out]
   unfold Idn.readInt
   rw [← HD.out, decide_eq_true h1, empty_false d h3, head_L d h3]
   have : (d[0] == 48) = false := by simpa using h4
   rw [this]; rfl
  have e1 : (s.toList == [48]) = false := by rw [toList_L]; simpa using h1
  have e2 : d.toList.isEmpty = false := by rw [toList_L]; exact empty_false d h3
  have e3 : ((d[0].toNat : Int) == 48) = false := by
   rw [beq_eq_false_iff_ne]; intro e
   exact h4 (UInt8.toNat_inj.1 (by simpa using (by omega : d[0].toNat = 48)))
  clear h1 h4 hd48 stops HR
  go_enter Tryz.func234, Tryz.ntmps234
  go_wp2_with (go_at_call 291; refine (hTP _).mono ?_; rintro e w1 ⟨rfl, rfl⟩)
  go_loopw [6] (fun _ wr => ∃ k : Nat, k ≤ d.size ∧ wr.heap[w.heap.size]? = some (.stringIter d k) ∧ Below w.heap.size w wr ∧ Hid ((L d).all Idn.digit = ((L d).drop k).all Idn.digit)) (fun _ wr => d.size - wr.iterPos w.heap.size)
  case atStart => exact ⟨0, Nat.zero_le _, by simpa using World.iter_heap w d 0, (Below.refl _ w).alloc (Nat.le_refl _) _, rfl⟩
  case round =>
   obtain ⟨k, hk, hit, hb, hinv⟩ := hrel
   by_cases hlt : k < d.size
   ·have hnx : ∀ ty, (Instr.next (.pointer (some ⟨w.heap.size, 0, none⟩)) true ty).run Tryz.prog wr = _ := fun ty => Lib.run_next_any_at wr w.heap.size d k ty hit hlt
    have hb2 := Lib.below_iterAt hb (k := w.heap.size) (Nat.le_refl _) d (k + (Utf8.decode d k).2)
    by_cases hp : Idn.digit d[k] = true
    ·have hp2 := (digit_range _).1 hp
     have ha : (d[k]).toNat < 128 := by omega
     have h1 : (48 : Int) ≤ (d[k].toNat : Int) := by omega
     have h2 : (d[k].toNat : Int) ≤ 57 := by omega
     rw [decode_ascii d k hlt ha] at hnx hb2
     have hit2 := Lib.iterAt_heap wr w.heap.size d k (k + 1) hit
     have hdr := drop_L d k hlt
     have HG : Hid ((L d).all Idn.digit = ((L d).drop (k+1)).all Idn.digit) := by show _ = _; rw [hinv.out, hdr]; simp [hp]
     clear hdr hp hp2
     go_wp2
     go_roundw
     case rel => exact ⟨k + 1, by omega, hit2, hb2, HG⟩
     case measure => simp only [World.iterPos, hit2, hit]; omega
    ·have hdr := drop_L d k hlt
     have HG : Hid (r = (0, 4)) := by
      show _ = _
      rw [HF.out, Idn.tailR, hinv.out, hdr, List.all_cons, Bool.eq_false_iff.2 hp]; rfl
     have hc : (Utf8.decode d k).1 < 48 ∨ 57 < (Utf8.decode d k).1 := by
      by_cases ha : (d[k]).toNat < 128
      ·rw [decode_ascii d k hlt ha]
       have hq : ¬ (48 ≤ d[k].toNat ∧ d[k].toNat ≤ 57) := fun h => hp ((digit_range _).2 h)
       show d[k].toNat < 48 ∨ 57 < d[k].toNat
       omega
      ·have := (decode_high d k hlt (by omega)).1; omega
     clear hdr hp
     rcases hc with hc | hc
     all_goals
      go_wp2
      go_ret2
      exact ⟨by rw [HG.out]; rfl, hb2⟩
   ·have hnx : ∀ ty, (Instr.next (.pointer (some ⟨w.heap.size, 0, none⟩)) true ty).run Tryz.prog wr = _ := fun ty => Lib.run_next_end_at wr w.heap.size d k ty hit hlt
    have hall : (L d).all Idn.digit = true := by rw [hinv.out, List.drop_eq_nil_of_le (by have := size_L d; omega)]; rfl
    have hnn := hns (by intro e; have := size_L d; rw [e, List.length_nil] at this; omega) hall
    obtain ⟨_, _, tp, pv, hvar⟩ := hE.keep hb
    cases hat : Lib.atoiAll (L s) with
    | ok n =>
     have HG : Hid (r = (n, 0)) := by show _ = _; rw [HF.out, Idn.tailR, hall, hat]; rfl
     have hAt := Tryz.strconv_Atoi_ok s (by omega) n hat wr
     clear hat hall hinv HF
     go_wp2_with (go_at_call 292; refine hAt.mono ?_; rintro e w2 ⟨rfl, hw2⟩)
     have hb2 : Below wr.heap.size wr w2 := by
      rcases hw2 with rfl | ⟨t, rfl⟩
      ·exact Below.refl _ _
      ·exact Lib.bytesWorld_below _ _ _
     clear hw2
     go_wp2
     go_ret2
     exact ⟨by rw [HG.out]; rfl, hb.trans (hb2.mono hb.size)⟩
    | range =>
     have HG : Hid (r = (0, 27)) := by show _ = _; rw [HF.out, Idn.tailR, hall, hat]; rfl
     have hAt := Tryz.strconv_Atoi_range_var s (by omega) hat tp pv wr hvar
     clear hat hall hinv HF
     go_wp2_with (go_at_call 292; refine hAt.mono ?_; rintro e w2 ⟨N, rfl, _, _, hb2⟩)
     go_ret2
     exact ⟨by rw [HG.out]; rfl, hb.trans (hb2.mono hb.size)⟩
    | _ => exact absurd hat hnn
end Go.Proofs.YtbkkchhimhlhcaaGreatDoor
