/- Part 30 of the proof that EntryDiffs: the package variables hold what the program lays; nothing else is asked. -/
import Derived.Test.YtoopoglkeeoamaaGreatDoorEdf05
import Derived.Test.YtoopoglkeeoamaaGreatDoorEdf08
import Derived.Test.YtoopoglkeeoamaaGreatDoorEdf09
import Derived.Test.YtoopoglkeeoamaaGreatDoorEdf13
import Derived.Test.YtoopoglkeeoamaaGreatDoorEdf28
import Derived.Test.YtoopoglkeeoamaaGreatDoorEdf29
set_option linter.unusedVariables false
set_option linter.unusedSimpArgs false
/- attrs: Check. -/
namespace Go.Proofs.YtoopoglkeeoamaaGreatDoor
open Go.RowKit Go.Sort
open Idn (L B Bs drop_L take_L size_L)

theorem ixA_none {l : List Idn.Att} {n : Bs} (h : ∀ (i : Nat) (hi : i < l.length), Idn.lower l[i].name ≠ Idn.lower n) : Idn.ixA l n = none := by
  unfold Idn.ixA
  rw [List.findIdx?_eq_none_iff]
  intro x hx
  obtain ⟨i, hi, rfl⟩ := List.getElem_of_mem hx
  exact decide_eq_false (h i hi)
theorem ixA_some {l : List Idn.Att} {n : Bs} (i : Nat) (hi : i < l.length) (h : Idn.lower l[i].name = Idn.lower n) : (Idn.ixA l n).isSome = true := by
  unfold Idn.ixA
  rw [List.findIdx?_isSome, List.any_eq_true]
  exact ⟨l[i], List.getElem_mem hi, decide_eq_true h⟩
def TwoAt (X : World) (p : Nat) (a b : Value) : Prop := (X.cell? ⟨p, 0, none⟩ = some a ∧ X.cell? ⟨p, 1, none⟩ = some b) ∧ p < X.heap.size
theorem twoA (W : World) (a b : Value) (t : TypeId) : TwoAt (W.alloc (.cells #[a, b] t)) W.heap.size a b := by
  have e := heap_alloc_new W (.cells #[a, b] t)
  refine ⟨⟨?_, ?_⟩, by simp⟩
  · rw [cell_of_row _ W.heap.size 0 _ _ (0, 0) e]; rfl
  · rw [cell_of_row _ W.heap.size 1 _ _ (0, 0) e]; rfl
theorem TwoAt.keep {X Y : World} {p : Nat} {a b : Value} (h : TwoAt X p a b) (hb : Below X.heap.size X Y) : TwoAt Y p a b :=
  ⟨⟨cell_later hb h.1.1, cell_later hb h.1.2⟩, Nat.lt_of_lt_of_le h.2 hb.size⟩

set_option maxHeartbeats 2000000 in
set_option maxRecDepth 100000 in
theorem attsCheck_any (v : Value) (l : List Idn.Att) (w : World) (hv : AttsV w w.heap.size v l) (hs : ASm l) :
    Calls Tryz.prog 41 #[v] w fun e w' => e = .returned (.int .i64 (Idn.aCheck l)) ∧ Below w.heap.size w w' := by
  obtain ⟨A, c, rfl, hc⟩ := SlV.shape hv
  generalize hrr : Idn.aCheck l = r
  have HR0 : Hid (r = if 32 < l.length then 3 else Idn.attsErr [] l) := hrr.symm
  clear hrr
  have hl9 := hs.1
  by_cases h32 : 32 < l.length
  · have HF : Hid (r = 3) := by show _ = _; rw [HR0.out, if_pos h32]
    have h' : (32 : Int) < (l.length : Int) := by omega
    clear h32 HR0
    go_enter Tryz.func41, Tryz.ntmps41
    go_wp2
    go_ret
    exact ⟨ret_int (by rw [HF.out]), Below.refl _ _⟩
  have HR : Hid (r = Idn.attsErr [] l) := by show _ = _; rw [HR0.out, if_neg h32]
  have h' : (l.length : Int) ≤ (32 : Int) := by omega
  clear HR0
  go_enter Tryz.func41, Tryz.ntmps41
  go_wp2
  clear h'
  go_loopw [3, 13] (fun _ i wr => ∃ k : Nat, k ≤ l.length ∧ i = .int .i64 k ∧ Below w.heap.size w wr ∧ Hid (r = Idn.attsErr (l.take k) (l.drop k))) (fun _ i _ => l.length - (intOf i).toNat)
  case atStart => exact ⟨0, Nat.zero_le _, rfl, Below.refl _ _, by show _ = _; rw [HR.out]; simp⟩
  case round =>
    obtain ⟨k, hk, rfl, hb, hinv⟩ := hrel
    clear HR
    obtain ⟨wo, hwo⟩ : ∃ wo : World, wo = wr := ⟨_, rfl⟩
    subst hwo
    by_cases hlt : k < l.length
    · obtain ⟨b, off, va, rfl, hbl, c0, c1, hva⟩ := AttsV.cell (AttsV.keep hv hb) hlt
      obtain ⟨Av, cv, rfl, hcv⟩ := SlV.shape hva
      have hltI : (k : Int) < (l.length : Int) := by omega
      have hkc : (k : Int) ≤ (c : Int) := by omega
      have hk0 : (0 : Int) ≤ (k : Int) := by omega
      obtain ⟨s1, s2⟩ := Idn.atts_step l k hlt _ hinv.out
      obtain ⟨hn9, hsv⟩ := hs.2 l[k] (List.getElem_mem hlt)
      have hN := fun W => name_any (B l[k].name) W (by rw [Idn.size_B]; omega)
      rw [Idn.L_B] at hN
      have ba := (Below.refl wo.heap.size wo).alloc (Nat.le_refl _) (.cells #[.string (B l[k].name), .slice Av l[k].vals.length cv] 48)
      have hTw := twoA wo (.string (B l[k].name)) (.slice Av l[k].vals.length cv) 48
      have hbA := hb.trans (ba.mono hb.size)
      clear hinv
      cases h1 : Idn.name l[k].name
      · have he : Idn.attErr (l.take k) l[k] = 5 := by unfold Idn.attErr; rw [h1]; rfl
        have HF : Hid (r = 5) := by show _ = _; rw [s1 (by rw [he]; decide), he]
        rw [h1] at hN
        clear s1 s2 h1 he
        go_wp2_with (go_at_call 86; refine (hN _).mono ?_; rintro e w2 ⟨rfl, rfl⟩)
        go_ret
        exact ⟨ret_int (by rw [HF.out]), hbA⟩
      rw [h1] at hN
      have hAt : Idn.attErr (l.take k) l[k] = if (Idn.ixA (l.take k) l[k].name).isSome then 7 else if l[k].vals.length = 0 then 6 else if 16 < l[k].vals.length then 3 else Idn.valsErr [] l[k].vals := by
        unfold Idn.attErr; rw [h1]; rfl
      have HA := Lib.hid hAt
      have S1 : Hid (Idn.attErr (l.take k) l[k] ≠ 0 → r = Idn.attErr (l.take k) l[k]) := s1
      have S2 : Hid (Idn.attErr (l.take k) l[k] = 0 → r = Idn.attsErr (l.take (k + 1)) (l.drop (k + 1))) := s2
      have hVs := fun W (hW : Below wo.heap.size wo W) => values_any _ l[k].vals W (SlV.mono (SlV.keep hva (hW.mono hb.size)) (Nat.le_trans hb.size hW.size)) hsv
      clear s1 s2 h1 hAt
      go_wp2_with (go_at_call 86; refine (hN _).mono ?_; rintro e w2 ⟨rfl, rfl⟩)
      with_reducible refine gen1 (R := fun W => Code.wp Tryz.prog _ _ _ W) ?_
      intro W1 hbW1 hszW1 hc1 _
      have d0 : W1.cell? ⟨wo.heap.size, 0, none⟩ = some (.string (B l[k].name)) := hc1 0 _ rfl
      have d1 : W1.cell? ⟨wo.heap.size, 1, none⟩ = some (.slice Av l[k].vals.length cv) := hc1 1 _ rfl
      have hbw1 := hb.trans (hbW1.mono hb.size)
      have hlp : wo.heap.size < W1.heap.size := by omega
      clear hc1 hTw hbA ba hN c0 c1 hszW1
      go_loopw [26] (fun i wr => ∃ j : Nat, j ≤ k ∧ i = .int .i64 j ∧ Below W1.heap.size W1 wr ∧ Hid (∀ (i : Nat) (h : i < l.length), i < j → Idn.lower l[i].name ≠ Idn.lower l[k].name)) (fun i _ => k - (intOf i).toNat)
      case atStart => exact ⟨0, Nat.zero_le _, rfl, Below.refl _ _, by intro i h hi; omega⟩
      case round =>
        obtain ⟨j, hj, rfl, hb2, hne⟩ := hrel
        have hbw2 := hbw1.trans (hb2.mono hbw1.size)
        have D0 := cell_later hb2 d0
        have D1 := cell_later hb2 d1
        by_cases hjk : j < k
        · have hjl : j < l.length := by omega
          have hjI : (j : Int) < (k : Int) := by omega
          obtain ⟨b', off', va', hbo, hbl', c0', c1', hva'⟩ := AttsV.cell (AttsV.keep hv hbw2) hjl
          injection hbo with hbo
          injection hbo with hb1e hb2e
          subst hb1e hb2e
          obtain ⟨Av', cv', rfl, hcv'⟩ := SlV.shape hva'
          have hn9' := (hs.2 l[j] (List.getElem_mem hjl)).1
          have hL1 := fun W => lower_any (B l[k].name) W (by rw [Idn.size_B]; omega)
          have hL2 := fun W => lower_any (B l[j].name) W (by rw [Idn.size_B]; omega)
          rw [Idn.L_B] at hL1 hL2
          have hsame : (((B (Idn.lower l[k].name)).toList == (B (Idn.lower l[j].name)).toList)) = decide (Idn.lower l[j].name = Idn.lower l[k].name) := by
            rw [str_beq]; exact decide_eq_decide.2 ⟨fun h => h.symm, fun h => h.symm⟩
          have HX : Hid (Idn.lower l[j].name = Idn.lower l[k].name → r = 7) := fun h => by
            have hi : (Idn.ixA (l.take k) l[k].name).isSome = true := ixA_some (l := l.take k) j (by rw [List.length_take]; omega) (by simpa using h)
            have e7 : Idn.attErr (l.take k) l[k] = 7 := by rw [HA.out, if_pos hi]
            rw [S1.out (by rw [e7]; decide), e7]
          generalize Idn.lower l[k].name = nk at *
          generalize hnj : Idn.lower l[j].name = nj at *
          have Hnj := Lib.hid hnj
          clear hnj
          go_wp2
          with_reducible refine gen1 (R := fun W => Code.wp Tryz.prog _ _ _ W) ?_
          intro W3 hbW3 hszW3 hc3 _
          have x0 : W3.cell? ⟨wr.heap.size, 0, none⟩ = some (.string (B l[j].name)) := hc3 0 _ rfl
          have y0 := cell_later hbW3 D0
          clear hc3
          have k0 := cell_regrown x0
          have k1 := cell_regrown y0
          have q1 := cq (W := W3) fun W' _ => hL1 W'
          have q2 := cq (W := W3) fun W' _ => hL2 W'
          by_cases he : nj = nk
          · have HF : Hid (r = 7) := HX.out he
            have ht : (((B nk).toList == (B nj).toList)) = true := by rw [hsame]; exact decide_eq_true he
            clear hsame he
            refine wp_region_quiet_below (by kernel_rfl) (by kernel_rfl) ?_
            repeat (first | go_big_quiet_step ((go_at_call 49; first | with_reducible exact q1 _ _ | with_reducible exact q2 _ _)) | quiet_step ((go_at_call 49; first | with_reducible exact q1 _ _ | with_reducible exact q2 _ _)))
            refine wpQuiet_nil ?_
            intro _ hw'
            obtain ⟨⟨dq, osq⟩, hw''⟩ := hw'
            subst hw''
            have hb4 := below_regrown W3 dq osq
            generalize grow (redrawn W3 dq) osq = W4 at hb4 ⊢
            go_wp2
            go_ret
            exact ⟨ret_int (by rw [HF.out]), hbw2.trans ((hbW3.trans (hb4.mono hbW3.size)).mono hbw2.size)⟩
          · have ht : (((B nk).toList == (B nj).toList)) = false := by rw [hsame]; exact decide_eq_false he
            have HN : Hid (∀ (i : Nat) (h : i < l.length), i < j + 1 → Idn.lower l[i].name ≠ nk) := fun i h hi => by
              by_cases hij : i = j
              · subst hij; rw [Hnj.out]; exact he
              · exact hne.out i h (by omega)
            clear hsame he
            refine wp_region_quiet_below (by kernel_rfl) (by kernel_rfl) ?_
            repeat (first | go_big_quiet_step ((go_at_call 49; first | with_reducible exact q1 _ _ | with_reducible exact q2 _ _)) | quiet_step ((go_at_call 49; first | with_reducible exact q1 _ _ | with_reducible exact q2 _ _)))
            refine wpQuiet_nil ?_
            intro _ hw'
            obtain ⟨⟨dq, osq⟩, hw''⟩ := hw'
            subst hw''
            have hb4 := below_regrown W3 dq osq
            generalize grow (redrawn W3 dq) osq = W4 at hb4 ⊢
            go_wp2
            go_roundw
            case rel => exact ⟨j + 1, by omega, by go_num, hb2.trans ((hbW3.trans (hb4.mono hbW3.size)).mono hb2.size), HN⟩
            case measure => simp [intOf]; omega
        · have hjkI : ¬ (j : Int) < (k : Int) := by omega
          have hno : Idn.ixA (l.take k) l[k].name = none := ixA_none fun i hi => by
            rw [List.length_take] at hi
            rw [List.getElem_take]
            exact hne.out i (by omega) (by omega)
          have HB : Hid (Idn.attErr (l.take k) l[k] = if l[k].vals.length = 0 then 6 else if 16 < l[k].vals.length then 3 else Idn.valsErr [] l[k].vals) := by
            show _ = _; rw [HA.out, hno]; rfl
          clear hno hne HA
          by_cases n0 : l[k].vals.length = 0
          · have he : Idn.attErr (l.take k) l[k] = 6 := by rw [HB.out, if_pos n0]
            have HF : Hid (r = 6) := by show _ = _; rw [S1.out (by rw [he]; decide), he]
            have e0 : ((l[k].vals.length : Int) == 0) = true := by rw [n0]; rfl
            clear he n0
            go_wp2
            go_ret
            exact ⟨ret_int (by rw [HF.out]), hbw2⟩
          have e0 : ((l[k].vals.length : Int) == 0) = false := by rw [beq_eq_false_iff_ne]; omega
          by_cases n1 : 16 < l[k].vals.length
          · have he : Idn.attErr (l.take k) l[k] = 3 := by rw [HB.out, if_neg n0, if_pos n1]
            have HF : Hid (r = 3) := by show _ = _; rw [S1.out (by rw [he]; decide), he]
            have e1 : (16 : Int) < (l[k].vals.length : Int) := by omega
            clear he n0 n1
            go_wp2
            go_ret
            exact ⟨ret_int (by rw [HF.out]), hbw2⟩
          have e1 : (l[k].vals.length : Int) ≤ (16 : Int) := by omega
          have he : Idn.attErr (l.take k) l[k] = Idn.valsErr [] l[k].vals := by rw [HB.out, if_neg n0, if_neg n1]
          have hV := hVs wr (hbW1.trans (hb2.mono hbW1.size))
          rw [← he] at hV
          clear hVs n0 n1 he HB
          by_cases hz : Idn.attErr (l.take k) l[k] = 0
          · have HF : Hid (r = Idn.attsErr (l.take (k + 1)) (l.drop (k + 1))) := S2.out hz
            rw [hz] at hV
            clear hz S1 S2
            go_wp2_with (go_at_call 87; refine hV.mono ?_; rintro e w5 ⟨rfl, hb5⟩)
            go_roundw
            case rel => exact ⟨k + 1, by omega, by go_num, hbw2.trans (hb5.mono hbw2.size), HF⟩
            case measure => simp [intOf]; omega
          · have HF : Hid (r = Idn.attErr (l.take k) l[k]) := S1.out hz
            generalize Idn.attErr (l.take k) l[k] = ae at *
            have z1 : (ae == 0) = false := by simpa using hz
            have z2 : (ae != 0) = true := by simpa using hz
            clear hz
            go_wp2_with (go_at_call 87; refine hV.mono ?_; rintro e w5 ⟨rfl, hb5⟩)
            go_ret
            exact ⟨ret_int (by rw [HF.out]), hbw2.trans (hb5.mono hbw2.size)⟩
    · have HF : Hid (r = 0) := by show _ = _; rw [hinv.out, List.drop_eq_nil_of_le (by omega)]; rfl
      have hltI : ¬ (k : Int) < (l.length : Int) := by omega
      clear hinv
      go_wp2
      go_ret
      exact ⟨ret_int (by rw [HF.out]), hb⟩
end Go.Proofs.YtoopoglkeeoamaaGreatDoor
/- attrs: find's and Sorted's closures, slices.IndexFunc at attributes. -/
namespace Go.Proofs.YtoopoglkeeoamaaGreatDoor
open Go.RowKit Go.Sort
open Idn (L B Bs drop_L take_L size_L)

/-- a predicate on attributes (a name, a number of values) that lays blocks -/
def PredA (g : Nat) (lb : Array Value) (p : Bs × Nat → Bool) (l : List (Bs × Nat)) (w : World) : Prop :=
  ∀ (W : World) (x : Bs × Nat) (A : Option Addr) (c : Nat), x ∈ l → Below w.heap.size w W → Calls Tryz.prog g (#[.agg #[.string (B x.1), .slice A x.2 c]] ++ lb) W fun e w' => e = .returned (.bool (p x)) ∧ Below W.heap.size W w'
/-- a slice of attributes of which only the names and the numbers of values matter -/
def EN (x : Bs × Nat) (cs : List Value) : Prop := ∃ A c, cs = [sv x.1, .slice A x.2 c]
abbrev NamesV (w : World) (hi : Nat) (v : Value) (l : List (Bs × Nat)) : Prop := SlV EN w hi 2 v l
theorem NamesV.cell {w : World} {hi : Nat} {A : Option Addr} {n c : Nat} {l : List (Bs × Nat)} (h : NamesV w hi (.slice A n c) l) {k : Nat} (hk : k < l.length) :
    ∃ b off A' c', A = some ⟨b, off, none⟩ ∧ b < hi ∧ w.cell? ⟨b, off + k * 2, none⟩ = some (.string (B l[k].1)) ∧ w.cell? ⟨b, off + k * 2 + 1, none⟩ = some (.slice A' l[k].2 c') := by
  obtain ⟨b, off, hA, hb, cs, h1, ⟨A', c', h2⟩, h3⟩ := h.at_ hk
  subst h2
  exact ⟨b, off, A', c', hA, hb, by simpa [sv] using h3 0 _ rfl, by simpa [Nat.add_assoc] using h3 1 _ rfl⟩
def idxP {α : Type} (p : α → Bool) (l : List α) : Int := match l.findIdx? p with | none => -1 | some k => k
theorem idxP_none {α : Type} {p : α → Bool} {l : List α} (h : l.findIdx? p = none) : idxP p l = -1 := by rw [idxP, h]
theorem idxP_some {α : Type} {p : α → Bool} {l : List α} {k : Nat} (h : l.findIdx? p = some k) : idxP p l = k := by rw [idxP, h]
theorem idxP_drop {α : Type} (p : α → Bool) (l : List α) (k : Nat) (hk : k < l.length) (h : l.findIdx? p = ((l.drop k).findIdx? p).map (· + k)) :
    (p l[k] = true → l.findIdx? p = some k) ∧ (p l[k] = false → l.findIdx? p = ((l.drop (k + 1)).findIdx? p).map (· + (k + 1))) := by
  rw [List.drop_eq_getElem_cons hk, List.findIdx?_cons] at h
  constructor
  · intro hp; rw [hp] at h; simpa using h
  · intro hp; rw [hp] at h; rw [h]; simp [Function.comp_def, Nat.add_assoc, Nat.add_comm 1 k]
set_option maxHeartbeats 400000 in
set_option maxRecDepth 100000 in
theorem idxA_any (g : Nat) (lb : Array Value) (eg : FnB g) (p : Bs × Nat → Bool) (v : Value) (l : List (Bs × Nat)) (w : World) (hv : NamesV w w.heap.size v l) (hl : l.length ≤ 1000000000) (hp : PredA g lb p l w) :
    Calls Tryz.prog 80 #[v, .func (.func g) #[] lb] w fun e w' => e = .returned (.int .i64 (idxP p l)) ∧ Below w.heap.size w w' := by
  obtain ⟨A, ca, rfl, hca⟩ := SlV.shape hv
  unfold FnB at eg
  generalize hr : idxP p l = r
  have hR := Lib.hid hr
  clear hr
  go_enter Tryz.func80, Tryz.ntmps80
  go_wp2
  go_loopw [5, 8] (fun _ i wr => ∃ k : Nat, k ≤ l.length ∧ i = .int .i64 k ∧ Below w.heap.size w wr ∧ Hid (l.findIdx? p = ((l.drop k).findIdx? p).map (· + k))) (fun _ i _ => l.length - (intOf i).toNat)
  case atStart => exact ⟨0, Nat.zero_le _, rfl, Below.refl _ _, by show _ = _; simp⟩
  case round =>
    obtain ⟨k, hk, rfl, hb, hinv⟩ := hrel
    by_cases hlt : k < l.length
    · obtain ⟨b, off, A', c', rfl, hbl, c0, c1⟩ := NamesV.cell (SlV.keep hv hb) hlt
      have hcall := hp wr l[k] A' c' (List.getElem_mem hlt) hb
      have hltI : (k : Int) < (l.length : Int) := by omega
      have hfd := idxP_drop p l k hlt hinv.out
      clear hp hinv
      cases hq : p l[k]
      · have HF : Hid (l.findIdx? p = ((l.drop (k + 1)).findIdx? p).map (· + (k + 1))) := hfd.2 hq
        rw [hq] at hcall
        clear hfd hq
        go_wp2_with (refine hcall.mono ?_; rintro e w' ⟨rfl, hb'⟩)
        go_roundw
        case rel => exact ⟨k + 1, by omega, by go_num, hb.trans (hb'.mono hb.size), HF⟩
        case measure => simp [intOf]; omega
      · have HF : Hid (r = k) := by show _ = _; rw [← hR.out, idxP_some (hfd.1 hq)]
        rw [hq] at hcall
        clear hfd hq
        go_wp2_with (refine hcall.mono ?_; rintro e w' ⟨rfl, hb'⟩)
        go_ret
        exact ⟨ret_int (by rw [HF.out]), hb.trans (hb'.mono hb.size)⟩
    · have HF : Hid (r = -1) := by show _ = _; rw [← hR.out, idxP_none]; rw [hinv.out, List.drop_eq_nil_of_le (by omega)]; rfl
      have hltI : ¬ (k : Int) < (l.length : Int) := by omega
      go_wp2
      go_ret
      exact ⟨ret_int (by rw [HF.out]), hb⟩
def CLOS (f : Nat) : Prop := ∀ (x : Bs) (A : Option Addr) (n c q : Nat) (nm : ByteArray) (w : World), w.cell? ⟨q, 0, none⟩ = some (.string nm) → 
    Calls Tryz.prog f #[.agg #[.string (B x), .slice A n c], .pointer (some ⟨q, 0, none⟩)] w fun e w' => e = .returned (.bool (decide (x = L nm))) ∧ Below w.heap.size w w'
set_option maxRecDepth 100000 in
theorem find1_any : CLOS 194 := by
  intro x A n c q nm w hc
  have hq : q < w.heap.size := World.block_lt_of_cell? _ _ hc
  have ht : ((B x).toList == nm.toList) = decide (x = L nm) := by rw [str_beq, Idn.L_B]
  generalize decide (x = L nm) = d at *
  generalize B x = bx at *
  go_enter Tryz.func194, Tryz.ntmps194
  go_wp2
  go_ret
  exact ⟨rfl, (Below.refl _ _).alloc (Nat.le_refl _) _⟩
set_option maxRecDepth 100000 in
theorem sorted1_any : CLOS 81 := by
  intro x A n c q nm w hc
  have hq : q < w.heap.size := World.block_lt_of_cell? _ _ hc
  have ht : ((B x).toList == nm.toList) = decide (x = L nm) := by rw [str_beq, Idn.L_B]
  generalize decide (x = L nm) = d at *
  generalize B x = bx at *
  go_enter Tryz.func81, Tryz.ntmps81
  go_wp2
  go_ret
  exact ⟨rfl, (Below.refl _ _).alloc (Nat.le_refl _) _⟩
theorem fn_find1 : FnB 194 := by intro a w; kernel_rfl
theorem fn_sorted1 : FnB 81 := by intro a w; kernel_rfl
theorem fn_sorted2 : FnB 83 := by intro a w; kernel_rfl
theorem fn_sorted3 : FnB 84 := by intro a w; kernel_rfl
theorem CLOS.pred {f : Nat} (h : CLOS f) (q : Nat) (nm : ByteArray) (l : List (Bs × Nat)) (w : World) (hc : w.cell? ⟨q, 0, none⟩ = some (.string nm)) : PredA f #[.pointer (some ⟨q, 0, none⟩)] (fun x => decide (x.1 = L nm)) l w :=
  fun W x A c _ hb => h x.1 A x.2 c q nm W (cell_later hb hc)
set_option maxRecDepth 100000 in
theorem sorted2_any (x : Bs) (A : Option Addr) (n c : Nat) (w : World) : Calls Tryz.prog 83 #[.agg #[.string (B x), .slice A n c]] w fun e w' => e = .returned (.bool ((n : Int) == 0)) ∧ Below w.heap.size w w' := by
  go_enter Tryz.func83, Tryz.ntmps83
  go_wp2
  go_ret
  exact ⟨rfl, (Below.refl _ _).alloc (Nat.le_refl _) _⟩
theorem AttsV.names {w : World} {hi : Nat} {v : Value} {l : List Idn.Att} (h : AttsV w hi v l) : NamesV w hi v (l.map fun a => (a.name, a.vals.length)) := by
  obtain ⟨A, c, hv, hc, h⟩ := h
  refine ⟨A, c, by rw [hv, List.length_map], by simpa using hc, fun hp => ?_⟩
  obtain ⟨b, off, hA, hbb, hx⟩ := h (by simpa using hp)
  refine ⟨b, off, hA, hbb, fun i x hix => ?_⟩
  rw [List.getElem?_map] at hix
  obtain ⟨a, ha, rfl⟩ := Option.map_eq_some_iff.1 hix
  obtain ⟨cs, h1, ⟨u, h2, h4⟩, h3⟩ := hx i a ha
  obtain ⟨A', c', hu, _⟩ := h4.shape
  exact ⟨cs, h1, ⟨A', c', by rw [h2, hu]⟩, h3⟩
set_option maxHeartbeats 400000 in
set_option maxRecDepth 100000 in
theorem find_any (v : Value) (l : List Idn.Att) (n : ByteArray) (w : World) (hv : AttsV w w.heap.size v l) (hl : l.length ≤ 1000000000) (hn : n.size ≤ 1000000000) :
    Calls Tryz.prog 127 #[v, .string n] w fun e w' => e = .returned (.int .i64 (idxP (fun a : Idn.Att => decide (a.name = Idn.lower (L n))) l)) ∧ Below w.heap.size w w' := by
  have hL := lower_any n w (by omega)
  have hI := fun (W : World) (hW : Below w.heap.size w W) (q : Nat) (hc : W.cell? ⟨q, 0, none⟩ = some (.string (B (Idn.lower (L n))))) =>
    idxA_any 194 #[.pointer (some ⟨q, 0, none⟩)] fn_find1 _ v (l.map fun a => (a.name, a.vals.length)) W (SlV.mono (SlV.keep hv.names hW) hW.size) (by simpa using hl) (find1_any.pred q _ _ W hc)
  have he : idxP (fun x : Bs × Nat => decide (x.1 = L (B (Idn.lower (L n))))) (l.map fun a => (a.name, a.vals.length)) = idxP (fun a : Idn.Att => decide (a.name = Idn.lower (L n))) l := by
    unfold idxP
    rw [findIdx_map]; rfl
  rw [he] at hI
  generalize idxP (fun a : Idn.Att => decide (a.name = Idn.lower (L n))) l = r at *
  clear he
  obtain ⟨A, c, rfl, hc⟩ := SlV.shape hv
  clear hv
  go_enter Tryz.func127, Tryz.ntmps127
  go_wp2_with fail
  refine hL.mono ?_
  rintro e w1 ⟨rfl, hb1⟩
  clear hL
  generalize B (Idn.lower (L n)) = nm at *
  go_wp2_with fail
  with_reducible refine gen1 (R := fun W => Calls Tryz.prog 80 _ W _) ?_
  intro W hbW hszW hc1 _
  have q0 : W.cell? ⟨w1.heap.size, 0, none⟩ = some (.string nm) := hc1 0 _ rfl
  have hbw := hb1.trans (hbW.mono hb1.size)
  refine (hI W hbw w1.heap.size q0).mono ?_
  rintro e w2 ⟨rfl, hb2⟩
  clear hI hc1
  go_wp2
  go_ret
  exact ⟨rfl, hbw.trans (hb2.mono hbw.size)⟩
end Go.Proofs.YtoopoglkeeoamaaGreatDoor
/- identityref06: twice, checkValues, Check. -/
namespace Go.Proofs.YtoopoglkeeoamaaGreatDoor
open Go.RowKit Go.Sort
open Idn (L B Bs drop_L take_L size_L)
set_option maxHeartbeats 1000000 in
set_option maxRecDepth 100000 in
theorem r_twice_any (v : Value) (l : List Idn.Att) (k : Nat) (w : World) (hv : AttsV w w.heap.size v l) (hs : ASm l) (hk : k < l.length) :
    Calls Tryz.prog 89 #[v, .int .i64 (k : Int)] w fun e w' => e = .returned (.bool (Idn.ixA (l.take k) l[k].name).isSome) ∧ Below w.heap.size w w' := by
  obtain ⟨A, c, rfl, hc⟩ := SlV.shape hv
  have hl9 := hs.1
  have hn9 := (hs.2 l[k] (List.getElem_mem hk)).1
  generalize hr : (Idn.ixA (l.take k) l[k].name).isSome = r
  have HR : Hid (r = (Idn.ixA (l.take k) l[k].name).isSome) := hr.symm
  clear hr
  go_enter Tryz.func89, Tryz.ntmps89
  go_wp2
  go_loopw [5] (fun i wr => ∃ j : Nat, j ≤ k ∧ i = .int .i64 j ∧ Below w.heap.size w wr ∧ Hid (∀ (i : Nat) (h : i < l.length), i < j → Idn.lower l[i].name ≠ Idn.lower l[k].name)) (fun i _ => k - (intOf i).toNat)
  case atStart => exact ⟨0, Nat.zero_le _, rfl, Below.refl _ _, by intro i h hi; omega⟩
  case round =>
    obtain ⟨j, hj, rfl, hb, hne⟩ := hrel
    by_cases hjk : j < k
    · have hjl : j < l.length := by omega
      have hjI : (j : Int) < (k : Int) := by omega
      have hjlI : (j : Int) < (l.length : Int) := by omega
      have hklI : (k : Int) < (l.length : Int) := by omega
      have hvr := AttsV.keep hv hb
      obtain ⟨b, off, va, rfl, hbl, c0, c1, hva⟩ := AttsV.cell hvr hk
      obtain ⟨b', off', va', hbo, hbl', d0, d1, hva'⟩ := AttsV.cell hvr hjl
      injection hbo with hbo
      injection hbo with hb1e hb2e
      subst hb1e hb2e
      have hn9' := (hs.2 l[j] (List.getElem_mem hjl)).1
      have hL1 := fun W => r_lower_any (B l[k].name) W (by rw [Idn.size_B]; omega)
      have hL2 := fun W => r_lower_any (B l[j].name) W (by rw [Idn.size_B]; omega)
      rw [Idn.L_B] at hL1 hL2
      have k0 := cell_regrown c0
      have k1 := cell_regrown d0
      have q1 := cq (W := wr) fun W' _ => hL1 W'
      have q2 := cq (W := wr) fun W' _ => hL2 W'
      have hsame : (((B (Idn.lower l[j].name)).toList == (B (Idn.lower l[k].name)).toList)) = decide (Idn.lower l[j].name = Idn.lower l[k].name) := by
        rw [str_beq, Idn.L_B, Idn.L_B]
      by_cases he : Idn.lower l[j].name = Idn.lower l[k].name
      · have HF : Hid (r = true) := by show _ = _; rw [HR.out]; exact ixA_some (l := l.take k) j (by rw [List.length_take]; omega) (by simpa using he)
        rw [decide_eq_true he] at hsame
        generalize Idn.lower l[k].name = nk at *
        generalize Idn.lower l[j].name = nj at *
        clear he hL1 hL2 c0 c1 d0 d1
        go_wp2
        refine wp_region_quiet_below (by kernel_rfl) (by kernel_rfl) ?_
        repeat (first | go_big_quiet_step ((go_at_call 55; first | with_reducible exact q1 _ _ | with_reducible exact q2 _ _)) | quiet_step ((go_at_call 55; first | with_reducible exact q1 _ _ | with_reducible exact q2 _ _)))
        refine wpQuiet_nil ?_
        intro _ hw'
        obtain ⟨⟨dq, osq⟩, hw''⟩ := hw'
        subst hw''
        have hb4 := below_regrown wr dq osq
        generalize grow (redrawn wr dq) osq = W4 at hb4 ⊢
        go_wp2
        go_ret
        exact ⟨ret_bool HF.out.symm, hb.trans (hb4.mono hb.size)⟩
      · have HN : Hid (∀ (i : Nat) (h : i < l.length), i < j + 1 → Idn.lower l[i].name ≠ Idn.lower l[k].name) := fun i h hi => by
          by_cases hij : i = j
          · subst hij; exact he
          · exact hne.out i h (by omega)
        rw [decide_eq_false he] at hsame
        generalize hnk : Idn.lower l[k].name = nk at *
        generalize hnj : Idn.lower l[j].name = nj at *
        have HNK := Lib.hid hnk
        have HNJ := Lib.hid hnj
        clear he hL1 hL2 c0 c1 d0 d1 hnk hnj
        go_wp2
        refine wp_region_quiet_below (by kernel_rfl) (by kernel_rfl) ?_
        repeat (first | go_big_quiet_step ((go_at_call 55; first | with_reducible exact q1 _ _ | with_reducible exact q2 _ _)) | quiet_step ((go_at_call 55; first | with_reducible exact q1 _ _ | with_reducible exact q2 _ _)))
        refine wpQuiet_nil ?_
        intro _ hw'
        obtain ⟨⟨dq, osq⟩, hw''⟩ := hw'
        subst hw''
        have hb4 := below_regrown wr dq osq
        generalize grow (redrawn wr dq) osq = W4 at hb4 ⊢
        go_wp2
        go_roundw
        case rel => exact ⟨j + 1, by omega, by go_num, hb.trans (hb4.mono hb.size), HN⟩
        case measure => simp [intOf]; omega
    · have hjkI : ¬ (j : Int) < (k : Int) := by omega
      have HF : Hid (r = false) := by
        show _ = _
        rw [HR.out, ixA_none fun i hi => ?_]
        · rfl
        · rw [List.length_take] at hi
          rw [List.getElem_take]
          exact hne.out i (by omega) (by omega)
      go_wp2
      go_ret
      exact ⟨ret_bool HF.out.symm, hb⟩
/-- the first error of values, none of which may be among others -/
def vErr (old : List Bs) : List Bs → List Bs → Int
  | _, [] => 0
  | p, v :: l => if Idn.clean v = false then 4 else if old.contains v = true then 7 else if p.contains v = true then 7 else vErr old (p ++ [v]) l
theorem vErr_nil : ∀ (l p : List Bs), vErr [] p l = Idn.valsErr p l
  | [], _ => rfl
  | v :: l, p => by
    rw [vErr, Idn.valsErr, vErr_nil l]
    cases Idn.clean v <;> cases p.contains v <;> rfl
theorem vErr_step (old l : List Bs) (k : Nat) (hk : k < l.length) (e : Int) (h : e = vErr old (l.take k) (l.drop k)) :
    (Idn.clean l[k] = false → e = 4) ∧ (Idn.clean l[k] = true → old.contains l[k] = true → e = 7) ∧ (Idn.clean l[k] = true → old.contains l[k] = false → (l.take k).contains l[k] = true → e = 7) ∧
      (Idn.clean l[k] = true → old.contains l[k] = false → (l.take k).contains l[k] = false → e = vErr old (l.take (k + 1)) (l.drop (k + 1))) := by
  rw [List.drop_eq_getElem_cons hk, vErr] at h
  refine ⟨fun h1 => ?_, fun h1 h2 => ?_, fun h1 h2 h3 => ?_, fun h1 h2 h3 => ?_⟩
  · rw [h, if_pos h1]
  · rw [h, if_neg (by simp [h1]), if_pos h2]
  · rw [h, if_neg (by simp [h1]), if_neg (by simp only [h2]; decide), if_pos h3]
  · rw [h, if_neg (by simp [h1]), if_neg (by simp only [h2]; decide), if_neg (by simp only [h3]; decide), List.take_succ_eq_append_getElem hk]
set_option maxHeartbeats 1000000 in
set_option maxRecDepth 100000 in
theorem r_values_any (v u : Value) (l old : List Bs) (w : World) (hv : StrsV w w.heap.size v l) (hu : StrsV w w.heap.size u old) (hs : Sm l) (ho : old.length ≤ 1000000000) :
    Calls Tryz.prog 90 #[v, u] w fun e w' => e = .returned (.int .i64 (vErr old [] l)) ∧ Below w.heap.size w w' := by
  obtain ⟨A, c, rfl, hc⟩ := hv.shape
  obtain ⟨A', c', rfl, hc'⟩ := hu.shape
  generalize hrr : vErr old [] l = r
  have HR := Lib.hid hrr
  clear hrr
  have hl9 := hs.1
  go_enter Tryz.func90, Tryz.ntmps90
  go_wp2
  go_loopw [5] (fun i wr => ∃ k : Nat, k ≤ l.length ∧ i = .int .i64 k ∧ Below w.heap.size w wr ∧ Hid (r = vErr old (l.take k) (l.drop k))) (fun i _ => l.length - (intOf i).toNat)
  case atStart => exact ⟨0, Nat.zero_le _, rfl, Below.refl _ _, by show _ = _; rw [← HR.out]; simp⟩
  case round =>
    obtain ⟨k, hk, rfl, hb, hinv⟩ := hrel
    by_cases hlt : k < l.length
    · have hvr := SlV.keep hv hb
      obtain ⟨b, off, rfl, hbl, c0⟩ := StrsV.cell hvr hlt
      have hltI : (k : Int) < (l.length : Int) := by omega
      have hkc : (k : Int) ≤ (c : Int) := by omega
      have hk0 : (0 : Int) ≤ (k : Int) := by omega
      obtain ⟨s1, s2, s3, s4⟩ := vErr_step old l k hlt _ hinv.out
      have hsz := hs.2 l[k] (List.getElem_mem hlt)
      have hC := r_clean_any (B l[k]) wr (by rw [Idn.size_B]; omega)
      rw [Idn.L_B] at hC
      have hH1 := fun W (hW : Below wr.heap.size wr W) => r6_has_any _ old (B l[k]) W (SlV.mono (SlV.keep (SlV.keep hu hb) (hW.mono hb.size)) (Nat.le_trans hb.size hW.size)) ho
      have hH2 := fun W (hW : Below wr.heap.size wr W) => r6_has_any _ (l.take k) (B l[k]) W (SlV.take (SlV.mono (SlV.keep hvr (hW.mono hb.size)) (Nat.le_trans hb.size hW.size)) k hk) (by rw [List.length_take]; omega)
      rw [Idn.L_B] at hH1 hH2
      have k0 := cell_regrown c0
      clear hinv
      cases h1 : Idn.clean l[k]
      · have HF : Hid (r = 4) := s1 h1
        rw [h1] at hC
        clear s1 s2 s3 s4 h1
        go_wp2_with (go_at_call 143; refine hC.mono ?_; rintro e w2 ⟨rfl, rfl⟩)
        go_ret
        exact ⟨ret_int (by rw [HF.out]), hb⟩
      rw [h1] at hC
      cases h2 : old.contains l[k]
      · rw [h2] at hH1
        cases h3 : (l.take k).contains l[k]
        · rw [h3] at hH2
          have HF : Hid (r = vErr old (l.take (k + 1)) (l.drop (k + 1))) := s4 h1 h2 h3
          have q1 := cq hH1
          have q2 := cq hH2
          clear s1 s2 s3 s4 h1 h2 h3 hH1 hH2
          go_wp2_with (go_at_call 143; refine hC.mono ?_; rintro e w2 ⟨rfl, rfl⟩)
          refine wp_region_quiet_below (by kernel_rfl) (by kernel_rfl) ?_
          repeat (first | go_big_quiet_step ((go_at_call 144; first | with_reducible exact q1 _ _ | with_reducible exact q2 _ _)) | quiet_step ((go_at_call 144; first | with_reducible exact q1 _ _ | with_reducible exact q2 _ _)))
          refine wpQuiet_nil ?_
          intro _ hw'
          obtain ⟨⟨dq, osq⟩, hw''⟩ := hw'
          subst hw''
          have hb4 := below_regrown wr dq osq
          generalize grow (redrawn wr dq) osq = W4 at hb4 ⊢
          go_wp2
          go_roundw
          case rel => exact ⟨k + 1, by omega, by go_num, hb.trans (hb4.mono hb.size), HF⟩
          case measure => simp [intOf]; omega
        · rw [h3] at hH2
          have HF : Hid (r = 7) := s3 h1 h2 h3
          have q1 := cq hH1
          have q2 := cq hH2
          clear s1 s2 s3 s4 h1 h2 h3 hH1 hH2
          go_wp2_with (go_at_call 143; refine hC.mono ?_; rintro e w2 ⟨rfl, rfl⟩)
          refine wp_region_quiet_below (by kernel_rfl) (by kernel_rfl) ?_
          repeat (first | go_big_quiet_step ((go_at_call 144; first | with_reducible exact q1 _ _ | with_reducible exact q2 _ _)) | quiet_step ((go_at_call 144; first | with_reducible exact q1 _ _ | with_reducible exact q2 _ _)))
          refine wpQuiet_nil ?_
          intro _ hw'
          obtain ⟨⟨dq, osq⟩, hw''⟩ := hw'
          subst hw''
          have hb4 := below_regrown wr dq osq
          generalize grow (redrawn wr dq) osq = W4 at hb4 ⊢
          go_wp2
          go_ret
          exact ⟨ret_int (by rw [HF.out]), hb.trans (hb4.mono hb.size)⟩
      · rw [h2] at hH1
        have HF : Hid (r = 7) := s2 h1 h2
        have q1 := cq hH1
        clear s1 s2 s3 s4 h1 h2 hH1 hH2
        go_wp2_with (go_at_call 143; refine hC.mono ?_; rintro e w2 ⟨rfl, rfl⟩)
        refine wp_region_quiet_below (by kernel_rfl) (by kernel_rfl) ?_
        repeat (first | go_big_quiet_step ((go_at_call 144; with_reducible exact q1 _ _)) | quiet_step ((go_at_call 144; with_reducible exact q1 _ _)))
        refine wpQuiet_nil ?_
        intro _ hw'
        obtain ⟨⟨dq, osq⟩, hw''⟩ := hw'
        subst hw''
        have hb4 := below_regrown wr dq osq
        generalize grow (redrawn wr dq) osq = W4 at hb4 ⊢
        go_wp2
        go_ret
        exact ⟨ret_int (by rw [HF.out]), hb.trans (hb4.mono hb.size)⟩
    · have HF : Hid (r = 0) := by show _ = _; rw [hinv.out, List.drop_eq_nil_of_le (by omega)]; rfl
      have hltI : ¬ (k : Int) < (l.length : Int) := by omega
      clear hinv
      go_wp2
      go_ret
      exact ⟨ret_int (by rw [HF.out]), hb⟩
set_option maxHeartbeats 1000000 in
set_option maxRecDepth 100000 in
theorem r6_Check_any (v : Value) (l : List Idn.Att) (w : World) (hv : AttsV w w.heap.size v l) (hs : ASm l) :
    Calls Tryz.prog 43 #[v] w fun e w' => e = .returned (.int .i64 (Idn.aCheck l)) ∧ Below w.heap.size w w' := by
  have hv0 := hv
  obtain ⟨A, c, rfl, hc⟩ := SlV.shape hv
  generalize hrr : Idn.aCheck l = r
  have HR0 : Hid (r = if 32 < l.length then 3 else Idn.attsErr [] l) := hrr.symm
  clear hrr
  have hl9 := hs.1
  by_cases h32 : 32 < l.length
  · have HF : Hid (r = 3) := by show _ = _; rw [HR0.out, if_pos h32]
    have h' : (32 : Int) < (l.length : Int) := by omega
    clear h32 HR0
    go_enter Tryz.func43, Tryz.ntmps43
    go_wp2
    go_ret
    exact ⟨ret_int (by rw [HF.out]), Below.refl _ _⟩
  have HR : Hid (r = Idn.attsErr [] l) := by show _ = _; rw [HR0.out, if_neg h32]
  have h' : (l.length : Int) ≤ (32 : Int) := by omega
  clear HR0
  go_enter Tryz.func43, Tryz.ntmps43
  go_wp2
  clear h'
  go_loopw [3] (fun i wr => ∃ k : Nat, k ≤ l.length ∧ i = .int .i64 k ∧ Below w.heap.size w wr ∧ Hid (r = Idn.attsErr (l.take k) (l.drop k))) (fun i _ => l.length - (intOf i).toNat)
  case atStart => exact ⟨0, Nat.zero_le _, rfl, Below.refl _ _, by show _ = _; rw [HR.out]; simp⟩
  case round =>
    obtain ⟨k, hk, rfl, hb, hinv⟩ := hrel
    clear HR
    by_cases hlt : k < l.length
    · have hT := fun W (hW : Below wr.heap.size wr W) => r_twice_any _ l k W (AttsV.mono (AttsV.keep hv0 (hb.trans (hW.mono hb.size))) (Nat.le_trans hb.size hW.size)) hs hlt
      obtain ⟨b, off, va, rfl, hbl, c0, c1, hva⟩ := AttsV.cell (AttsV.keep hv hb) hlt
      obtain ⟨Av, cv, rfl, hcv⟩ := SlV.shape hva
      have hltI : (k : Int) < (l.length : Int) := by omega
      obtain ⟨s1, s2⟩ := Idn.atts_step l k hlt _ hinv.out
      obtain ⟨hn9, hsv⟩ := hs.2 l[k] (List.getElem_mem hlt)
      have hN := r_name_any (B l[k].name) wr (by rw [Idn.size_B]; omega)
      rw [Idn.L_B] at hN
      have hVs := fun W (hW : Below wr.heap.size wr W) => r_values_any _ _ l[k].vals [] W (SlV.mono (SlV.keep hva (hW.mono hb.size)) (Nat.le_trans hb.size hW.size)) (SlV.nil _ _ _ _) hsv (by simp)
      rw [vErr_nil] at hVs
      have HA : Hid (Idn.attErr (l.take k) l[k] = if !Idn.name l[k].name then 5 else if (Idn.ixA (l.take k) l[k].name).isSome then 7 else if l[k].vals.length = 0 then 6 else if 16 < l[k].vals.length then 3 else Idn.valsErr [] l[k].vals) := rfl
      have S1 := Lib.hid s1
      have S2 := Lib.hid s2
      generalize Idn.attErr (l.take k) l[k] = er at *
      clear hinv s1 s2
      cases h1 : Idn.name l[k].name
      · have HF : Hid (r = 5) := by
          show _ = _
          have : er = 5 := by rw [HA.out, h1]; rfl
          rw [S1.out (by rw [this]; decide), this]
        rw [h1] at hN
        clear h1 HA S1 S2
        go_wp2_with (go_at_call 88; refine hN.mono ?_; rintro e w2 ⟨rfl, rfl⟩)
        go_ret
        exact ⟨ret_int (by rw [HF.out]), hb⟩
      rw [h1] at hN
      cases h2 : (Idn.ixA (l.take k) l[k].name).isSome
      case true =>
        have HF : Hid (r = 7) := by
          show _ = _
          have : er = 7 := by rw [HA.out, h1, h2]; rfl
          rw [S1.out (by rw [this]; decide), this]
        have hT1 := hT wr (Below.refl _ _)
        rw [h2] at hT1
        clear h1 h2 HA S1 S2 hT
        go_wp2_with (first | (go_at_call 88; refine hN.mono ?_; rintro e w2 ⟨rfl, rfl⟩) | (go_at_call 89; refine hT1.mono ?_; rintro e w3 ⟨rfl, hb3⟩))
        go_ret
        exact ⟨ret_int (by rw [HF.out]), hb.trans (hb3.mono hb.size)⟩
      have hT1 := hT wr (Below.refl _ _)
      rw [h2] at hT1
      have HB : Hid (er = if l[k].vals.length = 0 then 6 else if 16 < l[k].vals.length then 3 else Idn.valsErr [] l[k].vals) := by
        show _ = _; rw [HA.out, h1, h2]; rfl
      clear h1 h2 HA hT
      go_wp2_with (first | (go_at_call 88; refine hN.mono ?_; rintro e w2 ⟨rfl, rfl⟩) | fail)
      refine hT1.mono ?_
      rintro e w3 ⟨rfl, hb3⟩
      have d1 := cell_later hb3 c1
      have hbw3 := hb.trans (hb3.mono hb.size)
      clear hN hT1 c0 c1
      by_cases n0 : l[k].vals.length = 0
      · have HF : Hid (r = 6) := by
          show _ = _
          have : er = 6 := by rw [HB.out, if_pos n0]
          rw [S1.out (by rw [this]; decide), this]
        have e0 : ((l[k].vals.length : Int) == 0) = true := by rw [n0]; rfl
        clear n0 HB S1 S2
        go_wp2
        go_ret
        exact ⟨ret_int (by rw [HF.out]), hbw3⟩
      have e0 : ((l[k].vals.length : Int) == 0) = false := by rw [beq_eq_false_iff_ne]; omega
      by_cases n1 : 16 < l[k].vals.length
      · have HF : Hid (r = 3) := by
          show _ = _
          have : er = 3 := by rw [HB.out, if_neg n0, if_pos n1]
          rw [S1.out (by rw [this]; decide), this]
        have e1 : (16 : Int) < (l[k].vals.length : Int) := by omega
        clear n0 n1 HB S1 S2
        go_wp2
        go_ret
        exact ⟨ret_int (by rw [HF.out]), hbw3⟩
      have e1 : (l[k].vals.length : Int) ≤ (16 : Int) := by omega
      have he : er = Idn.valsErr [] l[k].vals := by rw [HB.out, if_neg n0, if_neg n1]
      have hV := hVs w3 hb3
      rw [← he] at hV
      clear hVs n0 n1 he HB
      by_cases hz : er = 0
      · have HF : Hid (r = Idn.attsErr (l.take (k + 1)) (l.drop (k + 1))) := S2.out hz
        subst hz
        clear S1 S2
        go_wp2_with fail
        refine hV.mono ?_
        rintro e w4 ⟨rfl, hb4⟩
        go_wp2
        go_roundw
        case rel => exact ⟨k + 1, by omega, by go_num, hbw3.trans (hb4.mono hbw3.size), HF⟩
        case measure => simp [intOf]; omega
      · have HF : Hid (r = er) := S1.out hz
        have ez : (er != 0) = true := by rw [bne_iff_ne]; exact hz
        clear S1 S2 hz
        go_wp2_with fail
        refine hV.mono ?_
        rintro e w4 ⟨rfl, hb4⟩
        go_wp2
        go_ret
        exact ⟨ret_int (by rw [HF.out]), hbw3.trans (hb4.mono hbw3.size)⟩
    · have HF : Hid (r = 0) := by show _ = _; rw [hinv.out, List.drop_eq_nil_of_le (by omega)]; rfl
      have hltI : ¬ (k : Int) < (l.length : Int) := by omega
      clear hinv
      go_wp2
      go_ret
      exact ⟨ret_int (by rw [HF.out]), hb⟩
end Go.Proofs.YtoopoglkeeoamaaGreatDoor
