/- Part 42 of the proof that Valid returns the specified error: the package variables hold what the program lays; nothing else is asked. -/
import Derived.Test.YtnikolglippfmaaGreatDoorVdz08
import Derived.Test.YtnikolglippfmaaGreatDoorVdz24
import Derived.Test.YtnikolglippfmaaGreatDoorVdz34
import Derived.Test.YtnikolglippfmaaGreatDoorVdz35
import Derived.Test.YtnikolglippfmaaGreatDoorVdz39
/- law07: light, subset, raised. -/
namespace Go.Proofs.YtnikolglippfmaaGreatDoor
open Go.RowKit Go.Sort
open Idn (L B Bs drop_L take_L size_L)
def lightA (a : Idn.Att) : Bool := decide (a.name.length ≤ 300) && (decide (a.vals.length ≤ 20) && a.vals.all fun x => decide (x.length ≤ 300))
def light (l : List Idn.Att) : Bool := l.all lightA && decide (l.length ≤ 40)
theorem light_sm {l : List Idn.Att} (h : light l = true) : l.length ≤ 40 ∧ ∀ a ∈ l, a.name.length ≤ 300 ∧ a.vals.length ≤ 20 ∧ ∀ x ∈ a.vals, x.length ≤ 300 := by
  unfold light at h
  simp only [Bool.and_eq_true, decide_eq_true_eq, List.all_eq_true] at h
  refine ⟨h.2, fun a ha => ?_⟩
  have := h.1 a ha
  unfold lightA at this
  simp only [Bool.and_eq_true, decide_eq_true_eq, List.all_eq_true] at this
  exact this
theorem light_asm {l : List Idn.Att} (h : light l = true) : ASm l ∧ ASm5 l ∧ Idn.ASm7 l := by
  obtain ⟨h1, h2⟩ := light_sm h
  refine ⟨⟨by omega, fun a ha => ⟨by have := (h2 a ha).1; omega, by have := (h2 a ha).2.1; omega, fun x hx => by have := (h2 a ha).2.2 x hx; omega⟩⟩, fun a ha => ⟨by have := (h2 a ha).1; omega, fun x hx => by have := (h2 a ha).2.2 x hx; omega⟩, by omega, fun a ha => ⟨by have := (h2 a ha).1; omega, by have := (h2 a ha).2.1; omega, fun x hx => by have := (h2 a ha).2.2 x hx; omega⟩⟩
set_option maxHeartbeats 1000000 in
set_option maxRecDepth 100000 in
theorem light_any (v : Value) (l : List Idn.Att) (w : World) (hv : EntV w w.heap.size v l) (hl : ALen l) :
    Calls Tryz.prog 14 #[v] w fun e w' => e = .returned (.bool (light l)) ∧ Below w.heap.size w w' := by
  obtain ⟨nm, a, rfl, hT⟩ := hv
  obtain ⟨A, ca, rfl, hca⟩ := SlV.shape hT
  generalize hr : light l = r
  have hR := Lib.hid hr
  clear hr
  have hl1 := hl.1
  go_enter Tryz.func14, Tryz.ntmps14
  go_wp2
  with_reducible refine gen1 (R := fun W => Code.wp Tryz.prog _ _ _ W) ?_
  intro W hbW hszW hc1 _
  have b1 := hc1 1 _ rfl
  clear hc1
  go_loopw [3] (fun i wr => ∃ k : Nat, k ≤ l.length ∧ i = .int .i64 k ∧ Below W.heap.size W wr ∧ Hid (l.all lightA = (l.drop k).all lightA)) (fun i _ => l.length - (intOf i).toNat)
  case atStart => exact ⟨0, Nat.zero_le _, rfl, Below.refl _ _, by show _ = _; simp⟩
  case round =>
    obtain ⟨k, hk, rfl, hb, hinv⟩ := hrel
    have hbw := hbW.trans (hb.mono hbW.size)
    replace b1 := cell_later hb b1
    by_cases hlt : k < l.length
    · obtain ⟨b, off, va, rfl, hbl, c0, c1, hva⟩ := AttsV.cell (AttsV.keep hT hbw) hlt
      obtain ⟨Av, cv, rfl, hcv⟩ := SlV.shape hva
      have hvl := hl.2 l[k] (List.getElem_mem hlt)
      have hltI : (k : Int) < (l.length : Int) := by omega
      have hd := List.drop_eq_getElem_cons hlt
      have hq : Hid (l.all lightA = (lightA l[k] && (l.drop (k + 1)).all lightA)) := by show _ = _; rw [hinv.out, hd, List.all_cons]
      have hz := Idn.size_B l[k].name
      clear hinv hd
      go_upto_region 5 with fail
      with_reducible refine gen1 (R := fun W => Code.wp Tryz.prog _ _ _ W) ?_
      intro W1 hbW1 hszW1 hc1 _
      have d0 : W1.cell? ⟨wr.heap.size, 0, none⟩ = some (.string (B l[k].name)) := hc1 0 _ rfl
      have d1 : W1.cell? ⟨wr.heap.size, 1, none⟩ = some (.slice Av l[k].vals.length cv) := hc1 1 _ rfl
      have e1 := cell_later hbW1 b1
      have hb1 := hb.trans (hbW1.mono hb.size)
      have hbw1 := hbw.trans (hbW1.mono hbw.size)
      have hva1 := SlV.keep hva (hbW1.mono hbw.size)
      clear hc1 c0 c1 b1
      by_cases n1 : l[k].name.length ≤ 300
      case neg =>
        have HF : Hid (r = false) := by show _ = _; rw [← hR.out, light, hq.out, lightA, decide_eq_false n1]; rfl
        have h1 : (300 : Int) < ((B l[k].name).size : Int) := by omega
        clear hq n1 hz
        go_wp2
        go_ret
        exact ⟨ret_bool (by rw [HF.out]), hbw1⟩
      have h1 : ((B l[k].name).size : Int) ≤ 300 := by omega
      by_cases n2 : l[k].vals.length ≤ 20
      case neg =>
        have HF : Hid (r = false) := by show _ = _; rw [← hR.out, light, hq.out, lightA, decide_eq_true n1, decide_eq_false n2]; rfl
        have h2 : (20 : Int) < (l[k].vals.length : Int) := by omega
        clear hq n1 n2 hz
        go_wp2
        go_ret
        exact ⟨ret_bool (by rw [HF.out]), hbw1⟩
      have h2 : (l[k].vals.length : Int) ≤ 20 := by omega
      have hq2 : Hid (lightA l[k] = l[k].vals.all fun x => decide (x.length ≤ 300)) := by show _ = _; rw [lightA, decide_eq_true n1, decide_eq_true n2]; rfl
      clear n1 n2 hz
      go_wp2
      go_loop [5] (fun i => ∃ j : Nat, j ≤ l[k].vals.length ∧ i = .int .i64 j ∧ Hid (lightA l[k] = (l[k].vals.drop j).all fun x => decide (x.length ≤ 300))) (fun i => l[k].vals.length - (intOf i).toNat)
      case atStart => exact ⟨0, Nat.zero_le _, rfl, hq2⟩
      case round =>
        obtain ⟨j, hj, rfl, hinv⟩ := hrel
        by_cases hjl : j < l[k].vals.length
        · obtain ⟨g, o, rfl, hgl, m0⟩ := StrsV.cell hva1 hjl
          have hd := List.drop_eq_getElem_cons hjl
          have hjI : (j : Int) < (l[k].vals.length : Int) := by omega
          have hsz := Idn.size_B l[k].vals[j]
          by_cases he : l[k].vals[j].length ≤ 300
          · have HF : Hid (lightA l[k] = (l[k].vals.drop (j + 1)).all fun x => decide (x.length ≤ 300)) := by show _ = _; rw [hinv.out, hd, List.all_cons, decide_eq_true he, Bool.true_and]
            have h3 : ((B l[k].vals[j]).size : Int) ≤ 300 := by omega
            clear hd hsz he hinv
            go_wp2
            go_round
            case rel => exact ⟨j + 1, by omega, by go_num, HF⟩
            case measure => simp [intOf]; omega
          · have HF : Hid (r = false) := by show _ = _; rw [← hR.out, light, hq.out, hinv.out, hd, List.all_cons, decide_eq_false he]; rfl
            have h3 : (300 : Int) < ((B l[k].vals[j]).size : Int) := by omega
            clear hd hsz he hinv
            go_wp2
            go_ret
            exact ⟨ret_bool (by rw [HF.out]), hbw1⟩
        · have HF : Hid (l.all lightA = (l.drop (k + 1)).all lightA) := by show _ = _; rw [hq.out, hinv.out, List.drop_eq_nil_of_le (by omega)]; rfl
          have hjI : ¬ (j : Int) < (l[k].vals.length : Int) := by omega
          clear hinv hq hq2
          go_wp2
          go_roundw
          case rel => exact ⟨k + 1, by omega, by go_num, hb1, HF⟩
          case measure => simp [intOf]; omega
    · have HF : Hid (r = decide ((l.length : Int) ≤ 40)) := by
        show _ = _
        rw [← hR.out, light, hinv.out, List.drop_eq_nil_of_le (by omega)]
        have : decide (l.length ≤ 40) = decide ((l.length : Int) ≤ 40) := by simp; omega
        rw [this]; rfl
      have hltI : ¬ (k : Int) < (l.length : Int) := by omega
      clear hinv
      go_wp2
      go_ret
      exact ⟨ret_bool (by rw [HF.out]), hbw⟩
set_option maxHeartbeats 1000000 in
set_option maxRecDepth 100000 in
theorem subset_any (v u : Value) (l m : List Bs) (w : World) (hv : StrsV w w.heap.size v l) (hu : StrsV w w.heap.size u m) (hl : l.length ≤ 1000000000) (hm : m.length ≤ 1000000000) (hsub : ∀ x ∈ l, x ∈ m) :
    Calls Tryz.prog 23 #[v, u] w fun e w' => e = .returned (.bool true) ∧ Below w.heap.size w w' := by
  obtain ⟨A, c, rfl, hc⟩ := hv.shape
  obtain ⟨A', c', rfl, hc'⟩ := hu.shape
  have HSUB : Hid (∀ x ∈ l, x ∈ m) := hsub
  clear hsub
  go_enter Tryz.func23, Tryz.ntmps23
  go_wp2
  go_loopw [5] (fun i wr => ∃ k : Nat, k ≤ l.length ∧ i = .int .i64 k ∧ Below w.heap.size w wr) (fun i _ => l.length - (intOf i).toNat)
  case atStart => exact ⟨0, Nat.zero_le _, rfl, Below.refl _ _⟩
  case round =>
    obtain ⟨k, hk, rfl, hb⟩ := hrel
    by_cases hlt : k < l.length
    · have hltI : (k : Int) < (l.length : Int) := by omega
      obtain ⟨b, off, rfl, hbl, c0⟩ := StrsV.cell hv hlt
      have HX : Hid (l[k] ∈ m) := HSUB.out _ (List.getElem_mem hlt)
      obtain ⟨wk, hwk⟩ : ∃ wk : World, wk = wr := ⟨_, rfl⟩
      subst hwk
      go_wp2
      go_loopw [6, 7] (fun d i wx => ∃ (j : Nat) (q : Bool), j ≤ m.length ∧ i = .int .i64 j ∧ d = .bool q ∧ Below w.heap.size w wx ∧ Hid (q = decide (l[k] ∈ m.take j))) (fun _ i _ => m.length - (intOf i).toNat)
      case atStart => exact ⟨0, false, Nat.zero_le _, rfl, rfl, hb, by show _ = _; simp⟩
      case round =>
        obtain ⟨j, q, hj, rfl, rfl, hbx, hq⟩ := hrel
        by_cases hjm : j < m.length
        · have hjI : (j : Int) < (m.length : Int) := by omega
          obtain ⟨b', off', rfl, hbl', c0'⟩ := StrsV.cell (SlV.keep hu hbx) hjm
          have c1 := (hbx.cell (p := ⟨b, off + k, none⟩) hbl).trans c0
          have htk := List.take_succ_eq_append_getElem hjm
          cases q
          · by_cases he : l[k] = m[j]
            · have ht : ((B l[k]).toList == (B m[j]).toList) = true := str_is (by rw [he])
              have HQ : Hid (true = decide (l[k] ∈ m.take (j + 1))) := (decide_eq_true (by rw [htk]; exact List.mem_append_right _ (by rw [he]; exact List.mem_singleton_self _))).symm
              clear htk he hq
              go_wp2
              go_quiet (fail)
              go_wp2
              go_roundw
              case rel => exact ⟨j + 1, true, by omega, by go_num, rfl, below_drewN hbx _, HQ⟩
              case measure => simp [intOf]; omega
            · have ht : ((B l[k]).toList == (B m[j]).toList) = false := str_not (by rw [Idn.L_B, Idn.L_B]; exact he)
              have HQ : Hid (false = decide (l[k] ∈ m.take (j + 1))) := by
                show _ = _
                have := hq.out
                rw [htk]
                simp only [List.mem_append, List.mem_singleton, he, or_false]
                exact this
              clear htk he hq
              go_wp2
              go_quiet (fail)
              go_wp2
              go_roundw
              case rel => exact ⟨j + 1, false, by omega, by go_num, rfl, below_drewN hbx _, HQ⟩
              case measure => simp [intOf]; omega
          · have HQ : Hid (true = decide (l[k] ∈ m.take (j + 1))) := by
              show _ = _
              have h1 := hq.out
              have h2 : l[k] ∈ m.take j := of_decide_eq_true h1.symm
              exact (decide_eq_true (by rw [htk]; exact List.mem_append_left _ h2)).symm
            clear htk hq
            go_wp2
            go_quiet (fail)
            go_wp2
            go_roundw
            case rel => exact ⟨j + 1, true, by omega, by go_num, rfl, below_drewN hbx _, HQ⟩
            case measure => simp [intOf]; omega
        · have hjI : ¬ (j : Int) < (m.length : Int) := by omega
          have hqt : q = true := by
            have h1 := hq.out
            rw [List.take_of_length_le (by omega)] at h1
            rw [h1]; exact decide_eq_true HX.out
          subst hqt
          clear hq
          go_wp2
          go_roundw
          case rel => exact ⟨k + 1, by omega, by go_num, hbx⟩
          case measure => simp [intOf]; omega
    · have hltI : ¬ (k : Int) < (l.length : Int) := by omega
      go_wp2
      go_ret
      exact ⟨rfl, hb⟩
end Go.Proofs.YtnikolglippfmaaGreatDoor
/- law07: raised. -/
namespace Go.Proofs.YtnikolglippfmaaGreatDoor
open Go.RowKit Go.Sort
open Idn (L B Bs drop_L take_L size_L)
theorem run_str {P : Program} {w : World} (src dst e : TypeId) (hs : P.underlying src = some (.slice e)) (hd : P.underlying dst = some .string) (he : P.underlying e = some (.int .u8))
    (base : Nat) (v : Value) (l : Bs) (hown : w.ownsRow base e 1 v l.length (l.map bc)) : (convert src dst v).run P w = .ok (.string (B l)) w := by
  rcases hown.2 with ⟨rfl, hn⟩ | ⟨g, cap, cur, rfl, _, hh, _, _, _, htake⟩
  · have : l = [] := List.eq_nil_of_length_eq_zero hn
    subst this
    exact run_convert_bytes_nil w src e hs he 0 0 dst hd
  · have h := run_convert_bytes_arg (P := P) w src e hs he g 0 l.length cap (l.map fun x => (x.toNat : Int)) (by simp) (fun i hi => by
      have hc := hown.cellAt i (by simpa using hi)
      rw [Nat.zero_add, hc]
      simp [bc, hi]) dst hd
    rw [h]
    congr 3
    show (⟨_⟩ : ByteArray) = _
    simp [B, Function.comp_def]
theorem upc_no {x : UInt8} (h : (x.toNat : Int) < 97 ∨ 122 < (x.toNat : Int)) : bc (upc x) = Value.int .u8 (x.toNat : Int) := by
  have e : (decide (97 ≤ x.toNat) && decide (x.toNat ≤ 122)) = false := by
    rw [Bool.and_eq_false_iff, decide_eq_false_iff_not, decide_eq_false_iff_not]; omega
  unfold upc
  rw [e]; rfl
theorem upc_yes {x : UInt8} (h1 : 97 ≤ (x.toNat : Int)) (h2 : (x.toNat : Int) ≤ 122) : bc (upc x) = Value.int .u8 ((x.toNat : Int) - 97 + 65) := by
  have e : (decide (97 ≤ x.toNat) && decide (x.toNat ≤ 122)) = true := by
    rw [Bool.and_eq_true, decide_eq_true_eq, decide_eq_true_eq]; omega
  unfold upc
  rw [e]
  have h3 : ((x - 32).toNat : Int) = (x.toNat : Int) - 97 + 65 := by
    rw [UInt8.toNat_sub]; simp; omega
  rw [if_pos rfl, bc, h3]
theorem PairAt.grown {w w' : World} {p : Nat} {a b : Value} {row : Option Nat} (h : PairAt w p a b) (hg : w.grownBy w' row) (hne : some p ≠ row) (hs : w.heap.size ≤ w'.heap.size) : PairAt w' p a b := by
  obtain ⟨⟨h0, h1⟩, ⟨g0, g1⟩, hl⟩ := h
  exact ⟨⟨grown_cell hg h0 hne, grown_cell hg h1 hne⟩, ⟨grown_frozen hg hl g0 hne, grown_frozen hg hl g1 hne⟩, Nat.lt_of_lt_of_le hl hs⟩
theorem gen2c {R : World → Prop} {w : World} {C1 : Array Value} {t1 : TypeId} (h : ∀ W, Below w.heap.size w W → W.heap.size = w.heap.size + 1 → (∀ a b, C1 = #[a, b] → PairAt W w.heap.size a b) → R W) : R (w.alloc (.cells C1 t1)) := by
  refine gen1 (R := R) fun W h1 h2 h3 h4 => h W h1 h2 fun a b e => ?_
  subst e
  exact ⟨⟨h3 0 _ rfl, h3 1 _ rfl⟩, ⟨h4 0, h4 1⟩, by omega⟩
set_option maxHeartbeats 4000000 in
set_option maxRecDepth 100000 in
theorem raised_any (v : Value) (l : List Idn.Att) (w : World) (hv : EntV w w.heap.size v l) (hl : l.length ≤ 1000) (hn : ∀ a ∈ l, a.name.length ≤ 1000) :
    Calls Tryz.prog 30 #[v] w fun e w' => ∃ v', e = .returned v' ∧ EntV w' w'.heap.size v' (raise l) ∧ Below w.heap.size w w' := by
  obtain ⟨nm, a, rfl, hT⟩ := hv
  obtain ⟨A, ca, rfl, hca⟩ := SlV.shape hT
  go_enter Tryz.func30, Tryz.ntmps30
  go_upto_region 1 with fail
  with_reducible refine gen2g (R := fun W => Code.wp Tryz.prog _ _ _ W) ?_
  intro W hbW hszW hc1 hc2 hf1 hf2
  have e0 : W.cell? ⟨w.heap.size, 0, none⟩ = some (.string nm) := hc1 0 _ rfl
  have e1 : W.cell? ⟨w.heap.size, 1, none⟩ = some (.slice A l.length ca) := hc1 1 _ rfl
  have r0 : W.cell? ⟨w.heap.size + 1, 0, none⟩ = some (.string ⟨#[]⟩) := hc2 0 _ rfl
  have r1 : W.cell? ⟨w.heap.size + 1, 1, none⟩ = some (.slice none 0 0) := hc2 1 _ rfl
  have g0 := hf2 0
  have g1 := hf2 1
  clear hc1 hc2 hf1 hf2
  go_upto_block 0 with fail
  with_reducible refine gen2c (R := fun W => Code.wp Tryz.prog _ _ _ W) ?_
  intro W2 hbW2 hszW2 hO
  have hO2 := hO _ _ rfl
  rw [hszW] at hO2 hbW2
  have HSZ : Hid (W.heap.size = w.heap.size + 2) := hszW
  clear hO hszW hszW2
  go_wp2_with fail
  go_loopw [4] (fun i wr => ∃ (k : Nat) (ps : List (Idn.Att × Value)) (u : Value), k ≤ l.length ∧ i = .int .i64 k ∧ PairAt wr (w.heap.size + 2) (.string nm) u ∧ wr.ownsRow (w.heap.size + 3) 64 2 u ps.length (rowA ps) ∧ ps.length = k ∧ Hid (ps.map (·.1) = raise (l.take k)) ∧ Hid (∀ p ∈ ps, StrsV w w.heap.size p.2 p.1.vals) ∧ Below (w.heap.size + 2) W wr) (fun i _ => l.length - (intOf i).toNat)
  case atStart => exact ⟨0, [], _, Nat.zero_le _, rfl, hO2, World.ownsRow_nil _ _ _ _, rfl, rfl, by intro p hp; simp at hp, hbW2⟩
  case round =>
    obtain ⟨k, ps, u, hk, rfl, hP, hrow, hpl, hps, hvs, hb⟩ := hrel
    have HPL := Lib.hid hpl
    clear hpl
    clear hO2 hbW2
    have hbw := hbW.trans (hb.mono (by omega))
    replace e1 := (hb.cell (p := ⟨w.heap.size, 1, none⟩) (by show w.heap.size < _; omega)).trans e1
    by_cases hlt : k < l.length
    · have hltI : (k : Int) < (l.length : Int) := by omega
      obtain ⟨b, off, va, rfl, hbl, c0, c1, hva⟩ := AttsV.cell hT hlt
      obtain ⟨Av, cv, rfl, hcv⟩ := SlV.shape hva
      have hn1 := hn l[k] (List.getElem_mem hlt)
      have htk := List.take_succ_eq_append_getElem hlt
      have HTK := Lib.hid htk
      have hsz := Idn.size_B l[k].name
      have hLn : L (B l[k].name) = l[k].name := rfl
      have d0 := (hbw.cell (p := ⟨b, off + k * 2, none⟩) hbl).trans c0
      have d1 := (hbw.cell (p := ⟨b, off + k * 2 + 1, none⟩) hbl).trans c1
      clear htk c0 c1
      obtain ⟨x, hx⟩ : ∃ x, x = l[k] := ⟨_, rfl⟩
      rw [← hx] at d0 d1 hva hn1 HTK hsz hLn
      have HX := Lib.hid hx
      clear hx
      obtain ⟨xn, xv⟩ := x
      dsimp only at d0 d1 hva hn1 hsz hLn
      obtain ⟨s, hs⟩ : ∃ s, s = B xn := ⟨_, rfl⟩
      rw [← hs] at d0 hsz hLn
      have HSN : Hid (L s = xn) := hLn
      clear hLn hs
      obtain ⟨wk, hwk⟩ : ∃ wk : World, wk = wr := ⟨_, rfl⟩
      subst hwk
      go_wp2
      go_loopw [5, 6] (fun v i wx => ∃ j : Nat, j ≤ s.size ∧ i = .int .i64 j ∧ wx.ownsRow wk.heap.size 5 1 v ((L s).take j).length ((upper ((L s).take j)).map bc) ∧ Below wk.heap.size wk wx) (fun _ i _ => s.size - (intOf i).toNat)
      case atStart => exact ⟨0, Nat.zero_le _, rfl, World.ownsRow_nil _ _ _ _, Below.refl _ _⟩
      case round =>
        obtain ⟨j, hj, rfl, hown, hbx⟩ := hrel
        have hlen : ((L s).take j).length = j := by rw [List.length_take]; have := size_L s; omega
        rw [hlen] at hown
        have E1 := cell_later hbx e1
        have D0 := cell_later hbx d0
        have D1 := cell_later hbx d1
        by_cases hjl : j < s.size
        · have ht : upper ((L s).take (j + 1)) = upper ((L s).take j) ++ [upc s[j]] := by rw [take_L s j hjl]; simp [upper]
          have hlen' : ((L s).take (j + 1)).length = j + 1 := by rw [List.length_take]; have := size_L s; omega
          have HT := Lib.hid ht
          have HL := Lib.hid hlen'
          have hj1000 : j ≤ 1000 := by omega
          have hjI : (j : Int) < (s.size : Int) := by omega
          clear ht hlen hlen' hsz
          by_cases h97 : (97 : Int) ≤ (s[j].toNat : Int)
          · by_cases h122 : (s[j].toNat : Int) ≤ 122
            · have hup : Hid (bc (upc s[j]) = Value.int .u8 ((s[j].toNat : Int) - 97 + 65)) := upc_yes h97 h122
              go_wp2_with (at_builtin; refine wpList_push wr rfl _ _ 88 rfl wk.heap.size 5 (.int .u8 0) 1 1 Tryz.underlying88 info_u8 rfl (by decide) _ j _ hown rfl _ rfl rfl (by intro u hu; simp at hu; subst hu; rfl) (by omega) hbx.size ?_ rfl)
              intro v' w1' hown' _ _ hb' _
              clear hown
              go_wp2
              go_roundw
              case rel => exact ⟨j + 1, by omega, by go_num, by rw [HL.out, HT.out, List.map_append]; simp only [List.map_cons, List.map_nil]; rw [hup.out]; exact hown', hbx.trans hb'⟩
              case measure => simp [intOf]; omega
            · have hup : Hid (bc (upc s[j]) = Value.int .u8 (s[j].toNat : Int)) := upc_no (by omega)
              go_wp2_with (at_builtin; refine wpList_push wr rfl _ _ 88 rfl wk.heap.size 5 (.int .u8 0) 1 1 Tryz.underlying88 info_u8 rfl (by decide) _ j _ hown rfl [.int .u8 (s[j].toNat : Int)] rfl rfl (by intro u hu; simp at hu; subst hu; rfl) (by omega) hbx.size ?_ rfl)
              intro v' w1' hown' _ _ hb' _
              clear hown
              go_wp2
              go_roundw
              case rel => exact ⟨j + 1, by omega, by go_num, by rw [HL.out, HT.out, List.map_append]; simp only [List.map_cons, List.map_nil]; rw [hup.out]; exact hown', hbx.trans hb'⟩
              case measure => simp [intOf]; omega
          · have hup : Hid (bc (upc s[j]) = Value.int .u8 (s[j].toNat : Int)) := upc_no (by omega)
            go_wp2_with (at_builtin; refine wpList_push wr rfl _ _ 88 rfl wk.heap.size 5 (.int .u8 0) 1 1 Tryz.underlying88 info_u8 rfl (by decide) _ j _ hown rfl [.int .u8 (s[j].toNat : Int)] rfl rfl (by intro u hu; simp at hu; subst hu; rfl) (by omega) hbx.size ?_ rfl)
            intro v' w1' hown' _ _ hb' _
            clear hown
            go_wp2
            go_roundw
            case rel => exact ⟨j + 1, by omega, by go_num, by rw [HL.out, HT.out, List.map_append]; simp only [List.map_cons, List.map_nil]; rw [hup.out]; exact hown', hbx.trans hb'⟩
            case measure => simp [intOf]; omega
        · have hjI : ¬ (j : Int) < (s.size : Int) := by omega
          have e9 : (L s).take j = L s := List.take_of_length_le (by have := size_L s; omega)
          rw [e9] at hown
          have hjl2 : j = (upper (L s)).length := by rw [← e9]; unfold upper; rw [List.length_map]; exact hlen.symm
          have hown2 : wr.drew.ownsRow wk.heap.size 5 1 u5 (upper (L s)).length ((upper (L s)).map bc) := by rw [← hjl2]; exact hown
          obtain ⟨A8, c8, hu8⟩ := own_shape hown2
          subst hu8
          have hcv := run_str (P := Tryz.prog) (w := wr.drew) 88 9 5 Tryz.underlying88 Tryz.underlying9 Tryz.underlying5 wk.heap.size _ _ hown2
          clear hown e9 hlen hjl2 hsz
          have hP2 : PairAt wr.drew (w.heap.size + 2) (.string nm) u := PairAt.keep hP hbx.drew hP.2.2
          have hrow2 : wr.drew.ownsRow (w.heap.size + 3) 64 2 u ps.length (rowA ps) := own_below hrow hbx.drew
          have hb2 : Below (w.heap.size + 2) W wr.drew := (hb.trans (hbx.mono (by have := HSZ.out; have := hb.size; omega))).drew
          have E1r : wr.drew.cell? ⟨w.heap.size, 1, none⟩ = some (.slice (some ⟨b, off, none⟩) l.length ca) := E1
          have D1r : wr.drew.cell? ⟨b, off + k * 2 + 1, none⟩ = some (.slice Av xv.length cv) := D1
          have hOs : w.heap.size + 2 < wr.drew.heap.size := hP2.2.2
          have hrl : (ps.length + 1) * 41 ≤ 140737488355328 := by have := HPL.out; omega
          have hbs : w.heap.size + 3 ≤ wr.drew.heap.size := hOs
          have hneO : some (w.heap.size + 2) ≠ u.ownBlock := fun e => by have := (hrow2.lt _ e.symm).1; omega
          obtain ⟨⟨z0, z1⟩, ⟨y0, y1⟩, _⟩ := id hP2
          obtain ⟨Au, cu, hu⟩ := own_shape hrow2
          subst hu
          have z1a : (wr.alloc (.cells #[.string (B (upper (L s))), .slice Av xv.length cv] 64)).cell? ⟨w.heap.size + 2, 1, none⟩ = some (.slice Au ps.length cu) := cell_later ((Below.refl wr.heap.size wr).alloc (Nat.le_refl _) _) z1
          clear hP hrow hb e1 d0 d1 hbx
          go_wp2
          clear E1 D0 D1
          go_region_law (refine step_push rfl _ _ 36 rfl (w.heap.size + 3) 64 (.agg #[.string ⟨#[]⟩, .slice none 0 0]) 2 40 Tryz.underlying36 info_attr rfl (by decide) _ _ _ hrow2 rfl [.string (B (upper (L s))), .slice Av xv.length cv] rfl rfl (by intro u hu; simp at hu; rcases hu with rfl | rfl <;> rfl) hrl hbs ?_ rfl; intro v' w' hown' hg' hat'; have hP3 := PairAt.grown hP2 hg' hneO hg'.size; obtain ⟨⟨t0, t1⟩, ⟨s0, s1⟩, _⟩ := id hP3; obtain ⟨A6, c6, hv6⟩ := own_shape hown'; subst hv6)
          all_goals
            have hneP : (Value.slice A6 (ps.length + 1) c6).ownBlock ≠ some (w.heap.size + 2) := fun e => absurd (hown'.lt _ e).1 (by omega)
            have hP4 := PairAt.put hP3 (.slice A6 (ps.length + 1) c6)
            have ho4 := ownsRow_setCell_other (a := ⟨w.heap.size + 2, 1, none⟩) hown' hneP (.slice A6 (ps.length + 1) c6)
            have hb4 : Below (w.heap.size + 2) W (w'.setCell ⟨w.heap.size + 2, 1, none⟩ (.slice A6 (ps.length + 1) c6)) := (hb2.grown hg' (Nat.le_of_lt hOs) (fun g hg => Nat.le_of_succ_le (hrow2.lt g hg).1)).setCell (Nat.le_refl _) _
            go_wp2_with fail
            go_roundw
            case rel => exact ⟨k + 1, ps ++ [(⟨upper xn, xv⟩, .slice Av xv.length cv)], _, by omega, by go_num, hP4, by
              rw [List.length_append, rowA_snoc, ← HSN.out]; exact ho4, by simp; exact HPL.out, by
              show _ = _
              rw [HTK.out, List.map_append, hps.out]
              unfold raise
              simp, by
              intro p hp
              rcases List.mem_append.1 hp with hp | hp
              · exact hvs.out p hp
              · simp at hp; subst hp; exact hva, hb4⟩
            case measure => simp [intOf]; omega
    · have hltI : ¬ (k : Int) < (l.length : Int) := by omega
      have e9 : l.take k = l := List.take_of_length_le (by omega)
      have HF : Hid (ps.map (·.1) = raise l) := by show _ = _; rw [hps.out, e9]
      replace r0 := (hb.cell (p := ⟨w.heap.size + 1, 0, none⟩) (by show w.heap.size + 1 < _; omega)).trans r0
      replace r1 := (hb.cell (p := ⟨w.heap.size + 1, 1, none⟩) (by show w.heap.size + 1 < _; omega)).trans r1
      replace g0 := (hb.frozen (p := ⟨w.heap.size + 1, 0, none⟩) (by show w.heap.size + 1 < _; omega)).trans g0
      replace g1 := (hb.frozen (p := ⟨w.heap.size + 1, 1, none⟩) (by show w.heap.size + 1 < _; omega)).trans g1
      obtain ⟨⟨z0, z1⟩, _, hOs⟩ := hP
      obtain ⟨Au, cu, hu⟩ := own_shape hrow
      subst hu
      clear hps e9
      go_wp2
      have hne9 : (Value.slice Au ps.length cu).ownBlock ≠ some (w.heap.size + 1) := fun e => by have := (hrow.lt _ e).1; have := HSZ.out; omega
      have hrow3 := ownsRow_setCell_other (a := ⟨w.heap.size + 1, 1, none⟩) (ownsRow_setCell_other (a := ⟨w.heap.size + 1, 0, none⟩) hrow hne9 (.string nm)) hne9 (.slice Au ps.length cu)
      have hbf : Below w.heap.size w ((wr.setCell ⟨w.heap.size + 1, 0, none⟩ (.string nm)).setCell ⟨w.heap.size + 1, 1, none⟩ (.slice Au ps.length cu)) := (hbw.setCell (by simp) _).setCell (by simp) _
      refine bodyPost_ret (v := .agg #[.string nm, .slice Au ps.length cu]) (by simp [results, Tryz.results30, go_sem, r0, r1, g0, g1]) rfl ⟨_, rfl, ⟨nm, _, rfl, row_atts hrow3 (fun p hp => ?_) HF.out⟩, hbf⟩
      exact SlV.mono (SlV.keep (hvs.out p hp) hbf) hbf.size
end Go.Proofs.YtnikolglippfmaaGreatDoor
/- identityref02: Int. -/
namespace Go.Proofs.YtnikolglippfmaaGreatDoor
open Go.RowKit Go.Sort
open Idn (L B Bs drop_L take_L size_L)
theorem ddig_step {u : Nat} (h : u ≠ 0) : ∃ x : UInt8, x.toNat = 48 + u % 10 ∧ Lib.decDigits u = (if u / 10 = 0 then [] else Lib.decDigits (u / 10)) ++ [x] := by
  refine ⟨UInt8.ofNat (48 + u % 10), by simp; omega, ?_⟩
  by_cases h1 : u < 10
  · rw [if_pos (by omega), Lib.decDigits_one h1, Nat.mod_eq_of_lt h1]; rfl
  · rw [if_neg (by omega), Lib.decDigits, dif_neg h1]
theorem ddig_len {u k : Nat} (h : u < 10 ^ (k + 1)) : (Lib.decDigits u).length ≤ k + 1 := by
  induction k generalizing u with
  | zero => rw [Lib.decDigits_one (by omega)]; simp
  | succ k ih =>
    by_cases h1 : u < 10
    · rw [Lib.decDigits_one h1]; simp
    · rw [Lib.decDigits, dif_neg h1, List.length_append]
      have := ih (u := u / 10) (by rw [Nat.pow_succ] at h; omega)
      simp only [List.length_cons, List.length_nil]; omega
theorem run_one {P : Program} {w : World} (src dst e : TypeId) (hs : P.underlying src = some (.slice e)) (hd : P.underlying dst = some .string) (he : P.underlying e = some (.int .u8)) (x : UInt8) :
    (convert src dst (.slice (some { block := w.heap.size, off := 0 }) 1 1)).run P (w.alloc (.cells #[.int .u8 (x.toNat : Int)] e)) = .ok (.string (B [x])) (w.alloc (.cells #[.int .u8 (x.toNat : Int)] e)) := by
  have h := run_convert_bytes_arg (P := P) (w.alloc (.cells #[.int .u8 (x.toNat : Int)] e)) src e hs he w.heap.size 0 1 1 [(x.toNat : Int)] rfl (fun i hi => by
    have : i = 0 := by simpa using hi
    subst this
    exact World.cell?_alloc_mark w #[.int .u8 (x.toNat : Int)] e (0, 0) 0) dst hd
  rw [h]
  congr 3
  show (⟨_⟩ : ByteArray) = _
  simp [B]
/-- what Int holds: the digits already written, the number still to be written -/
def IntInv (n m : Int) (out : Bs) : Prop := Lib.decDigits n.natAbs = (if m = 0 then [] else Lib.decDigits m.natAbs) ++ out ∧ out.length ≤ 20 ∧ m.natAbs ≤ 9223372036854775808
set_option maxHeartbeats 2000000 in
set_option maxRecDepth 100000 in
theorem r_Int_any (n : Int) (h1 : -9223372036854775808 ≤ n) (h2 : n ≤ 9223372036854775807) (w : World) : Calls Tryz.prog 79 #[.int .i64 n] w fun e w' => e = .returned (.string (B (Lib.itoa n))) ∧ Below w.heap.size w w' := by
  generalize hr : Lib.itoa n = r
  have HR : Hid (r = Lib.itoa n) := hr.symm
  clear hr
  by_cases h0 : n = 0
  · have HF : Hid (r = [48]) := by show _ = _; rw [HR.out, h0]; decide +kernel
    have e0 : (n == 0) = true := by rw [beq_iff_eq]; exact h0
    clear HR h0
    go_enter Tryz.func79, Tryz.ntmps79
    go_wp2
    go_ret
    exact ⟨by rw [HF.out]; rfl, Below.refl _ _⟩
  · have e0 : (n == 0) = false := by rw [beq_eq_false_iff_ne]; exact h0
    have hlen := ddig_len (u := n.natAbs) (k := 18) (by omega)
    go_enter Tryz.func79, Tryz.ntmps79
    go_wp2
    go_loopw [3, 4] (fun o i wr => ∃ (m : Int) (out : Bs), i = .int .i64 m ∧ o = .string (B out) ∧ Below w.heap.size w wr ∧ -9223372036854775808 ≤ m ∧ m ≤ 9223372036854775807 ∧ Hid (IntInv n m out)) (fun _ i _ => (intOf i).natAbs)
    case atStart => exact ⟨n, [], rfl, rfl, Below.refl _ _, h1, h2, by show IntInv _ _ _; exact ⟨by rw [if_neg h0]; simp, by simp, by omega⟩⟩
    case round =>
      obtain ⟨m, out, rfl, rfl, hb, m1, m2, hI⟩ := hrel
      by_cases hm : m = 0
      · have em : (m == 0) = true := by rw [beq_iff_eq]; exact hm
        have hfin : Lib.decDigits n.natAbs = out := by have := hI.out.1; rw [if_pos hm] at this; simpa using this
        have hsz : (B out).size ≤ 1000 := by rw [Idn.size_B]; have := hI.out.2.1; omega
        clear hI hm hlen
        rcases Int.lt_or_le n 0 with hn | hn
        · have HF : Hid (r = 45 :: out) := by show _ = _; rw [HR.out, ← hfin]; unfold Lib.itoa; rw [if_pos hn]
          clear hfin HR
          go_wp2
          go_ret
          exact ⟨by rw [HF.out, show (45 :: out) = [45] ++ out from rfl, ← B_app] <;> rfl, hb⟩
        · have HF : Hid (r = out) := by show _ = _; rw [HR.out, ← hfin]; unfold Lib.itoa; rw [if_neg (by omega), show n.toNat = n.natAbs by omega]
          have hnI : ¬ n < 0 := by omega
          clear hfin HR
          go_wp2
          go_ret
          exact ⟨by rw [HF.out] <;> rfl, hb⟩
      · have em : (m == 0) = false := by rw [beq_eq_false_iff_ne]; exact hm
        have hsz : (B out).size ≤ 1000 := by rw [Idn.size_B]; have := hI.out.2.1; omega
        have hcn : (Int.tmod m 10).natAbs = m.natAbs % 10 := by rw [Int.natAbs_tmod]; rfl
        have hdn : (Int.tdiv m 10).natAbs = m.natAbs / 10 := by rw [Int.natAbs_tdiv]; rfl
        obtain ⟨x, hx, hstep⟩ := ddig_step (u := m.natAbs) (by omega)
        obtain ⟨c, hc⟩ : ∃ c : Nat, c = m.natAbs % 10 := ⟨_, rfl⟩
        rw [← hc] at hcn hx
        have hc9 : c ≤ 9 := by omega
        have hxI : (x.toNat : Int) = 48 + (c : Int) := by omega
        have hone := run_one (P := Tryz.prog) (w := wr) 88 9 5 Tryz.underlying88 Tryz.underlying9 Tryz.underlying5 x
        rw [hxI] at hone
        have hx1 : (B [x]).size = 1 := rfl
        have hI2 : Hid (IntInv n (Int.tdiv m 10) (x :: out)) := by
          show IntInv _ _ _
          obtain ⟨i1, i2, i3⟩ := hI.out
          have e : Lib.decDigits n.natAbs = (if Int.tdiv m 10 = 0 then [] else Lib.decDigits (Int.tdiv m 10).natAbs) ++ x :: out := by
            rw [i1, if_neg hm, hstep, hdn, List.append_assoc]
            by_cases h10 : m.natAbs / 10 = 0
            · rw [if_pos h10, if_pos (by omega)]; rfl
            · rw [if_neg h10, if_neg (by omega)]; rfl
          refine ⟨e, ?_, by omega⟩
          have := congrArg List.length e
          rw [List.length_append] at this
          omega
        have hmn : Hid (Int.natAbs (Int.tdiv m 10) < m.natAbs) := by show _ < _; omega
        have hm1 : -9223372036854775808 ≤ Int.tdiv m 10 := by omega
        have hm2 : Int.tdiv m 10 ≤ 9223372036854775807 := by omega
        have q4 : IntKind.i64.wrap (Int.tdiv m 10) = Int.tdiv m 10 := IntWalk.i64_in _ ⟨hm1, hm2⟩
        have q5 : IntKind.i64.wrap (48 + (c : Int)) = 48 + (c : Int) := IntWalk.i64_in _ ⟨by omega, by omega⟩
        have q6 : (48 + (c : Int)) % 256 = 48 + (c : Int) := by omega
        by_cases hd : Int.tmod m 10 < 0
        · have q0 : IntKind.i64.wrap (-(Int.tmod m 10)) = c := by rw [show -(Int.tmod m 10) = (c : Int) by omega]; exact IntWalk.i64_in _ ⟨by omega, by omega⟩
          clear hI hm hlen hcn hdn hstep hc hxI hx
          go_wp2
          go_roundw
          case rel => exact ⟨Int.tdiv m 10, x :: out, rfl, by rw [show x :: out = [x] ++ out from rfl, B_app], hb.alloc (by have := hb.size; omega) _, hm1, hm2, hI2⟩
          case measure => first | exact hmn.out | (simp [intOf]; omega)
        · have q0 : Int.tmod m 10 = c := by omega
          clear hI hm hlen hcn hdn hstep hc hxI hx
          go_wp2
          go_roundw
          case rel => exact ⟨Int.tdiv m 10, x :: out, rfl, by rw [show x :: out = [x] ++ out from rfl, B_app], hb.alloc (by have := hb.size; omega) _, hm1, hm2, hI2⟩
          case measure => first | exact hmn.out | (simp [intOf]; omega)
end Go.Proofs.YtnikolglippfmaaGreatDoor
