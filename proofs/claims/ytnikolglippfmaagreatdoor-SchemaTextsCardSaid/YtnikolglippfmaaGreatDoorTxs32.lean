/- Part 32 of the proof that what Parse reads of a class's description is what the text says, and what it writes Parse reads back: the package variables hold what the program lays; nothing else is asked. -/
import Derived.Test.YtnikolglippfmaaGreatDoorTxs16
import Derived.Test.YtnikolglippfmaaGreatDoorTxs18
import Derived.Test.YtnikolglippfmaaGreatDoorTxs23
import Derived.Test.YtnikolglippfmaaGreatDoorTxs31
/- schema: Parse at the chapter's example (second part). -/
namespace Go.Proofs.YtnikolglippfmaaGreatDoor
open Go.RowKit Go.Sort
open Idn (L B Bs drop_L take_L size_L)

def sText : ByteArray := ⟨#[116, 121, 112, 101, 32, 97, 103, 101, 32, 105, 110, 116, 10]⟩
theorem cutText : Lib.cut sText.data.toList [10] = (sLine.data.toList, [], true) := by decide
theorem chk_age : Idn.sCheck ⟨[ageT], []⟩ = 6 := by decide
set_option maxHeartbeats 1000000 in
set_option maxRecDepth 100000 in
theorem parse_age (w : World) (hE : Env w) :
    Calls Tryz.prog 19 #[.string sText] w fun e w' => e = .returned (.tuple #[.agg #[.slice none 0 0, .slice none 0 0], .int .i64 0, .int .i64 6]) ∧ Below w.heap.size w w' := by
  have hCut := fun W (h : Env W) => let ⟨⟨m, h1⟩, _⟩ := h; Tryz.strings_Cut sText ⟨#[10]⟩ m W (by decide) h1
  have e1 : (⟨#[10]⟩ : ByteArray).data.toList = [10] := rfl
  rw [e1, cutText] at hCut
  have e2 : (⟨(sLine.data.toList).toArray⟩ : ByteArray) = sLine := rfl
  simp only [e2] at hCut
  have hsz : sText.size = 13 := rfl
  have hsz' : (sText.size : Int) ≤ 4096 := by rw [hsz]; decide
  have hne : sText.toList.isEmpty = false := by rw [toList_L]; decide
  have hRd := fun W hW => read_age W hW
  clear e1 e2 hsz
  generalize sText = xs at *
  generalize sLine = xl at *
  go_enter Tryz.func19, Tryz.ntmps19
  go_wp2
  with_reducible refine gen2g (R := fun W => Code.wp Tryz.prog _ _ _ W) ?_
  intro W hbW hszW hc1 hc2 hf1 hf2
  have r0 : W.cell? ⟨w.heap.size, 0, none⟩ = some (.slice none 0 0) := hc1 0 _ rfl
  have r1 : W.cell? ⟨w.heap.size, 1, none⟩ = some (.slice none 0 0) := hc1 1 _ rfl
  have b0 : W.cell? ⟨w.heap.size + 1, 0, none⟩ = some (.slice none 0 0) := hc2 0 _ rfl
  have b1 : W.cell? ⟨w.heap.size + 1, 1, none⟩ = some (.slice none 0 0) := hc2 1 _ rfl
  have f0 := hf1 0
  have f1 := hf1 1
  have g0 := hf2 0
  have g1 := hf2 1
  clear hc1 hc2 hf1 hf2 hsz'
  have hl1 : w.heap.size < W.heap.size := by omega
  have hl2 : w.heap.size + 1 < W.heap.size := by omega
  clear hszW
  go_loopw [6, 7] (fun r n wr => (r = .string xs ∧ n = .int .i64 1 ∧ wr = W) ∨ (r = .string ⟨#[]⟩ ∧ n = .int .i64 2 ∧ ∃ A c, wr.cell? ⟨w.heap.size + 1, 0, none⟩ = some (.slice A 1 c) ∧ wr.cell? ⟨w.heap.size + 1, 1, none⟩ = some (.slice none 0 0) ∧ wr.ownsRow W.heap.size 58 3 (.slice A 1 c) 1 [.string sAge, .int .i64 3, .bool false] ∧
      wr.cell? ⟨w.heap.size, 0, none⟩ = some (.slice none 0 0) ∧ wr.cell? ⟨w.heap.size, 1, none⟩ = some (.slice none 0 0) ∧ wr.frozen? ⟨w.heap.size, 0, none⟩ = false ∧ wr.frozen? ⟨w.heap.size, 1, none⟩ = false ∧ Below w.heap.size w wr ∧ w.heap.size + 1 < wr.heap.size)) (fun _ n _ => (5 - intOf n).toNat)
  case atStart => exact .inl ⟨rfl, rfl, rfl⟩
  case round =>
    rcases hrel with ⟨rfl, rfl, rfl⟩ | ⟨rfl, rfl, A, c, c0, c1, hT, q0, q1, z0, z1, hb, hlt⟩
    · go_wp2_with fail
      refine (hCut _ (hE.keep hbW)).mono ?_
      rintro e w1 ⟨rfl, n, rfl⟩
      have hb1 : Below wr.heap.size wr (wr.drewN n) := below_drewN (Below.refl _ _) n
      generalize wr.drewN n = w1 at *
      replace b0 := cell_later hb1 b0
      replace b1 := cell_later hb1 b1
      have hR := hRd w1 (hE.keep (hbW.trans (hb1.mono hbW.size)))
      clear hRd hCut
      go_wp2_with fail
      refine hR.mono ?_
      rintro e w2 ⟨v, rfl, hT, hb2⟩
      clear hR
      obtain ⟨A, c, hu⟩ := own_shape hT
      subst hu
      have hb12 := hb1.trans (hb2.mono hb1.size)
      replace b0 := cell_later hb2 b0
      replace b1 := cell_later hb2 b1
      replace r0 := cell_later hb12 r0
      replace r1 := cell_later hb12 r1
      replace f0 := frozen_later hb12 f0 hl1
      replace f1 := frozen_later hb12 f1 hl1
      replace g0 := frozen_later hb12 g0 hl2
      replace g1 := frozen_later hb12 g1 hl2
      have hl3 : w.heap.size < w2.heap.size := by have := hb12.size; omega
      have hl4 : w.heap.size + 1 < w2.heap.size := by have := hb12.size; omega
      have hbw2 := hbW.trans (hb12.mono hbW.size)
      have hT' := own_base hT hb1.size
      clear hT hb1 hb2
      have ba := hb12.alloc hb12.size (.cells #[.slice A 1 c, .slice none 0 0] 25)
      have hbwa := hbW.trans (ba.mono hbW.size)
      go_wp2
      go_roundw
      case rel =>
        have hne01 : w.heap.size + 1 ≠ w.heap.size := by omega
        have hne2 : w2.heap.size ≠ w.heap.size := by omega
        have hne3 : w2.heap.size ≠ w.heap.size + 1 := by omega
        refine .inr ⟨rfl, rfl, A, c, ?_, ?_, ?_, ?_, ?_, ?_, ?_, ?_, ?_⟩
        · go_simp
        · go_simp
        · refine own_below (own_above hT' fun k hk => ?_) ((Below.refl _ _).alloc (Nat.le_refl _) (.cells #[.slice A 1 c, .slice none 0 0] 25))
          rw [Below.heap_setCell _ _ _ _ (by show k ≠ w.heap.size + 1; omega), Below.heap_setCell _ _ _ _ (by show k ≠ w.heap.size + 1; omega)]
        · go_simp
        · go_simp
        · go_simp
        · go_simp
        · exact ((hbw2.setCell (p := ⟨w.heap.size + 1, 0, none⟩) (Nat.le_succ _) _).setCell (p := ⟨w.heap.size + 1, 1, none⟩) (Nat.le_succ _) _).alloc (by simp; omega) _
        · simp; omega
      case measure => simp [intOf]
    · have hCk := schCheck_any (.agg #[.slice A 1 c, .slice none 0 0]) ⟨[ageT], []⟩ wr ⟨_, _, rfl, age_own hT, SlV.nil _ _ _ _⟩ ⟨⟨by simp, by simp [ageT]⟩, ⟨by simp, by simp⟩⟩
      rw [chk_age] at hCk
      have hl3 : w.heap.size < wr.heap.size := by omega
      clear hCut hRd hE
      go_wp2_with fail
      refine hCk.mono ?_
      rintro e w5 ⟨rfl, hb5⟩
      replace q0 := cell_later hb5 q0
      replace q1 := cell_later hb5 q1
      replace z0 := frozen_later hb5 z0 hl3
      replace z1 := frozen_later hb5 z1 hl3
      go_wp2
      exact bodyPost_ret (v := .tuple #[.agg #[.slice none 0 0, .slice none 0 0], .int .i64 0, .int .i64 6]) (by simp [results, Tryz.results19, go_sem, q0, q1, z0, z1]) rfl ⟨rfl, ((hb.trans (hb5.mono (by omega))).setCell (by simp) _).setCell (by simp) _⟩
end Go.Proofs.YtnikolglippfmaaGreatDoor
/- schema: readType, readNames, readClass. -/
namespace Go.Proofs.YtnikolglippfmaaGreatDoor
open Go.RowKit Go.Sort
open Idn (L B Bs drop_L take_L size_L)
def wordIx (s : Bs) : Option Int := if Idn.word 1 = s then some 1 else if Idn.word 2 = s then some 2 else if Idn.word 3 = s then some 3 else if Idn.word 4 = s then some 4 else if Idn.word 5 = s then some 5 else none
def isSingle (ws : List Bs) : Bool := decide (ws.length = 4) && decide (ws[3]? = some [115, 105, 110, 103, 108, 101])
/-- a type, and whether the words are one -/
def rdType (ws : List Bs) : Idn.AT × Bool :=
  if (decide (ws.length ≠ 3) && !isSingle ws) || !Idn.name (ws.getD 1 []) then (⟨[], 0, false⟩, false)
  else match wordIx (ws.getD 2 []) with
    | none => (⟨[], 0, false⟩, false)
    | some x => (⟨ws.getD 1 [], x, isSingle ws⟩, true)
theorem wordIx_some {s : Bs} {k : Int} (h1 : 1 ≤ k) (h5 : k ≤ 5) (hno : ∀ j : Int, 1 ≤ j → j < k → Idn.word j ≠ s) (hk : Idn.word k = s) : wordIx s = some k := by
  have : k = 1 ∨ k = 2 ∨ k = 3 ∨ k = 4 ∨ k = 5 := by omega
  unfold wordIx
  rcases this with rfl | rfl | rfl | rfl | rfl
  · rw [if_pos hk]
  · rw [if_neg (hno 1 (by omega) (by omega)), if_pos hk]
  · rw [if_neg (hno 1 (by omega) (by omega)), if_neg (hno 2 (by omega) (by omega)), if_pos hk]
  · rw [if_neg (hno 1 (by omega) (by omega)), if_neg (hno 2 (by omega) (by omega)), if_neg (hno 3 (by omega) (by omega)), if_pos hk]
  · rw [if_neg (hno 1 (by omega) (by omega)), if_neg (hno 2 (by omega) (by omega)), if_neg (hno 3 (by omega) (by omega)), if_neg (hno 4 (by omega) (by omega)), if_pos hk]
theorem wordIx_none {s : Bs} (hno : ∀ j : Int, 1 ≤ j → j < 6 → Idn.word j ≠ s) : wordIx s = none := by
  unfold wordIx
  rw [if_neg (hno 1 (by omega) (by omega)), if_neg (hno 2 (by omega) (by omega)), if_neg (hno 3 (by omega) (by omega)), if_neg (hno 4 (by omega) (by omega)), if_neg (hno 5 (by omega) (by omega))]
theorem strs_at {w : World} {hi : Nat} {A : Option Addr} {n c : Nat} {l : List Bs} (h : StrsV w hi (.slice A n c) l) {k : Nat} {x : Bs} (hk : l[k]? = some x) :
    ∃ b off, A = some ⟨b, off, none⟩ ∧ b < hi ∧ w.cell? ⟨b, off + k, none⟩ = some (.string (B x)) := by
  obtain ⟨hl, rfl⟩ := List.getElem?_eq_some_iff.1 hk
  exact StrsV.cell h hl
set_option maxHeartbeats 2000000 in
set_option maxRecDepth 100000 in
/-- readType behind its tests -/
theorem readType_loop (v : Value) (ws : List Bs) (sg : Bool) (w : World) (hv : StrsV w w.heap.size v ws) (hl : (ws.length = 3 ∧ sg = false) ∨ (ws.length = 4 ∧ sg = true)) (hsg : isSingle ws = sg) (hws : ∀ x ∈ ws, x.length ≤ 1000000000) (hnm : Idn.name (ws.getD 1 []) = true) :
    Calls Tryz.prog 113 #[v] w fun e w' => e = .returned (.tuple #[tyV (rdType ws).1, .bool (rdType ws).2]) ∧ Below w.heap.size w w' := by
  have hlen : 3 ≤ ws.length := by omega
  obtain ⟨A, c, rfl, hc⟩ := SlV.shape hv
  have x1h : ws[1]? = some (ws.getD 1 []) := by simp [List.getD, show 1 < ws.length by omega]
  have x2h : ws[2]? = some (ws.getD 2 []) := by simp [List.getD, show 2 < ws.length by omega]
  have hm1 := hws _ (List.mem_of_getElem? x1h)
  have HR : Hid (rdType ws = match wordIx (ws.getD 2 []) with | none => (⟨[], 0, false⟩, false) | some x => (⟨ws.getD 1 [], x, sg⟩, true)) := by
    show _ = _
    unfold rdType
    rw [hnm, hsg]
    have : (decide (ws.length ≠ 3) && !sg) = false := by
      rcases hl with ⟨h, h2⟩ | ⟨h, h2⟩
      · simp [h]
      · simp [h2]
    rw [this]; rfl
  generalize rdType ws = r at *
  generalize ws.getD 1 [] = x1 at *
  generalize ws.getD 2 [] = x2 at *
  obtain ⟨b, off, rfl, hbl, c1⟩ := strs_at hv x1h
  obtain ⟨b', off', hA', _, c2⟩ := strs_at hv x2h
  injection hA' with hA'
  injection hA' with e1 e2
  subst e1 e2
  have hN := fun W => name_any (B x1) W (by rw [Idn.size_B]; omega)
  rw [Idn.L_B, hnm] at hN
  have c3 : sg = true → w.cell? ⟨b, off + 3, none⟩ = some (.string (B [115, 105, 110, 103, 108, 101])) := fun h => by
    rw [h] at hsg
    unfold isSingle at hsg
    simp only [Bool.and_eq_true, decide_eq_true_eq] at hsg
    obtain ⟨b3, off3, hA3, _, c3⟩ := strs_at hv hsg.2
    injection hA3 with hA3
    injection hA3 with e1 e2
    subst e1 e2
    exact c3
  have hsl : (B [115, 105, 110, 103, 108, 101]).toList = [115, 105, 110, 103, 108, 101] := by rw [toList_L, Idn.L_B]
  clear hsg hnm hws hv x1h x2h
  have hlI : (ws.length : Int) = 3 ∨ (ws.length : Int) = 4 := by omega
  generalize ws.length = n at *
  rcases hl with ⟨h3, rfl⟩ | ⟨h4, rfl⟩
  · subst h3
    clear c3 hlI
    go_enter Tryz.func113, Tryz.ntmps113
    go_wp2_with (go_at_call 92; refine (hN _).mono ?_; rintro e w' ⟨rfl, rfl⟩)
    with_reducible refine gen1 (R := fun W => Code.wp Tryz.prog _ _ _ W) ?_
    intro W hbW hszW hc1 hf1
    have r0 := hc1 0 _ rfl
    have r1 := hc1 1 _ rfl
    have r2 := hc1 2 _ rfl
    have f0 := hf1 0
    have f1 := hf1 1
    have f2 := hf1 2
    clear hc1 hf1
    have hlt : w.heap.size < W.heap.size := by omega
    clear hszW
    have n1 := cell_later hbW c1
    have n2 := cell_later hbW c2
    clear c1 c2 hN
    go_loopw [5] (fun i wr => ∃ k : Int, 1 ≤ k ∧ k ≤ 6 ∧ i = .int .i64 k ∧ Below W.heap.size W wr ∧ Hid (∀ j : Int, 1 ≤ j → j < k → Idn.word j ≠ x2)) (fun i _ => (10 - intOf i).toNat)
    case atStart => exact ⟨1, by omega, by omega, rfl, Below.refl _ _, fun j h1 h2 => by omega⟩
    case round =>
      obtain ⟨k, hk1, hk6, rfl, hb, hno⟩ := hrel
      have m1 := cell_later hb n1
      have m2 := cell_later hb n2
      have k2 := cell_regrown m2
      by_cases hk5 : k ≤ 5
      · have hq := cq0 (W := wr) (fun W => word_any k W)
        by_cases hw : Idn.word k = x2
        · have HG : Hid (r = (⟨x1, k, false⟩, true)) := by show _ = _; rw [HR.out, wordIx_some hk1 hk5 hno.out hw]
          have tk : ((B (Idn.word k)).toList == (B x2).toList) = true := str_is (by rw [Idn.L_B, Idn.L_B, hw])
          clear hw hno HR
          generalize B (Idn.word k) = bw at *
          go_wp2
          refine wp_region_quiet_below (by kernel_rfl) (by kernel_rfl) ?_
          repeat (first | go_big_quiet_step ((go_at_call 107; exact hq _ _)) | quiet_step ((go_at_call 107; exact hq _ _)))
          refine wpQuiet_nil ?_
          intro _ hw'
          obtain ⟨⟨dq, osq⟩, hw''⟩ := hw'
          subst hw''
          have hb2 := below_regrown wr dq osq
          generalize grow (redrawn wr dq) osq = W2 at hb2 ⊢
          have hbt := hb.trans (hb2.mono hb.size)
          replace m1 := cell_later hb2 m1
          have R0 := cell_later hbt r0
          have R1 := cell_later hbt r1
          have R2 := cell_later hbt r2
          have G0 := (hbt.frozen (p := ⟨w.heap.size, 0, none⟩) hlt).trans f0
          have G1 := (hbt.frozen (p := ⟨w.heap.size, 1, none⟩) hlt).trans f1
          have G2 := (hbt.frozen (p := ⟨w.heap.size, 2, none⟩) hlt).trans f2
          clear hq k2 m2
          go_wp2
          exact bodyPost_ret (v := .tuple #[.agg #[.string (B x1), .int .i64 k, .bool false], .bool true]) (by simp [results, Tryz.results113, go_sem, R0, R1, R2, G0, G1, G2]) rfl ⟨by rw [HG.out]; rfl, (((hbW.trans (hbt.mono hbW.size)).setCell (by simp) _).setCell (by simp) _).setCell (by simp) _⟩
        · have HN : Hid (∀ j : Int, 1 ≤ j → j < k + 1 → Idn.word j ≠ x2) := fun j h1 h2 => by
            by_cases e : j = k
            · rw [e]; exact hw
            · exact hno.out j h1 (by omega)
          have tk : ((B (Idn.word k)).toList == (B x2).toList) = false := str_not (by rw [Idn.L_B, Idn.L_B]; exact hw)
          clear hw hno
          generalize B (Idn.word k) = bw at *
          go_wp2
          refine wp_region_quiet_below (by kernel_rfl) (by kernel_rfl) ?_
          repeat (first | go_big_quiet_step ((go_at_call 107; exact hq _ _)) | quiet_step ((go_at_call 107; exact hq _ _)))
          refine wpQuiet_nil ?_
          intro _ hw'
          obtain ⟨⟨dq, osq⟩, hw''⟩ := hw'
          subst hw''
          have hb2 := below_regrown wr dq osq
          generalize grow (redrawn wr dq) osq = W2 at hb2 ⊢
          clear hq k2 m2 m1
          go_wp2
          go_roundw
          case rel => exact ⟨k + 1, by omega, by omega, rfl, hb.trans (hb2.mono hb.size), HN⟩
          case measure => simp [intOf]; omega
      · have e : k = 6 := by omega
        subst e
        have HG : Hid (r = (⟨[], 0, false⟩, false)) := by show _ = _; rw [HR.out, wordIx_none hno.out]
        have R0 := cell_later hb r0
        have R1 := cell_later hb r1
        have R2 := cell_later hb r2
        have G0 := (hb.frozen (p := ⟨w.heap.size, 0, none⟩) hlt).trans f0
        have G1 := (hb.frozen (p := ⟨w.heap.size, 1, none⟩) hlt).trans f1
        have G2 := (hb.frozen (p := ⟨w.heap.size, 2, none⟩) hlt).trans f2
        clear HR hno hk5 m1 m2 k2
        go_wp2
        exact bodyPost_ret (v := .tuple #[.agg #[.string ⟨#[]⟩, .int .i64 0, .bool false], .bool false]) (by simp [results, Tryz.results113, go_sem, R0, R1, R2, G0, G1, G2]) rfl ⟨by rw [HG.out]; rfl, (((hbW.trans (hb.mono hbW.size)).setCell (by simp) _).setCell (by simp) _).setCell (by simp) _⟩
  · subst h4
    have c3' := c3 rfl
    clear c3 hlI
    go_enter Tryz.func113, Tryz.ntmps113
    go_wp2_with (go_at_call 92; refine (hN _).mono ?_; rintro e w' ⟨rfl, rfl⟩)
    with_reducible refine gen1 (R := fun W => Code.wp Tryz.prog _ _ _ W) ?_
    intro W hbW hszW hc1 hf1
    have r0 := hc1 0 _ rfl
    have r1 := hc1 1 _ rfl
    have r2 := hc1 2 _ rfl
    have f0 := hf1 0
    have f1 := hf1 1
    have f2 := hf1 2
    clear hc1 hf1
    have hlt : w.heap.size < W.heap.size := by omega
    clear hszW
    have n1 := cell_later hbW c1
    have n2 := cell_later hbW c2
    clear c1 c2 hN
    go_loopw [5] (fun i wr => ∃ k : Int, 1 ≤ k ∧ k ≤ 6 ∧ i = .int .i64 k ∧ Below W.heap.size W wr ∧ Hid (∀ j : Int, 1 ≤ j → j < k → Idn.word j ≠ x2)) (fun i _ => (10 - intOf i).toNat)
    case atStart => exact ⟨1, by omega, by omega, rfl, Below.refl _ _, fun j h1 h2 => by omega⟩
    case round =>
      obtain ⟨k, hk1, hk6, rfl, hb, hno⟩ := hrel
      have m1 := cell_later hb n1
      have m2 := cell_later hb n2
      have k2 := cell_regrown m2
      by_cases hk5 : k ≤ 5
      · have hq := cq0 (W := wr) (fun W => word_any k W)
        by_cases hw : Idn.word k = x2
        · have HG : Hid (r = (⟨x1, k, true⟩, true)) := by show _ = _; rw [HR.out, wordIx_some hk1 hk5 hno.out hw]
          have tk : ((B (Idn.word k)).toList == (B x2).toList) = true := str_is (by rw [Idn.L_B, Idn.L_B, hw])
          clear hw hno HR
          generalize B (Idn.word k) = bw at *
          go_wp2
          refine wp_region_quiet_below (by kernel_rfl) (by kernel_rfl) ?_
          repeat (first | go_big_quiet_step ((go_at_call 107; exact hq _ _)) | quiet_step ((go_at_call 107; exact hq _ _)))
          refine wpQuiet_nil ?_
          intro _ hw'
          obtain ⟨⟨dq, osq⟩, hw''⟩ := hw'
          subst hw''
          have hb2 := below_regrown wr dq osq
          generalize grow (redrawn wr dq) osq = W2 at hb2 ⊢
          have hbt := hb.trans (hb2.mono hb.size)
          replace m1 := cell_later hb2 m1
          have R0 := cell_later hbt r0
          have R1 := cell_later hbt r1
          have R2 := cell_later hbt r2
          have G0 := (hbt.frozen (p := ⟨w.heap.size, 0, none⟩) hlt).trans f0
          have G1 := (hbt.frozen (p := ⟨w.heap.size, 1, none⟩) hlt).trans f1
          have G2 := (hbt.frozen (p := ⟨w.heap.size, 2, none⟩) hlt).trans f2
          clear hq k2 m2
          go_wp2
          exact bodyPost_ret (v := .tuple #[.agg #[.string (B x1), .int .i64 k, .bool true], .bool true]) (by simp [results, Tryz.results113, go_sem, R0, R1, R2, G0, G1, G2]) rfl ⟨by rw [HG.out]; rfl, (((hbW.trans (hbt.mono hbW.size)).setCell (by simp) _).setCell (by simp) _).setCell (by simp) _⟩
        · have HN : Hid (∀ j : Int, 1 ≤ j → j < k + 1 → Idn.word j ≠ x2) := fun j h1 h2 => by
            by_cases e : j = k
            · rw [e]; exact hw
            · exact hno.out j h1 (by omega)
          have tk : ((B (Idn.word k)).toList == (B x2).toList) = false := str_not (by rw [Idn.L_B, Idn.L_B]; exact hw)
          clear hw hno
          generalize B (Idn.word k) = bw at *
          go_wp2
          refine wp_region_quiet_below (by kernel_rfl) (by kernel_rfl) ?_
          repeat (first | go_big_quiet_step ((go_at_call 107; exact hq _ _)) | quiet_step ((go_at_call 107; exact hq _ _)))
          refine wpQuiet_nil ?_
          intro _ hw'
          obtain ⟨⟨dq, osq⟩, hw''⟩ := hw'
          subst hw''
          have hb2 := below_regrown wr dq osq
          generalize grow (redrawn wr dq) osq = W2 at hb2 ⊢
          clear hq k2 m2 m1
          go_wp2
          go_roundw
          case rel => exact ⟨k + 1, by omega, by omega, rfl, hb.trans (hb2.mono hb.size), HN⟩
          case measure => simp [intOf]; omega
      · have e : k = 6 := by omega
        subst e
        have HG : Hid (r = (⟨[], 0, false⟩, false)) := by show _ = _; rw [HR.out, wordIx_none hno.out]
        have R0 := cell_later hb r0
        have R1 := cell_later hb r1
        have R2 := cell_later hb r2
        have G0 := (hb.frozen (p := ⟨w.heap.size, 0, none⟩) hlt).trans f0
        have G1 := (hb.frozen (p := ⟨w.heap.size, 1, none⟩) hlt).trans f1
        have G2 := (hb.frozen (p := ⟨w.heap.size, 2, none⟩) hlt).trans f2
        clear HR hno hk5 m1 m2 k2
        go_wp2
        exact bodyPost_ret (v := .tuple #[.agg #[.string ⟨#[]⟩, .int .i64 0, .bool false], .bool false]) (by simp [results, Tryz.results113, go_sem, R0, R1, R2, G0, G1, G2]) rfl ⟨by rw [HG.out]; rfl, (((hbW.trans (hb.mono hbW.size)).setCell (by simp) _).setCell (by simp) _).setCell (by simp) _⟩

theorem rdType_bad {ws : List Bs} (h : (decide (ws.length ≠ 3) && !isSingle ws) = true) : rdType ws = (⟨[], 0, false⟩, false) := by unfold rdType; rw [h]; rfl
theorem rdType_noname {ws : List Bs} (h : Idn.name (ws.getD 1 []) = false) : rdType ws = (⟨[], 0, false⟩, false) := by unfold rdType; rw [h]; simp
set_option maxHeartbeats 2000000 in
set_option maxRecDepth 100000 in
theorem readType_any (v : Value) (ws : List Bs) (w : World) (hv : StrsV w w.heap.size v ws) (hws : ∀ x ∈ ws, x.length ≤ 1000000000) (hwl : ws.length ≤ 1000000000) :
    Calls Tryz.prog 113 #[v] w fun e w' => e = .returned (.tuple #[tyV (rdType ws).1, .bool (rdType ws).2]) ∧ Below w.heap.size w w' := by
  by_cases hb : (decide (ws.length ≠ 3) && !isSingle ws) = true
  · have HR : Hid (rdType ws = (⟨[], 0, false⟩, false)) := rdType_bad hb
    generalize rdType ws = r at *
    obtain ⟨A, c, rfl, hc⟩ := SlV.shape hv
    simp only [Bool.and_eq_true, decide_eq_true_eq, Bool.not_eq_true'] at hb
    obtain ⟨h3, hsg⟩ := hb
    by_cases h4 : ws.length = 4
    · obtain ⟨b, off, rfl, hbl, c3⟩ := strs_at hv (k := 3) (x := ws.getD 3 []) (by simp [List.getD, show 3 < ws.length by omega])
      have hx3 : ws[3]? = some (ws.getD 3 []) := by simp [List.getD, show 3 < ws.length by omega]
      have hne : ws.getD 3 [] ≠ [115, 105, 110, 103, 108, 101] := fun e => by
        unfold isSingle at hsg
        rw [hx3, e, h4] at hsg
        simp at hsg
      have ts : ((B (ws.getD 3 [])).toList == [115, 105, 110, 103, 108, 101]) = false := by rw [toList_L, Idn.L_B]; simpa using hne
      generalize B (ws.getD 3 []) = b3 at *
      clear hne hx3 hsg hv hws h3
      generalize ws.length = n at *
      subst h4
      go_enter Tryz.func113, Tryz.ntmps113
      go_wp2
      exact bodyPost_ret (v := .tuple #[.agg #[.string ⟨#[]⟩, .int .i64 0, .bool false], .bool false]) (by simp [results, Tryz.results113, go_sem]) rfl ⟨by rw [HR.out]; rfl, (Below.refl _ _).alloc (Nat.le_refl _) _⟩
    · have h3I : ((ws.length : Int) == 3) = false := by rw [beq_eq_false_iff_ne]; omega
      have h3J : ((ws.length : Int) != 3) = true := by rw [bne_iff_ne]; omega
      have h4I : ((ws.length : Int) == 4) = false := by rw [beq_eq_false_iff_ne]; omega
      clear hsg hv hws h3 h4
      generalize ws.length = n at *
      go_enter Tryz.func113, Tryz.ntmps113
      go_wp2
      exact bodyPost_ret (v := .tuple #[.agg #[.string ⟨#[]⟩, .int .i64 0, .bool false], .bool false]) (by simp [results, Tryz.results113, go_sem]) rfl ⟨by rw [HR.out]; rfl, (Below.refl _ _).alloc (Nat.le_refl _) _⟩
  · have hcase : (ws.length = 3 ∧ isSingle ws = false) ∨ (ws.length = 4 ∧ isSingle ws = true) := by
      simp only [Bool.and_eq_true, decide_eq_true_eq, Bool.not_eq_true', not_and, Bool.not_eq_false] at hb
      by_cases h3 : ws.length = 3
      · exact .inl ⟨h3, by unfold isSingle; rw [h3]; rfl⟩
      · have hs := hb h3
        unfold isSingle at hs
        simp only [Bool.and_eq_true, decide_eq_true_eq] at hs
        exact .inr ⟨hs.1, hb h3⟩
    cases hnm : Idn.name (ws.getD 1 [])
    case true => exact readType_loop v ws (isSingle ws) w hv (by rcases hcase with ⟨a, b⟩ | ⟨a, b⟩; exact .inl ⟨a, b⟩; exact .inr ⟨a, b⟩) rfl hws hnm
    have HR : Hid (rdType ws = (⟨[], 0, false⟩, false)) := rdType_noname hnm
    generalize rdType ws = r at *
    obtain ⟨A, c, rfl, hc⟩ := SlV.shape hv
    have x1h : ws[1]? = some (ws.getD 1 []) := by simp [List.getD, show 1 < ws.length by omega]
    have hm1 := hws _ (List.mem_of_getElem? x1h)
    generalize ws.getD 1 [] = x1 at *
    obtain ⟨b, off, rfl, hbl, c1⟩ := strs_at hv x1h
    have hN := fun W => name_any (B x1) W (by rw [Idn.size_B]; omega)
    rw [Idn.L_B, hnm] at hN
    rcases hcase with ⟨h3, _⟩ | ⟨h4, hsg⟩
    · clear hnm hb hv hws x1h
      generalize ws.length = n at *
      subst h3
      go_enter Tryz.func113, Tryz.ntmps113
      go_wp2_with (go_at_call 92; refine (hN _).mono ?_; rintro e w' ⟨rfl, rfl⟩)
      exact bodyPost_ret (v := .tuple #[.agg #[.string ⟨#[]⟩, .int .i64 0, .bool false], .bool false]) (by simp [results, Tryz.results113, go_sem]) rfl ⟨by rw [HR.out]; rfl, (Below.refl _ _).alloc (Nat.le_refl _) _⟩
    · have c3 : w.cell? ⟨b, off + 3, none⟩ = some (.string (B [115, 105, 110, 103, 108, 101])) := by
        unfold isSingle at hsg
        simp only [Bool.and_eq_true, decide_eq_true_eq] at hsg
        obtain ⟨b3, off3, hA3, _, c3⟩ := strs_at hv hsg.2
        injection hA3 with hA3
        injection hA3 with e1 e2
        subst e1 e2
        exact c3
      have hsl : (B [115, 105, 110, 103, 108, 101]).toList = [115, 105, 110, 103, 108, 101] := by rw [toList_L, Idn.L_B]
      clear hnm hb hv hws x1h hsg
      generalize ws.length = n at *
      subst h4
      go_enter Tryz.func113, Tryz.ntmps113
      go_wp2_with (go_at_call 92; refine (hN _).mono ?_; rintro e w' ⟨rfl, rfl⟩)
      exact bodyPost_ret (v := .tuple #[.agg #[.string ⟨#[]⟩, .int .i64 0, .bool false], .bool false]) (by simp [results, Tryz.results113, go_sem]) rfl ⟨by rw [HR.out]; rfl, (Below.refl _ _).alloc (Nat.le_refl _) _⟩
end Go.Proofs.YtnikolglippfmaaGreatDoor
