/- Part 36 of the proof that SchemaChecks returns true for every schema: the package variables hold what the program lays; nothing else is asked. -/
import Derived.Test.YtoelhiccofpgfaaGreatDoorChk14
import Derived.Test.YtoelhiccofpgfaaGreatDoorChk15
import Derived.Test.YtoelhiccofpgfaaGreatDoorChk22
import Derived.RegionTactic
import Derived.BigRegion
/- schema: Parse at the chapter's example. -/
namespace Go.Proofs.YtoelhiccofpgfaaGreatDoor
open Go.RowKit Go.Sort
open Idn (L B Bs drop_L take_L size_L)

def sType : ByteArray := ⟨#[116, 121, 112, 101]⟩
def sAge : ByteArray := ⟨#[97, 103, 101]⟩
def sInt : ByteArray := ⟨#[105, 110, 116]⟩
theorem quiet_lay {W : World} {b : Nat} (h : True) : True := h
set_option maxHeartbeats 1000000 in
set_option maxRecDepth 100000 in
theorem readType_age (g c : Nat) (w : World) (h0 : w.cell? ⟨g, 0, none⟩ = some (.string sType)) (h1 : w.cell? ⟨g, 1, none⟩ = some (.string sAge)) (h2 : w.cell? ⟨g, 2, none⟩ = some (.string sInt)) :
    Calls Tryz.prog 76 #[.slice (some ⟨g, 0, none⟩) 3 c] w fun e w' => e = .returned (.tuple #[.agg #[.string sAge, .int .i64 3, .bool false], .bool true]) ∧ Below w.heap.size w w' := by
  have hN := fun W => name_any sAge W (by decide)
  have en : Idn.name (L sAge) = true := by decide
  rw [en] at hN
  have hW1 := fun W => word_any 1 W
  have hW2 := fun W => word_any 2 W
  have hW3 := fun W => word_any 3 W
  have t1 : ((B (Idn.word 1)).toList == sInt.toList) = false := str_not (by decide)
  have t2 : ((B (Idn.word 2)).toList == sInt.toList) = false := str_not (by decide)
  have t3 : ((B (Idn.word 3)).toList == sInt.toList) = true := str_is (by decide)
  generalize B (Idn.word 1) = b1 at *
  generalize B (Idn.word 2) = b2 at *
  generalize B (Idn.word 3) = b3 at *
  clear en
  generalize sType = xT at *
  generalize sAge = xA at *
  generalize sInt = xI at *
  have hg : g < w.heap.size := World.block_lt_of_cell? _ _ h0
  go_enter Tryz.func76, Tryz.ntmps76
  go_wp2_with (go_at_call 78; refine (hN _).mono ?_; rintro e w' ⟨rfl, rfl⟩)
  with_reducible refine gen1 (R := fun W => Code.wp Tryz.prog _ _ _ W) ?_
  intro W hbW hszW hc1 hf1
  have r0 := hc1 0 _ rfl
  have r1 := hc1 1 _ rfl
  have r2 := hc1 2 _ rfl
  have f0 := hf1 0
  have f1 := hf1 1
  have f2 := hf1 2
  clear hc1 hf1
  have hlt : w.heap.size < W.heap.size := by omega
  clear hszW
  have n0 := cell_later hbW h0
  have n1 := cell_later hbW h1
  have n2 := cell_later hbW h2
  clear h0 h1 h2
  go_loopw [5] (fun i wr => ∃ k : Int, (k = 1 ∨ k = 2 ∨ k = 3) ∧ i = .int .i64 k ∧ Below W.heap.size W wr) (fun i _ => (10 - intOf i).toNat)
  case atStart => exact ⟨1, .inl rfl, rfl, Below.refl _ _⟩
  case round =>
    obtain ⟨k, hk, rfl, hb⟩ := hrel
    have m0 := cell_later hb n0
    have m1 := cell_later hb n1
    have m2 := cell_later hb n2
    have k2 := cell_regrown m2
    rcases hk with rfl | rfl | rfl
    · have hq := cq0 (W := wr) hW1
      go_wp2
      refine wp_region_quiet_below (by kernel_rfl) (by kernel_rfl) ?_
      repeat (first | go_big_quiet_step ((go_at_call 71; exact hq _ _)) | quiet_step ((go_at_call 71; exact hq _ _)))
      refine wpQuiet_nil ?_
      intro _ hw'
      obtain ⟨⟨dq, osq⟩, hw''⟩ := hw'
      subst hw''
      have hb2 := below_regrown wr dq osq
      generalize grow (redrawn wr dq) osq = W2 at hb2 ⊢
      go_wp2
      go_roundw
      case rel => exact ⟨2, .inr (.inl rfl), rfl, hb.trans (hb2.mono hb.size)⟩
      case measure => simp [intOf]
    · have hq := cq0 (W := wr) hW2
      go_wp2
      refine wp_region_quiet_below (by kernel_rfl) (by kernel_rfl) ?_
      repeat (first | go_big_quiet_step ((go_at_call 71; exact hq _ _)) | quiet_step ((go_at_call 71; exact hq _ _)))
      refine wpQuiet_nil ?_
      intro _ hw'
      obtain ⟨⟨dq, osq⟩, hw''⟩ := hw'
      subst hw''
      have hb2 := below_regrown wr dq osq
      generalize grow (redrawn wr dq) osq = W2 at hb2 ⊢
      go_wp2
      go_roundw
      case rel => exact ⟨3, .inr (.inr rfl), rfl, hb.trans (hb2.mono hb.size)⟩
      case measure => simp [intOf]
    · have hq := cq0 (W := wr) hW3
      go_wp2
      refine wp_region_quiet_below (by kernel_rfl) (by kernel_rfl) ?_
      repeat (first | go_big_quiet_step ((go_at_call 71; exact hq _ _)) | quiet_step ((go_at_call 71; exact hq _ _)))
      refine wpQuiet_nil ?_
      intro _ hw'
      obtain ⟨⟨dq, osq⟩, hw''⟩ := hw'
      subst hw''
      have hb2 := below_regrown wr dq osq
      generalize grow (redrawn wr dq) osq = W2 at hb2 ⊢
      have hbt := hb.trans (hb2.mono hb.size)
      replace m1 := cell_later hb2 m1
      have R0 := cell_later hbt r0
      have R1 := cell_later hbt r1
      have R2 := cell_later hbt r2
      have G0 := (hbt.frozen (p := ⟨w.heap.size, 0, none⟩) hlt).trans f0
      have G1 := (hbt.frozen (p := ⟨w.heap.size, 1, none⟩) hlt).trans f1
      have G2 := (hbt.frozen (p := ⟨w.heap.size, 2, none⟩) hlt).trans f2
      go_wp2
      exact bodyPost_ret (v := .tuple #[.agg #[.string xA, .int .i64 3, .bool false], .bool true]) (by simp [results, Tryz.results76, go_sem, R0, R1, R2, G0, G1, G2]) rfl ⟨rfl, (((hbW.trans (hbt.mono hbW.size)).setCell (by simp) _).setCell (by simp) _).setCell (by simp) _⟩

def sLine : ByteArray := ⟨#[116, 121, 112, 101, 32, 97, 103, 101, 32, 105, 110, 116]⟩
def ageT : Idn.AT := ⟨[97, 103, 101], 3, false⟩
theorem splitLine : Lib.countB sLine ⟨#[32]⟩ = 2 ∧ Lib.splitB ⟨#[32]⟩ 0 2 sLine = [sType, sAge, sInt] := by decide
theorem info_at : (Tryz.prog.info? 32).map (fun i => (i.zero, i.size, i.bytes)) = some (some (.agg #[.string ⟨#[]⟩, .int .i64 0, .bool false]), 3, 32) := by kernel_rfl
theorem age_own {w : World} {base : Nat} {v : Value} (h : w.ownsRow base 32 3 v 1 [.string sAge, .int .i64 3, .bool false]) : TypesV w w.heap.size v [ageT] := by
  refine SlV.own (base := base) (e := 32) (xs := [.string sAge, .int .i64 3, .bool false]) h fun i x hx => ?_
  match i, hx with
  | 0, hx =>
    simp at hx
    subst hx
    exact ⟨[.string sAge, .int .i64 3, .bool false], rfl, rfl, fun j u hu => by simpa using hu⟩
set_option maxHeartbeats 1000000 in
set_option maxRecDepth 100000 in
theorem read_age (w : World) (hE : Env w) :
    Calls Tryz.prog 48 #[.agg #[.slice none 0 0, .slice none 0 0], .string sLine] w fun e w' => ∃ v, e = .returned (.tuple #[.agg #[v, .slice none 0 0], .bool true]) ∧ w'.ownsRow w.heap.size 32 3 v 1 [.string sAge, .int .i64 3, .bool false] ∧ Below w.heap.size w w' := by
  have hSp := fun W (h : Env W) => let ⟨⟨m, h1⟩, _⟩ := h; Tryz.strings_Split sLine ⟨#[32]⟩ m W (by decide) h1 (by decide)
  rw [splitLine.1, splitLine.2] at hSp
  have tt : (sType.toList == [116, 121, 112, 101]) = true := by rw [toList_L]; decide
  generalize sLine = xl at *
  go_enter Tryz.func48, Tryz.ntmps48
  go_wp2_with fail
  with_reducible refine gen2g (R := fun W => Calls Tryz.prog 75 _ W _) ?_
  intro W hbW hszW hc1 hc2 hf1 hf2
  have b0 : W.cell? ⟨w.heap.size, 0, none⟩ = some (.slice none 0 0) := hc1 0 _ rfl
  have b1 : W.cell? ⟨w.heap.size, 1, none⟩ = some (.slice none 0 0) := hc1 1 _ rfl
  have r0 : W.cell? ⟨w.heap.size + 1, 0, none⟩ = some (.slice none 0 0) := hc2 0 _ rfl
  have r1 : W.cell? ⟨w.heap.size + 1, 1, none⟩ = some (.slice none 0 0) := hc2 1 _ rfl
  have f0 := hf2 0
  have f1 := hf2 1
  have g0 := hf1 0
  clear hc1 hc2 hf1 hf2
  refine (hSp W (hE.keep hbW)).mono ?_
  rintro e w1 ⟨rfl, hw1⟩
  have hb1 : Below W.heap.size W w1 := by rw [hw1]; exact (Below.refl _ _).alloc (Nat.le_refl _) _
  have hnew := heap_alloc_new W (.cells (List.map Value.string [sType, sAge, sInt]).toArray 9)
  have n0 : w1.cell? ⟨W.heap.size, 0, none⟩ = some (.string sType) := by rw [hw1, cell_of_row _ W.heap.size 0 _ _ (0, 0) hnew]; rfl
  have n1 : w1.cell? ⟨W.heap.size, 1, none⟩ = some (.string sAge) := by rw [hw1, cell_of_row _ W.heap.size 1 _ _ (0, 0) hnew]; rfl
  have n2 : w1.cell? ⟨W.heap.size, 2, none⟩ = some (.string sInt) := by rw [hw1, cell_of_row _ W.heap.size 2 _ _ (0, 0) hnew]; rfl
  clear hw1 hnew hSp
  have hRT := readType_age W.heap.size (2 + 1) w1 n0 n1 n2
  generalize sType = xT at *
  replace b0 := cell_later hb1 b0
  replace b1 := cell_later hb1 b1
  replace r0 := cell_later hb1 r0
  replace r1 := cell_later hb1 r1
  replace g0 := frozen_later hb1 g0 (by omega)
  replace f0 := (hb1.frozen (p := ⟨w.heap.size + 1, 0, none⟩) (by show w.heap.size + 1 < _; omega)).trans f0
  replace f1 := (hb1.frozen (p := ⟨w.heap.size + 1, 1, none⟩) (by show w.heap.size + 1 < _; omega)).trans f1
  have hbw1 := hbW.trans (hb1.mono hbW.size)
  have hl1 : w.heap.size + 1 < W.heap.size := by omega
  simp only [Nat.reduceAdd] at hRT
  have hl2 : w.heap.size + 1 < w1.heap.size := by have := hb1.size; omega
  clear hszW
  go_wp2_with fail
  refine hRT.mono ?_
  rintro e w2 ⟨rfl, hb2⟩
  replace b0 := cell_later hb2 b0
  replace b1 := cell_later hb2 b1
  replace r0 := cell_later hb2 r0
  replace r1 := cell_later hb2 r1
  replace g0 := frozen_later hb2 g0 (by omega)
  replace f0 := (hb2.frozen (p := ⟨w.heap.size + 1, 0, none⟩) (by show w.heap.size + 1 < _; omega)).trans f0
  replace f1 := (hb2.frozen (p := ⟨w.heap.size + 1, 1, none⟩) (by show w.heap.size + 1 < _; omega)).trans f1
  have hl3 : w.heap.size + 1 < w2.heap.size := by have := hb2.size; omega
  have hl4 : w.heap.size < w2.heap.size := by omega
  have hbw2 := hbw1.trans (hb2.mono hbw1.size)
  clear hRT n0 n1 n2 hl1 hl2 hb1 hb2 hE
  have hown0 := World.ownsRow_nil (w2.alloc (.cells #[.string sAge, .int .i64 3, .bool false] 32)) w2.heap.size 32 3
  have Hsza : Hid ((w2.alloc (.cells #[.string sAge, .int .i64 3, .bool false] 32)).heap.size = w2.heap.size + 1) := by show _ = _; simp
  have hbs : w2.heap.size ≤ (w2.alloc (.cells #[.string sAge, .int .i64 3, .bool false] 32)).heap.size := by simp
  go_wp2_with (at_builtin; refine wpList_push (w2.alloc (.cells #[.string sAge, .int .i64 3, .bool false] 32)) rfl _ _ 22 rfl w2.heap.size 32 (.agg #[.string ⟨#[]⟩, .int .i64 0, .bool false]) 3 32 Tryz.underlying22 info_at rfl (by decide) _ 0 _ hown0 rfl [.string sAge, .int .i64 3, .bool false] (by rw [Hsza.out]; rfl) rfl (by intro u hu; simp at hu; rcases hu with rfl | rfl | rfl <;> rfl) (by omega) hbs ?_ rfl)
  intro v' w3 hown' _ _ hb3 _
  obtain ⟨A3, c3, hu⟩ := own_shape hown'
  subst hu
  have hb23 : Below w2.heap.size w2 w3 := ((Below.refl _ _).alloc (Nat.le_refl _) _).trans hb3
  replace b1 := cell_later hb23 b1
  replace b0 := cell_later hb23 b0
  replace r0 := cell_later hb23 r0
  replace r1 := cell_later hb23 r1
  replace g0 := frozen_later hb23 g0 (by omega)
  replace f0 := frozen_later hb23 f0 (by omega)
  replace f1 := frozen_later hb23 f1 (by omega)
  have hl5 : w.heap.size + 1 < w3.heap.size := by have := hb23.size; omega
  have hl6 : w.heap.size < w3.heap.size := by omega
  clear hown0 hbs hb3
  go_wp2
  go_region
  go_wp2
  refine bodyPost_ret (v := .tuple #[.agg #[.slice A3 1 c3, .slice none 0 0], .bool true]) (by simp [results, Tryz.results48, go_sem, r0, r1, f0, f1, b0, b1]) rfl ⟨_, rfl, ?_, ?_⟩
  · refine own_base (own_above hown' ?_) hbw2.size
    intro k hk
    show (((w3.setCell ⟨w.heap.size, 0, none⟩ (.slice A3 1 c3)).setCell ⟨w.heap.size + 1, 0, none⟩ (.slice A3 1 c3)).setCell ⟨w.heap.size + 1, 1, none⟩ (.slice none 0 0)).heap[k]? = _
    rw [Below.heap_setCell _ _ _ _ (by show k ≠ w.heap.size + 1; omega), Below.heap_setCell _ _ _ _ (by show k ≠ w.heap.size + 1; omega), Below.heap_setCell _ _ _ _ (by show k ≠ w.heap.size; omega)]
  · exact (((((hbw2.trans (hb23.mono hbw2.size)).setCell (by simp) _).setCell (by simp) _).setCell (by simp) _)).drew
end Go.Proofs.YtoelhiccofpgfaaGreatDoor
