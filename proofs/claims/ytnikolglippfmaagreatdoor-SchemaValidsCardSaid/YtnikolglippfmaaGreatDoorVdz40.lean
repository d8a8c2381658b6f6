/- Part 40 of the proof that Valid returns the specified error: the package variables hold what the program lays; nothing else is asked. -/
import Derived.Test.YtnikolglippfmaaGreatDoorVdz15
import Derived.Test.YtnikolglippfmaaGreatDoorVdz17
/- schema: Parse at the chapter's example (second part). -/
namespace Go.Proofs.YtnikolglippfmaaGreatDoor
open Go.RowKit Go.Sort
open Idn (L B Bs drop_L take_L size_L)

def sText : ByteArray := ⟨#[116, 121, 112, 101, 32, 97, 103, 101, 32, 105, 110, 116, 10]⟩
theorem cutText : Lib.cut sText.data.toList [10] = (sLine.data.toList, [], true) := by decide
theorem chk_age : Idn.sCheck ⟨[ageT], []⟩ = 6 := by decide
set_option maxHeartbeats 1000000 in
set_option maxRecDepth 100000 in
theorem parse_age (w : World) (hE : Env w) :
    Calls Tryz.prog 19 #[.string sText] w fun e w' => e = .returned (.tuple #[.agg #[.slice none 0 0, .slice none 0 0], .int .i64 0, .int .i64 6]) ∧ Below w.heap.size w w' := by
  have hCut := fun W (h : Env W) => let ⟨⟨m, h1⟩, _⟩ := h; Tryz.strings_Cut sText ⟨#[10]⟩ m W (by decide) h1
  have e1 : (⟨#[10]⟩ : ByteArray).data.toList = [10] := rfl
  rw [e1, cutText] at hCut
  have e2 : (⟨(sLine.data.toList).toArray⟩ : ByteArray) = sLine := rfl
  simp only [e2] at hCut
  have hsz : sText.size = 13 := rfl
  have hsz' : (sText.size : Int) ≤ 4096 := by rw [hsz]; decide
  have hne : sText.toList.isEmpty = false := by rw [toList_L]; decide
  have hRd := fun W hW => read_age W hW
  clear e1 e2 hsz
  generalize sText = xs at *
  generalize sLine = xl at *
  go_enter Tryz.func19, Tryz.ntmps19
  go_wp2
  with_reducible refine gen2g (R := fun W => Code.wp Tryz.prog _ _ _ W) ?_
  intro W hbW hszW hc1 hc2 hf1 hf2
  have r0 : W.cell? ⟨w.heap.size, 0, none⟩ = some (.slice none 0 0) := hc1 0 _ rfl
  have r1 : W.cell? ⟨w.heap.size, 1, none⟩ = some (.slice none 0 0) := hc1 1 _ rfl
  have b0 : W.cell? ⟨w.heap.size + 1, 0, none⟩ = some (.slice none 0 0) := hc2 0 _ rfl
  have b1 : W.cell? ⟨w.heap.size + 1, 1, none⟩ = some (.slice none 0 0) := hc2 1 _ rfl
  have f0 := hf1 0
  have f1 := hf1 1
  have g0 := hf2 0
  have g1 := hf2 1
  clear hc1 hc2 hf1 hf2 hsz'
  have hl1 : w.heap.size < W.heap.size := by omega
  have hl2 : w.heap.size + 1 < W.heap.size := by omega
  clear hszW
  go_loopw [6, 7] (fun r n wr => (r = .string xs ∧ n = .int .i64 1 ∧ wr = W) ∨ (r = .string ⟨#[]⟩ ∧ n = .int .i64 2 ∧ ∃ A c, wr.cell? ⟨w.heap.size + 1, 0, none⟩ = some (.slice A 1 c) ∧ wr.cell? ⟨w.heap.size + 1, 1, none⟩ = some (.slice none 0 0) ∧ wr.ownsRow W.heap.size 58 3 (.slice A 1 c) 1 [.string sAge, .int .i64 3, .bool false] ∧
      wr.cell? ⟨w.heap.size, 0, none⟩ = some (.slice none 0 0) ∧ wr.cell? ⟨w.heap.size, 1, none⟩ = some (.slice none 0 0) ∧ wr.frozen? ⟨w.heap.size, 0, none⟩ = false ∧ wr.frozen? ⟨w.heap.size, 1, none⟩ = false ∧ Below w.heap.size w wr ∧ w.heap.size + 1 < wr.heap.size)) (fun _ n _ => (5 - intOf n).toNat)
  case atStart => exact .inl ⟨rfl, rfl, rfl⟩
  case round =>
    rcases hrel with ⟨rfl, rfl, rfl⟩ | ⟨rfl, rfl, A, c, c0, c1, hT, q0, q1, z0, z1, hb, hlt⟩
    · go_wp2_with fail
      refine (hCut _ (hE.keep hbW)).mono ?_
      rintro e w1 ⟨rfl, n, rfl⟩
      have hb1 : Below wr.heap.size wr (wr.drewN n) := below_drewN (Below.refl _ _) n
      generalize wr.drewN n = w1 at *
      replace b0 := cell_later hb1 b0
      replace b1 := cell_later hb1 b1
      have hR := hRd w1 (hE.keep (hbW.trans (hb1.mono hbW.size)))
      clear hRd hCut
      go_wp2_with fail
      refine hR.mono ?_
      rintro e w2 ⟨v, rfl, hT, hb2⟩
      clear hR
      obtain ⟨A, c, hu⟩ := own_shape hT
      subst hu
      have hb12 := hb1.trans (hb2.mono hb1.size)
      replace b0 := cell_later hb2 b0
      replace b1 := cell_later hb2 b1
      replace r0 := cell_later hb12 r0
      replace r1 := cell_later hb12 r1
      replace f0 := frozen_later hb12 f0 hl1
      replace f1 := frozen_later hb12 f1 hl1
      replace g0 := frozen_later hb12 g0 hl2
      replace g1 := frozen_later hb12 g1 hl2
      have hl3 : w.heap.size < w2.heap.size := by have := hb12.size; omega
      have hl4 : w.heap.size + 1 < w2.heap.size := by have := hb12.size; omega
      have hbw2 := hbW.trans (hb12.mono hbW.size)
      have hT' := own_base hT hb1.size
      clear hT hb1 hb2
      have ba := hb12.alloc hb12.size (.cells #[.slice A 1 c, .slice none 0 0] 25)
      have hbwa := hbW.trans (ba.mono hbW.size)
      go_wp2
      go_roundw
      case rel =>
        have hne01 : w.heap.size + 1 ≠ w.heap.size := by omega
        have hne2 : w2.heap.size ≠ w.heap.size := by omega
        have hne3 : w2.heap.size ≠ w.heap.size + 1 := by omega
        refine .inr ⟨rfl, rfl, A, c, ?_, ?_, ?_, ?_, ?_, ?_, ?_, ?_, ?_⟩
        · go_simp
        · go_simp
        · refine own_below (own_above hT' fun k hk => ?_) ((Below.refl _ _).alloc (Nat.le_refl _) (.cells #[.slice A 1 c, .slice none 0 0] 25))
          rw [Below.heap_setCell _ _ _ _ (by show k ≠ w.heap.size + 1; omega), Below.heap_setCell _ _ _ _ (by show k ≠ w.heap.size + 1; omega)]
        · go_simp
        · go_simp
        · go_simp
        · go_simp
        · exact ((hbw2.setCell (p := ⟨w.heap.size + 1, 0, none⟩) (Nat.le_succ _) _).setCell (p := ⟨w.heap.size + 1, 1, none⟩) (Nat.le_succ _) _).alloc (by simp; omega) _
        · simp; omega
      case measure => simp [intOf]
    · have hCk := schCheck_any (.agg #[.slice A 1 c, .slice none 0 0]) ⟨[ageT], []⟩ wr ⟨_, _, rfl, age_own hT, SlV.nil _ _ _ _⟩ ⟨⟨by simp, by simp [ageT]⟩, ⟨by simp, by simp⟩⟩
      rw [chk_age] at hCk
      have hl3 : w.heap.size < wr.heap.size := by omega
      clear hCut hRd hE
      go_wp2_with fail
      refine hCk.mono ?_
      rintro e w5 ⟨rfl, hb5⟩
      replace q0 := cell_later hb5 q0
      replace q1 := cell_later hb5 q1
      replace z0 := frozen_later hb5 z0 hl3
      replace z1 := frozen_later hb5 z1 hl3
      go_wp2
      exact bodyPost_ret (v := .tuple #[.agg #[.slice none 0 0, .slice none 0 0], .int .i64 0, .int .i64 6]) (by simp [results, Tryz.results19, go_sem, q0, q1, z0, z1]) rfl ⟨rfl, ((hb.trans (hb5.mono (by omega))).setCell (by simp) _).setCell (by simp) _⟩
end Go.Proofs.YtnikolglippfmaaGreatDoor
