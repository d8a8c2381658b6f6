/- Part 47 of the proof that the statements EntryChecks, EntryStable and EntryTexts of identitylaw08 return true at every argument: the package variables hold what the program lays; nothing else is asked. -/
import Derived.Test.YtoopoglkeeoamaaGreatDoorEca08
import Derived.Test.YtoopoglkeeoamaaGreatDoorEca45
set_option linter.unusedVariables false
set_option linter.unusedSimpArgs false
/- law08: EntryChecks, walked. -/
namespace Go.Proofs.YtoopoglkeeoamaaGreatDoor
open Go.RowKit Go.Sort
open Idn (L B Bs drop_L take_L size_L)
set_option maxHeartbeats 4000000 in
set_option maxRecDepth 100000 in
theorem entryChecks_any (n : ByteArray) (a : Value) (l : List Idn.Att) (w : World) (hv : AttsV w w.heap.size a l) (hal : ALen8 l) (hn : n.size ≤ 9223372036854775807) (hE : Env w) (hU : EnvU w) :
    Calls Tryz.prog 3 #[.agg #[.string n, a]] w fun e w' => e = .returned (.bool true) ∧ Below w.heap.size w w' := by
  have hA := fun W (hW : Below w.heap.size w W) => AttsV.mono (AttsV.keep hv hW) hW.size
  have hS := fun W (hW : Below w.heap.size w W) => short8_any n a l W (hA W hW) hal hn
  have hEx := fun W (hW : Below w.heap.size w W) => example_any W (hE.keep hW) (hU.keep hW)
  have hv0 := hv
  obtain ⟨A, c, rfl, hc⟩ := SlV.shape hv
  clear hE hU
  go_enter Tryz.func3, Tryz.ntmps3
  go_upto_region 1 with fail
  with_reducible refine gen1 (R := fun W => Code.wp Tryz.prog _ _ _ W) ?_
  intro W hbW hszW hc1 _
  have b0 : W.cell? ⟨w.heap.size, 0, none⟩ = some (.string n) := hc1 0 _ rfl
  have b1 : W.cell? ⟨w.heap.size, 1, none⟩ = some (.slice A l.length c) := hc1 1 _ rfl
  clear hc1 hszW
  go_wp2_with fail
  refine (hS W hbW).mono ?_
  rintro e w1 ⟨r, rfl, hr, hb1⟩
  replace b0 := cell_later hb1 b0
  replace b1 := cell_later hb1 b1
  have hb := hbW.trans (hb1.mono hbW.size)
  have HR := Lib.hid hr
  clear hS hb1 hbW hr
  cases r
  · clear HR
    go_wp2_with fail
    refine (hEx w1 hb).mono ?_
    rintro e w2 ⟨rfl, hb2⟩
    go_wp2_with fail
    go_ret
    exact ⟨rfl, hb.trans (hb2.mono hb.size)⟩
  · obtain ⟨hn9, hsm⟩ := HR.out rfl
    have hasm := hsm.sm.1
    have k1 := fun W (hW : Below w.heap.size w W) => eCheck_any n _ l W (hA W hW) (by omega) hasm
    have k2 := fun W (hW : Below w.heap.size w W) => r8_Check_any n _ l W (hA W hW) (by omega) hasm
    clear hsm hasm hA hv0 HR hn9
    generalize eCheck (L n) l = r at *
    have t1 : (r == r) = true := by simp
    go_wp2_with fail
    have hSt : ∀ W', Below w1.heap.size w1 W' → W'.cell? ⟨w.heap.size, 0, none⟩ = some (.string n) ∧ W'.cell? ⟨w.heap.size, 1, none⟩ = some (.slice A l.length c) ∧ Below w1.heap.size w1 W' := fun W' hW =>
      ⟨cell_later hW b0, cell_later hW b1, hW⟩
    have d3 := fun W (hW : Below w1.heap.size w1 W) => k1 W (hb.trans (hW.mono hb.size))
    have d4 := fun W (hW : Below w1.heap.size w1 W) => k2 W (hb.trans (hW.mono hb.size))
    have d5 := fun W (hW : Below w1.heap.size w1 W) => hEx W (hb.trans (hW.mono hb.size))
    have hw0 := Below.refl w1.heap.size w1
    clear k1 k2 hEx b0 b1
    go_region_held3 (fun W' => W'.cell? ⟨w.heap.size, 0, none⟩ = some (.string n) ∧ W'.cell? ⟨w.heap.size, 1, none⟩ = some (.slice A l.length c) ∧ Below w1.heap.size w1 W')
      (first | (refine hSt _ ?_; repeat (first | with_reducible exact Below.refl _ _ | with_reducible apply Below.drew | with_reducible refine Below.on ?_ ha1 | with_reducible refine Below.on ?_ ha2 | with_reducible refine Below.on ?_ ha3)))
      (first
        | (go_at_call 14; refine (d3 _ (by repeat (first | with_reducible exact Below.refl _ _ | with_reducible apply Below.drew | with_reducible refine Below.on ?_ ha2))).mono ?_; rintro e x1 ⟨rfl, ha1⟩)
        | (go_at_call 15; refine (d4 _ (by repeat (first | with_reducible exact Below.refl _ _ | with_reducible apply Below.drew | with_reducible refine Below.on ?_ ha1))).mono ?_; rintro e x2 ⟨rfl, ha2⟩)
        | (go_at_call 13; refine (d5 _ (by repeat (first | with_reducible exact Below.refl _ _ | with_reducible apply Below.drew | with_reducible refine Below.on ?_ ha1 | with_reducible refine Below.on ?_ ha2))).mono ?_; rintro e x3 ⟨rfl, ha3⟩))
    all_goals
      have hfin : Below w1.heap.size w1 x3 := by repeat (first | with_reducible exact Below.refl _ _ | with_reducible apply Below.drew | with_reducible refine Below.on ?_ ha1 | with_reducible refine Below.on ?_ ha2 | with_reducible refine Below.on ?_ ha3)
      go_wp2_with fail
      go_ret
      exact ⟨rfl, hb.trans (hfin.mono hb.size)⟩
end Go.Proofs.YtoopoglkeeoamaaGreatDoor
