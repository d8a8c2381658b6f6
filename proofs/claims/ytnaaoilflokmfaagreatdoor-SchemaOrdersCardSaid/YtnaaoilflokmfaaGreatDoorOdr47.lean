/- Part 47 of the proof that SchemaOrders: the package variables hold what the program lays; nothing else is asked. -/
import Derived.Test.YtnaaoilflokmfaaGreatDoorOdr37
import Derived.Test.YtnaaoilflokmfaaGreatDoorOdr43
/- law07: SchemaOrders, walked. -/
namespace Go.Proofs.YtnaaoilflokmfaaGreatDoor
open Go.RowKit Go.Sort
open Idn (L B Bs drop_L take_L size_L)
theorem length_norm3 (x : Int) (v : Bs) (h : v.length ≤ 300) : (Idn.normSyn x v).1.length ≤ 100000000 := by
  unfold Idn.normSyn
  split
  · unfold Idn.integer
    split
    · simp
    · split
      · simp
      · have hb := readInt_bd (if Lib.hasPrefix v [45] = true then 45 :: Idn.stripD (Lib.trimPrefix v [45]) else Idn.stripD (Lib.trimPrefix v [45]))
        have := Lib.itoa_length_le _ hb.1 hb.2
        dsimp only
        omega
  · split
    · have := mapGo_len Lib.toUpperU (Idn.lower v).length (Idn.lower v)
      rw [Idn.length_lower] at this
      show (Lib.toUpperD (Idn.lower v)).length ≤ _
      unfold Lib.toUpperD Lib.mapD
      rw [Idn.length_lower]
      omega
    · split
      · have := Idn.length_fold v
        dsimp only
        omega
      · split
        · have := cleanN_len v
          dsimp only
          omega
        · dsimp only; omega
theorem kNorm_len3 (s : Idn.Sch) (n v : Bs) (h : v.length ≤ 300) : (kNorm s n v).2.1.length ≤ 100000000 := by
  unfold kNorm
  split
  · simp
  · split
    · simp
    · exact length_norm3 _ v h
set_option maxHeartbeats 4000000 in
set_option maxRecDepth 100000 in
theorem schemaOrders_any (v : Value) (s : Idn.Sch) (n A B1 C : ByteArray) (w : World) (hv : SchV w w.heap.size v s) (hl : SLen s) (hn : n.size ≤ 9223372036854775807) (hA : A.size ≤ 9223372036854775807) (hB : B1.size ≤ 9223372036854775807) (hC : C.size ≤ 9223372036854775807) (hE : Env w) (hU : EnvU w) :
    Calls Tryz.prog 4 #[v, .agg #[.string n, .string A, .string B1, .string C]] w fun e w' => e = .returned (.bool true) ∧ Below w.heap.size w w' := by
  have hF := fun W (hW : Below w.heap.size w W) => few_any v s W (SchV.mono (SchV.keep hv hW) hW.size) hl.1 hl.2.1 hl.2.2
  have hAl := fun W (hW : Below w.heap.size w W) => alive_any W (hE.keep hW) (hU.keep hW)
  have hv0 := hv
  obtain ⟨a, b, rfl, hT, hCl⟩ := hv
  obtain ⟨A', ca, rfl, hca⟩ := SlV.shape hT
  obtain ⟨A'', cb, rfl, hcb⟩ := SlV.shape hCl
  clear hT hCl
  have hsplit : few s = false ∨ (few s = true ∧ (300 : Int) < (n.size : Int)) ∨ (few s = true ∧ ¬ (300 : Int) < (n.size : Int) ∧ (300 : Int) < (A.size : Int)) ∨ (few s = true ∧ ¬ (300 : Int) < (n.size : Int) ∧ ¬ (300 : Int) < (A.size : Int) ∧ (300 : Int) < (B1.size : Int)) ∨
      (few s = true ∧ ¬ (300 : Int) < (n.size : Int) ∧ ¬ (300 : Int) < (A.size : Int) ∧ ¬ (300 : Int) < (B1.size : Int) ∧ (300 : Int) < (C.size : Int)) ∨
      (few s = true ∧ ¬ (300 : Int) < (n.size : Int) ∧ ¬ (300 : Int) < (A.size : Int) ∧ ¬ (300 : Int) < (B1.size : Int) ∧ ¬ (300 : Int) < (C.size : Int)) := by
    cases few s
    · exact .inl rfl
    · by_cases h1 : (300 : Int) < (n.size : Int)
      · exact .inr (.inl ⟨rfl, h1⟩)
      · by_cases h2 : (300 : Int) < (A.size : Int)
        · exact .inr (.inr (.inl ⟨rfl, h1, h2⟩))
        · by_cases h3 : (300 : Int) < (B1.size : Int)
          · exact .inr (.inr (.inr (.inl ⟨rfl, h1, h2, h3⟩)))
          · by_cases h4 : (300 : Int) < (C.size : Int)
            · exact .inr (.inr (.inr (.inr (.inl ⟨rfl, h1, h2, h3, h4⟩))))
            · exact .inr (.inr (.inr (.inr (.inr ⟨rfl, h1, h2, h3, h4⟩))))
  rcases hsplit with hf | ⟨hf, h1⟩ | ⟨hf, h1, h2⟩ | ⟨hf, h1, h2, h3⟩ | ⟨hf, h1, h2, h3, h4⟩ | ⟨hf, h1, h2, h3, h4⟩
  iterate 5
    · rw [hf] at hF
      clear hf
      go_enter Tryz.func4, Tryz.ntmps4
      go_wp2_with fail
      with_reducible refine gen2 (R := fun W => Calls Tryz.prog 6 _ W _) ?_
      intro W hbW hszW hc0 hc1
      have b0 : W.cell? ⟨w.heap.size + 1, 0, none⟩ = some (.string n) := hc1 0 _ rfl
      have b1 : W.cell? ⟨w.heap.size + 1, 1, none⟩ = some (.string A) := hc1 1 _ rfl
      have b2 : W.cell? ⟨w.heap.size + 1, 2, none⟩ = some (.string B1) := hc1 2 _ rfl
      have b3 : W.cell? ⟨w.heap.size + 1, 3, none⟩ = some (.string C) := hc1 3 _ rfl
      refine (hF W hbW).mono ?_
      rintro e w1 ⟨rfl, hb1⟩
      replace b0 := cell_later hb1 b0
      replace b1 := cell_later hb1 b1
      replace b2 := cell_later hb1 b2
      replace b3 := cell_later hb1 b3
      have hb := hbW.trans (hb1.mono hbW.size)
      clear hF hc0 hc1
      go_wp2_with fail
      refine (hAl w1 hb).mono ?_
      rintro e w2 ⟨rfl, hb2⟩
      go_wp2_with fail
      go_ret
      exact ⟨rfl, hb.trans (hb2.mono hb.size)⟩
  · rw [hf] at hF
    have hs := few_ssm hf
    have hV := fun W (hW : Below w.heap.size w W) => SchV.mono (SchV.keep hv0 hW) hW.size
    have k1 := fun W (hW : Below w.heap.size w W) => schNormal_any _ s n A W (hV W hW) hs (hE.keep hW) (hU.keep hW) (by omega) (by omega)
    have k2 := fun W (hW : Below w.heap.size w W) => schNormal_any _ s n B1 W (hV W hW) hs (hE.keep hW) (hU.keep hW) (by omega) (by omega)
    have k3 := fun W (hW : Below w.heap.size w W) => schNormal_any _ s n C W (hV W hW) hs (hE.keep hW) (hU.keep hW) (by omega) (by omega)
    have hla : (B (sNorm s (L n) (L A)).1).size ≤ 100000000 := by
      rw [Idn.size_B]
      exact kNorm_len3 _ _ _ (by have := size_L A; omega)
    have k4 := fun W (hW : Below w.heap.size w W) => schNormal_any _ s n (B (sNorm s (L n) (L A)).1) W (hV W hW) hs (hE.keep hW) (hU.keep hW) (by omega) hla
    rw [Idn.L_B] at k4
    have k5 := fun W (hW : Below w.heap.size w W) => schCompare_any _ s n A B1 W (hV W hW) hs (hE.keep hW) (hU.keep hW) (by omega) (by omega) (by omega)
    have k6 := fun W (hW : Below w.heap.size w W) => schCompare_any _ s n B1 A W (hV W hW) hs (hE.keep hW) (hU.keep hW) (by omega) (by omega) (by omega)
    have k7 := fun W (hW : Below w.heap.size w W) => schCompare_any _ s n B1 C W (hV W hW) hs (hE.keep hW) (hU.keep hW) (by omega) (by omega) (by omega)
    have k8 := fun W (hW : Below w.heap.size w W) => schCompare_any _ s n A C W (hV W hW) hs (hE.keep hW) (hU.keep hW) (by omega) (by omega) (by omega)
    have law := fun (a b c : Bs) (ha : sNorm s (L n) (L A) = (a, 0)) (hb : sNorm s (L n) (L B1) = (b, 0)) (hc : sNorm s (L n) (L C) = (c, 0)) => orders_law ha hb hc
    clear hla hs hv0 hV hf hl
    generalize sNorm s (L n) (L A) = na at *
    generalize sNorm s (L n) (L B1) = nb at *
    generalize sNorm s (L n) (L C) = nc at *
    obtain ⟨a, ea⟩ := na
    obtain ⟨b, eb⟩ := nb
    obtain ⟨c, ec⟩ := nc
    dsimp only at k1 k2 k3 k4
    have herr : ea ≠ 0 ∨ (ea = 0 ∧ eb ≠ 0) ∨ (ea = 0 ∧ eb = 0 ∧ ec ≠ 0) ∨ (ea = 0 ∧ eb = 0 ∧ ec = 0) := by
      by_cases h1 : ea = 0
      · by_cases h2 : eb = 0
        · by_cases h3 : ec = 0
          · exact .inr (.inr (.inr ⟨h1, h2, h3⟩))
          · exact .inr (.inr (.inl ⟨h1, h2, h3⟩))
        · exact .inr (.inl ⟨h1, h2⟩)
      · exact .inl h1
    rcases herr with e1 | ⟨rfl, e2⟩ | ⟨rfl, rfl, e3⟩ | ⟨rfl, rfl, rfl⟩
    iterate 3
      · clear law k4 k5 k6 k7 k8
        go_enter Tryz.func4, Tryz.ntmps4
        go_wp2_with fail
        with_reducible refine gen2 (R := fun W => Calls Tryz.prog 6 _ W _) ?_
        intro W hbW hszW hc0 hc1
        have a0 : W.cell? ⟨w.heap.size, 0, none⟩ = some (.slice A' s.types.length ca) := hc0 0 _ rfl
        have a1 : W.cell? ⟨w.heap.size, 1, none⟩ = some (.slice A'' s.classes.length cb) := hc0 1 _ rfl
        have b0 : W.cell? ⟨w.heap.size + 1, 0, none⟩ = some (.string n) := hc1 0 _ rfl
        have b1 : W.cell? ⟨w.heap.size + 1, 1, none⟩ = some (.string A) := hc1 1 _ rfl
        have b2 : W.cell? ⟨w.heap.size + 1, 2, none⟩ = some (.string B1) := hc1 2 _ rfl
        have b3 : W.cell? ⟨w.heap.size + 1, 3, none⟩ = some (.string C) := hc1 3 _ rfl
        refine (hF W hbW).mono ?_
        rintro e w1 ⟨rfl, hb1⟩
        replace a0 := cell_later hb1 a0
        replace a1 := cell_later hb1 a1
        replace b0 := cell_later hb1 b0
        replace b1 := cell_later hb1 b1
        replace b2 := cell_later hb1 b2
        replace b3 := cell_later hb1 b3
        have hb := hbW.trans (hb1.mono hbW.size)
        clear hF hc0 hc1 hb1 hbW hszW
        go_wp2_with fail
        refine (k1 w1 hb).mono ?_
        rintro e w2 ⟨rfl, hb2⟩
        replace a0 := cell_later hb2 a0
        replace a1 := cell_later hb2 a1
        replace b0 := cell_later hb2 b0
        replace b1 := cell_later hb2 b1
        replace b2 := cell_later hb2 b2
        replace b3 := cell_later hb2 b3
        replace hb := hb.trans (hb2.mono hb.size)
        clear k1 hb2
        go_wp2_with fail
        refine (k2 w2 hb).mono ?_
        rintro e w3 ⟨rfl, hb3⟩
        replace a0 := cell_later hb3 a0
        replace a1 := cell_later hb3 a1
        replace b0 := cell_later hb3 b0
        replace b1 := cell_later hb3 b1
        replace b2 := cell_later hb3 b2
        replace b3 := cell_later hb3 b3
        replace hb := hb.trans (hb3.mono hb.size)
        clear k2 hb3
        go_wp2_with fail
        refine (k3 w3 hb).mono ?_
        rintro e w4 ⟨rfl, hb4⟩
        replace a0 := cell_later hb4 a0
        replace a1 := cell_later hb4 a1
        replace b0 := cell_later hb4 b0
        replace b1 := cell_later hb4 b1
        replace b2 := cell_later hb4 b2
        replace b3 := cell_later hb4 b3
        replace hb := hb.trans (hb4.mono hb.size)
        clear k3 hb4
        go_wp2_with fail
        refine (hAl w4 hb).mono ?_
        rintro e w5 ⟨rfl, hb5⟩
        go_wp2_with fail
        go_ret
        exact ⟨rfl, hb.trans (hb5.mono hb.size)⟩
    · obtain ⟨l4, p, q, r, t, l5, l6, l7, l8, hp⟩ := law a b c rfl rfl rfl
      have HP := Lib.hid hp
      clear hp law
      rw [l4] at k4
      rw [l5] at k5
      rw [l6] at k6
      rw [l7] at k7
      rw [l8] at k8
      dsimp only at k4 k5 k6 k7 k8
      clear l4 l5 l6 l7 l8
      go_enter Tryz.func4, Tryz.ntmps4
      go_wp2_with fail
      with_reducible refine gen2 (R := fun W => Calls Tryz.prog 6 _ W _) ?_
      intro W hbW hszW hc0 hc1
      have a0 : W.cell? ⟨w.heap.size, 0, none⟩ = some (.slice A' s.types.length ca) := hc0 0 _ rfl
      have a1 : W.cell? ⟨w.heap.size, 1, none⟩ = some (.slice A'' s.classes.length cb) := hc0 1 _ rfl
      have b0 : W.cell? ⟨w.heap.size + 1, 0, none⟩ = some (.string n) := hc1 0 _ rfl
      have b1 : W.cell? ⟨w.heap.size + 1, 1, none⟩ = some (.string A) := hc1 1 _ rfl
      have b2 : W.cell? ⟨w.heap.size + 1, 2, none⟩ = some (.string B1) := hc1 2 _ rfl
      have b3 : W.cell? ⟨w.heap.size + 1, 3, none⟩ = some (.string C) := hc1 3 _ rfl
      refine (hF W hbW).mono ?_
      rintro e w1 ⟨rfl, hb1⟩
      replace a0 := cell_later hb1 a0
      replace a1 := cell_later hb1 a1
      replace b0 := cell_later hb1 b0
      replace b1 := cell_later hb1 b1
      replace b2 := cell_later hb1 b2
      replace b3 := cell_later hb1 b3
      have hb := hbW.trans (hb1.mono hbW.size)
      clear hF hc0 hc1 hb1 hbW hszW
      go_wp2_with fail
      with_reducible refine (k1 w1 hb).mono ?_
      rintro e w2 ⟨rfl, hb2⟩
      replace a0 := cell_later hb2 a0
      replace a1 := cell_later hb2 a1
      replace b0 := cell_later hb2 b0
      replace b1 := cell_later hb2 b1
      replace b2 := cell_later hb2 b2
      replace b3 := cell_later hb2 b3
      replace hb := hb.trans (hb2.mono hb.size)
      clear k1 hb2
      go_wp2_with fail
      with_reducible refine (k2 w2 hb).mono ?_
      rintro e w3 ⟨rfl, hb3⟩
      replace a0 := cell_later hb3 a0
      replace a1 := cell_later hb3 a1
      replace b0 := cell_later hb3 b0
      replace b1 := cell_later hb3 b1
      replace b2 := cell_later hb3 b2
      replace b3 := cell_later hb3 b3
      replace hb := hb.trans (hb3.mono hb.size)
      clear k2 hb3
      go_wp2_with fail
      with_reducible refine (k3 w3 hb).mono ?_
      rintro e w4 ⟨rfl, hb4⟩
      replace a0 := cell_later hb4 a0
      replace a1 := cell_later hb4 a1
      replace b0 := cell_later hb4 b0
      replace b1 := cell_later hb4 b1
      replace b2 := cell_later hb4 b2
      replace b3 := cell_later hb4 b3
      replace hb := hb.trans (hb4.mono hb.size)
      clear k3 hb4
      go_wp2_with fail
      with_reducible refine (k4 w4 hb).mono ?_
      rintro e w5 ⟨rfl, hb5⟩
      replace a0 := cell_later hb5 a0
      replace a1 := cell_later hb5 a1
      replace b0 := cell_later hb5 b0
      replace b1 := cell_later hb5 b1
      replace b2 := cell_later hb5 b2
      replace b3 := cell_later hb5 b3
      replace hb := hb.trans (hb5.mono hb.size)
      clear k4 hb5
      go_wp2_with fail
      with_reducible refine (k5 w5 hb).mono ?_
      rintro e w6 ⟨rfl, hb6⟩
      replace a0 := cell_later hb6 a0
      replace a1 := cell_later hb6 a1
      replace b0 := cell_later hb6 b0
      replace b1 := cell_later hb6 b1
      replace b2 := cell_later hb6 b2
      replace b3 := cell_later hb6 b3
      replace hb := hb.trans (hb6.mono hb.size)
      clear k5 hb6
      go_wp2_with fail
      with_reducible refine (k6 w6 hb).mono ?_
      rintro e w7 ⟨rfl, hb7⟩
      replace a0 := cell_later hb7 a0
      replace a1 := cell_later hb7 a1
      replace b0 := cell_later hb7 b0
      replace b1 := cell_later hb7 b1
      replace b2 := cell_later hb7 b2
      replace b3 := cell_later hb7 b3
      replace hb := hb.trans (hb7.mono hb.size)
      clear k6 hb7
      go_wp2_with fail
      with_reducible refine (k7 w7 hb).mono ?_
      rintro e w8 ⟨rfl, hb8⟩
      replace a0 := cell_later hb8 a0
      replace a1 := cell_later hb8 a1
      replace b0 := cell_later hb8 b0
      replace b1 := cell_later hb8 b1
      replace b2 := cell_later hb8 b2
      replace b3 := cell_later hb8 b3
      replace hb := hb.trans (hb8.mono hb.size)
      clear k7 hb8
      go_wp2_with fail
      with_reducible refine (k8 w8 hb).mono ?_
      rintro e w9 ⟨rfl, hb9⟩
      replace a0 := cell_later hb9 a0
      replace a1 := cell_later hb9 a1
      replace b0 := cell_later hb9 b0
      replace b1 := cell_later hb9 b1
      replace b2 := cell_later hb9 b2
      replace b3 := cell_later hb9 b3
      replace hb := hb.trans (hb9.mono hb.size)
      clear k8 hb9
      obtain ⟨hp, hq, hpe, htr, -⟩ := HP.out
      clear HP
      rcases hp with hp1 | hp1 | hp1
      · obtain hq1 : q = 1 := by omega
        have ht0 : ((B a).toList == (B b).toList) = false := str_not (by rw [Idn.L_B, Idn.L_B]; intro h; have := hpe.2 h; omega)
        by_cases hr : 0 < r
        · clear hpe htr hq
          subst hp1 hq1
          go_wp2_with fail
          refine (hAl w9 hb).mono ?_
          rintro e w10 ⟨rfl, hb10⟩
          go_wp2_with fail
          go_ret
          exact ⟨rfl, hb.trans (hb10.mono hb.size)⟩
        · have ht : t ≤ 0 := htr (by omega) (by omega)
          clear hpe htr hq
          subst hp1 hq1
          go_wp2_with fail
          refine (hAl w9 hb).mono ?_
          rintro e w10 ⟨rfl, hb10⟩
          go_wp2_with fail
          go_ret
          exact ⟨rfl, hb.trans (hb10.mono hb.size)⟩
      · obtain hq1 : q = 0 := by omega
        have hab := hpe.1 hp1
        have ht0 : ((B b).toList == (B b).toList) = true := str_is rfl
        by_cases hr : 0 < r
        · clear hpe htr hq
          subst hp1 hq1 hab
          go_wp2_with fail
          refine (hAl w9 hb).mono ?_
          rintro e w10 ⟨rfl, hb10⟩
          go_wp2_with fail
          go_ret
          exact ⟨rfl, hb.trans (hb10.mono hb.size)⟩
        · have ht : t ≤ 0 := htr (by omega) (by omega)
          clear hpe htr hq
          subst hp1 hq1 hab
          go_wp2_with fail
          refine (hAl w9 hb).mono ?_
          rintro e w10 ⟨rfl, hb10⟩
          go_wp2_with fail
          go_ret
          exact ⟨rfl, hb.trans (hb10.mono hb.size)⟩
      · obtain hq1 : q = -1 := by omega
        have ht0 : ((B a).toList == (B b).toList) = false := str_not (by rw [Idn.L_B, Idn.L_B]; intro h; have := hpe.2 h; omega)
        clear hpe htr hq
        subst hp1 hq1
        go_wp2_with fail
        refine (hAl w9 hb).mono ?_
        rintro e w10 ⟨rfl, hb10⟩
        go_wp2_with fail
        go_ret
        exact ⟨rfl, hb.trans (hb10.mono hb.size)⟩
end Go.Proofs.YtnaaoilflokmfaaGreatDoor
