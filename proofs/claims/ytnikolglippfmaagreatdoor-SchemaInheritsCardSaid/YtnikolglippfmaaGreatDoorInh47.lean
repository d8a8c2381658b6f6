/- Part 47 of the proof that a class requires and allows what its superclass requires and allows, and a valid entry has all that its classes require, and stays valid with its attribute names in upper case: the package variables hold what the program lays; nothing else is asked: the package variables hold what the program lays; nothing else is asked. -/
import Derived.Test.YtnikolglippfmaaGreatDoorInh36
import Derived.Test.YtnikolglippfmaaGreatDoorInh42
import Derived.Test.YtnikolglippfmaaGreatDoorInh46
/- law07: SchemaInherits, walked. -/
namespace Go.Proofs.YtnikolglippfmaaGreatDoor
open Go.RowKit Go.Sort
open Idn (L B Bs drop_L take_L size_L)
theorem light_sm {l : List Idn.Att} (h : light l = true) : l.length ≤ 40 ∧ ∀ a ∈ l, a.name.length ≤ 300 ∧ a.vals.length ≤ 20 ∧ ∀ x ∈ a.vals, x.length ≤ 300 := by
  unfold light at h
  simp only [Bool.and_eq_true, decide_eq_true_eq, List.all_eq_true] at h
  refine ⟨h.2, fun a ha => ?_⟩
  have := h.1 a ha
  unfold lightA at this
  simp only [Bool.and_eq_true, decide_eq_true_eq, List.all_eq_true] at this
  exact this
theorem light_asm {l : List Idn.Att} (h : light l = true) : ASm l ∧ ASm5 l ∧ Idn.ASm7 l := by
  obtain ⟨h1, h2⟩ := light_sm h
  refine ⟨⟨by omega, fun a ha => ⟨by have := (h2 a ha).1; omega, by have := (h2 a ha).2.1; omega, fun x hx => by have := (h2 a ha).2.2 x hx; omega⟩⟩, fun a ha => ⟨by have := (h2 a ha).1; omega, fun x hx => by have := (h2 a ha).2.2 x hx; omega⟩, by omega, fun a ha => ⟨by have := (h2 a ha).1; omega, by have := (h2 a ha).2.1; omega, fun x hx => by have := (h2 a ha).2.2 x hx; omega⟩⟩
theorem raise_asm {l : List Idn.Att} (h : light l = true) : light (raise l) = true := by
  unfold light raise at *
  simp only [Bool.and_eq_true, decide_eq_true_eq, List.all_eq_true, List.length_map, List.mem_map] at *
  refine ⟨?_, h.2⟩
  rintro a ⟨b, hb, rfl⟩
  have := h.1 b hb
  unfold lightA upper at *
  rw [List.length_map]
  exact this
set_option maxHeartbeats 8000000 in
set_option maxRecDepth 100000 in
theorem schemaInherits_any (v u : Value) (s : Idn.Sch) (l : List Idn.Att) (w : World) (hv : SchV w w.heap.size v s) (hu : EntV w w.heap.size u l) (hl : SLen s) (hal : ALen l) (hE : Env w) (hU : EnvU w) :
    Calls Tryz.prog 7 #[v, u] w fun e w' => e = .returned (.bool true) ∧ Below w.heap.size w w' := by
  have hF := fun W (hW : Below w.heap.size w W) => few_any v s W (SchV.mono (SchV.keep hv hW) hW.size) hl.1 hl.2.1 hl.2.2
  have hLg := fun W (hW : Below w.heap.size w W) => light_any u l W (EntV.mono (EntV.keep hu hW) hW.size) hal
  have hAl := fun W (hW : Below w.heap.size w W) => alive_any W (hE.keep hW) (hU.keep hW)
  have hv0 := hv
  have hu0 := hu
  obtain ⟨a, b, rfl, hT, hCl⟩ := hv
  obtain ⟨A', ca, rfl, hca⟩ := SlV.shape hT
  obtain ⟨A'', cb, rfl, hcb⟩ := SlV.shape hCl
  obtain ⟨nm, ea, rfl, hAt⟩ := hu
  obtain ⟨Ae, ce, rfl, hce⟩ := SlV.shape hAt
  clear hT
  have hCk := fun (hs : SSm s) W (hW : Below w.heap.size w W) => schCheck_any _ s W (SchV.mono (SchV.keep hv0 hW) hW.size) hs
  have hsplit : few s = false ∨ (few s = true ∧ light l = false) ∨ (few s = true ∧ light l = true ∧ Idn.sCheck s ≠ 0) ∨ (few s = true ∧ light l = true ∧ Idn.sCheck s = 0) := by
    cases few s
    · exact .inl rfl
    · cases light l
      · exact .inr (.inl ⟨rfl, rfl⟩)
      · by_cases h : Idn.sCheck s = 0
        · exact .inr (.inr (.inr ⟨rfl, rfl, h⟩))
        · exact .inr (.inr (.inl ⟨rfl, rfl, h⟩))
  rcases hsplit with hf | ⟨hf, hlg⟩ | ⟨hf, hlg, hck⟩ | ⟨hf, hlg, hck⟩
  · rw [hf] at hF
    clear hf hCk hLg
    go_enter Tryz.func7, Tryz.ntmps7
    go_wp2_with fail
    with_reducible refine gen2 (R := fun W => Calls Tryz.prog 8 _ W _) ?_
    intro W hbW hszW hc0 hc1
    have a0 : W.cell? ⟨w.heap.size, 0, none⟩ = some (.slice A' s.types.length ca) := hc0 0 _ rfl
    have a1 : W.cell? ⟨w.heap.size, 1, none⟩ = some (.slice A'' s.classes.length cb) := hc0 1 _ rfl
    have b0 : W.cell? ⟨w.heap.size + 1, 0, none⟩ = some (.string nm) := hc1 0 _ rfl
    have b1 : W.cell? ⟨w.heap.size + 1, 1, none⟩ = some (.slice Ae l.length ce) := hc1 1 _ rfl
    refine (hF W hbW).mono ?_
    rintro e w1 ⟨rfl, hb1⟩
    replace a0 := cell_later hb1 a0
    replace a1 := cell_later hb1 a1
    replace b0 := cell_later hb1 b0
    replace b1 := cell_later hb1 b1
    have hb := hbW.trans (hb1.mono hbW.size)
    clear hF hc0 hc1 hb1 hbW hszW
    go_wp2_with fail
    refine (hAl w1 hb).mono ?_
    rintro e w2 ⟨rfl, hb2⟩
    go_wp2_with fail
    go_ret
    exact ⟨rfl, hb.trans (hb2.mono hb.size)⟩
  · rw [hf] at hF
    rw [hlg] at hLg
    clear hf hlg hCk
    go_enter Tryz.func7, Tryz.ntmps7
    go_wp2_with fail
    with_reducible refine gen2 (R := fun W => Calls Tryz.prog 8 _ W _) ?_
    intro W hbW hszW hc0 hc1
    have a0 : W.cell? ⟨w.heap.size, 0, none⟩ = some (.slice A' s.types.length ca) := hc0 0 _ rfl
    have a1 : W.cell? ⟨w.heap.size, 1, none⟩ = some (.slice A'' s.classes.length cb) := hc0 1 _ rfl
    have b0 : W.cell? ⟨w.heap.size + 1, 0, none⟩ = some (.string nm) := hc1 0 _ rfl
    have b1 : W.cell? ⟨w.heap.size + 1, 1, none⟩ = some (.slice Ae l.length ce) := hc1 1 _ rfl
    refine (hF W hbW).mono ?_
    rintro e w1 ⟨rfl, hb1⟩
    replace a0 := cell_later hb1 a0
    replace a1 := cell_later hb1 a1
    replace b0 := cell_later hb1 b0
    replace b1 := cell_later hb1 b1
    have hb := hbW.trans (hb1.mono hbW.size)
    clear hF hc0 hc1 hb1 hbW hszW
    go_wp2_with fail
    with_reducible refine (hLg w1 hb).mono ?_
    rintro e w2 ⟨rfl, hb2⟩
    replace a0 := cell_later hb2 a0
    replace a1 := cell_later hb2 a1
    replace b0 := cell_later hb2 b0
    replace b1 := cell_later hb2 b1
    replace hb := hb.trans (hb2.mono hb.size)
    clear hb2
    go_wp2_with fail
    refine (hAl w2 hb).mono ?_
    rintro e w3 ⟨rfl, hb3⟩
    go_wp2_with fail
    go_ret
    exact ⟨rfl, hb.trans (hb3.mono hb.size)⟩
  · rw [hf] at hF
    rw [hlg] at hLg
    have hCk1 := hCk (few_ssm hf)
    have hce9 : (Idn.sCheck s != 0) = true := by rw [bne_iff_ne]; exact hck
    generalize Idn.sCheck s = er at *
    clear hf hlg hCk hck
    go_enter Tryz.func7, Tryz.ntmps7
    go_wp2_with fail
    with_reducible refine gen2 (R := fun W => Calls Tryz.prog 8 _ W _) ?_
    intro W hbW hszW hc0 hc1
    have a0 : W.cell? ⟨w.heap.size, 0, none⟩ = some (.slice A' s.types.length ca) := hc0 0 _ rfl
    have a1 : W.cell? ⟨w.heap.size, 1, none⟩ = some (.slice A'' s.classes.length cb) := hc0 1 _ rfl
    have b0 : W.cell? ⟨w.heap.size + 1, 0, none⟩ = some (.string nm) := hc1 0 _ rfl
    have b1 : W.cell? ⟨w.heap.size + 1, 1, none⟩ = some (.slice Ae l.length ce) := hc1 1 _ rfl
    refine (hF W hbW).mono ?_
    rintro e w1 ⟨rfl, hb1⟩
    replace a0 := cell_later hb1 a0
    replace a1 := cell_later hb1 a1
    replace b0 := cell_later hb1 b0
    replace b1 := cell_later hb1 b1
    have hb := hbW.trans (hb1.mono hbW.size)
    clear hF hc0 hc1 hb1 hbW hszW
    go_wp2_with fail
    with_reducible refine (hLg w1 hb).mono ?_
    rintro e w2 ⟨rfl, hb2⟩
    replace a0 := cell_later hb2 a0
    replace a1 := cell_later hb2 a1
    replace b0 := cell_later hb2 b0
    replace b1 := cell_later hb2 b1
    replace hb := hb.trans (hb2.mono hb.size)
    clear hb2
    go_wp2_with fail
    with_reducible refine (hCk1 w2 hb).mono ?_
    rintro e w3 ⟨rfl, hb3⟩
    replace a0 := cell_later hb3 a0
    replace a1 := cell_later hb3 a1
    replace b0 := cell_later hb3 b0
    replace b1 := cell_later hb3 b1
    replace hb := hb.trans (hb3.mono hb.size)
    clear hb3
    go_wp2_with fail
    refine (hAl w3 hb).mono ?_
    rintro e w4 ⟨rfl, hb4⟩
    go_wp2_with fail
    go_ret
    exact ⟨rfl, hb.trans (hb4.mono hb.size)⟩
  · rw [hf] at hF
    rw [hlg] at hLg
    have hs := few_ssm hf
    have hCk1 := hCk hs
    rw [hck] at hCk1
    have hso : sound s = s := by unfold sound; rw [if_pos hck]
    have HSO := Lib.hid hso
    have HCK := Lib.hid hck
    have HLG := Lib.hid hlg
    have hbd : Bd s := by have := bd_sound s; rw [hso] at this; exact this
    have hV := fun W (hW : Below w.heap.size w W) => SchV.mono (SchV.keep hv0 hW) hW.size
    have hMu := fun (n : Bs) (hn : n.length ≤ 1000000000) W (hW : Below w.heap.size w W) => schMust_any _ s (B n) W (hV W hW) hs (by rw [Idn.size_B]; exact hn)
    have hMa := fun (n : Bs) (hn : n.length ≤ 1000000000) W (hW : Below w.heap.size w W) => schMay_any _ s (B n) W (hV W hW) hs (by rw [Idn.size_B]; exact hn)
    have hLi := fun (n : Bs) (hn : n.length ≤ 1000000000) W (hW : Below w.heap.size w W) => schLineage_any _ s (B n) W (hV W hW) hs (by rw [Idn.size_B]; exact hn)
    rw [hso] at hMu hMa hLi
    simp only [Idn.L_B] at hMu hMa hLi
    have hmul := fun n => mustL_len hbd n
    have hmal := fun n => mayL_len hbd n
    obtain ⟨hasm, hasm5, hasm7⟩ := light_asm hlg
    have hAtW := fun W (hW : Below w.heap.size w W) => AttsV.mono (AttsV.keep hAt hW) hW.size
    have k5 := fun W (hW : Below w.heap.size w W) => valid_any _ s nm _ l W (hV W hW) hs (hE.keep hW) (hU.keep hW) (hAtW W hW) hasm hasm5
    clear hf hlg hCk hck hso
    go_enter Tryz.func7, Tryz.ntmps7
    go_wp2_with fail
    with_reducible refine gen2 (R := fun W => Calls Tryz.prog 8 _ W _) ?_
    intro W hbW hszW hc0 hc1
    have a0 : W.cell? ⟨w.heap.size, 0, none⟩ = some (.slice A' s.types.length ca) := hc0 0 _ rfl
    have a1 : W.cell? ⟨w.heap.size, 1, none⟩ = some (.slice A'' s.classes.length cb) := hc0 1 _ rfl
    have b0 : W.cell? ⟨w.heap.size + 1, 0, none⟩ = some (.string nm) := hc1 0 _ rfl
    have b1 : W.cell? ⟨w.heap.size + 1, 1, none⟩ = some (.slice Ae l.length ce) := hc1 1 _ rfl
    refine (hF W hbW).mono ?_
    rintro e w1 ⟨rfl, hb1⟩
    replace a0 := cell_later hb1 a0
    replace a1 := cell_later hb1 a1
    replace b0 := cell_later hb1 b0
    replace b1 := cell_later hb1 b1
    have hb := hbW.trans (hb1.mono hbW.size)
    clear hF hc0 hc1 hb1 hbW hszW
    go_wp2_with fail
    with_reducible refine (hLg w1 hb).mono ?_
    rintro e w2 ⟨rfl, hb2⟩
    replace a0 := cell_later hb2 a0
    replace a1 := cell_later hb2 a1
    replace b0 := cell_later hb2 b0
    replace b1 := cell_later hb2 b1
    replace hb := hb.trans (hb2.mono hb.size)
    clear hb2
    go_wp2_with fail
    with_reducible refine (hCk1 w2 hb).mono ?_
    rintro e w3 ⟨rfl, hb3⟩
    replace a0 := cell_later hb3 a0
    replace a1 := cell_later hb3 a1
    replace b0 := cell_later hb3 b0
    replace b1 := cell_later hb3 b1
    replace hb := hb.trans (hb3.mono hb.size)
    clear hb3
    clear hLg hCk1
    go_wp2
    go_loopw [5] (fun i wr => ∃ k : Nat, k ≤ s.classes.length ∧ i = .int .i64 k ∧ Below w3.heap.size w3 wr) (fun i _ => s.classes.length - (intOf i).toNat)
    case atStart => exact ⟨0, Nat.zero_le _, rfl, Below.refl _ _⟩
    case round =>
      obtain ⟨k, hk, rfl, hbk⟩ := hrel
      have hbw := hb.trans (hbk.mono hb.size)
      replace a0 := cell_later hbk a0
      replace a1 := cell_later hbk a1
      replace b0 := cell_later hbk b0
      replace b1 := cell_later hbk b1
      by_cases hlt : k < s.classes.length
      · have hltI : (k : Int) < (s.classes.length : Int) := by omega
        obtain ⟨bb, off, vm, vn, rfl, hbl, c0, c1, c2, c3, hm0, hn0⟩ := ClassesV.cell (ClassesV.keep hCl hbw) hlt
        obtain ⟨Am, cm, rfl, hcm⟩ := SlV.shape hm0
        obtain ⟨An, cn, rfl, hcn⟩ := SlV.shape hn0
        obtain ⟨wk, hwk⟩ : ∃ wk : World, wk = wr := ⟨_, rfl⟩
        subst hwk
        have hcl9 : s.classes.length ≤ 1000000000 := hs.2.1
        have hsz1 := (hs.2.2 _ (List.getElem_mem hlt)).1
        have hsz2 := (hs.2.2 _ (List.getElem_mem hlt)).2.1
        have l12 := must_may s s.classes[k].name
        have l31 := must_super HCK.out hlt
        have l42 := may_super HCK.out hlt
        have hq1 := hmul s.classes[k].name
        have hq2 := hmal s.classes[k].name
        have hq3 := hmul s.classes[k].super
        have hq4 := hmal s.classes[k].super
        have hMu1 := hMu s.classes[k].name hsz1
        have hMa1 := hMa s.classes[k].name hsz1
        have hMu2 := hMu s.classes[k].super hsz2
        have hMa2 := hMa s.classes[k].super hsz2
        generalize mustL s s.classes[k].name = q1 at *
        generalize mayL s s.classes[k].name = q2 at *
        generalize mustL s s.classes[k].super = q3 at *
        generalize mayL s s.classes[k].super = q4 at *
        generalize s.classes[k].name = nmk at *
        generalize s.classes[k].super = sup at *
        go_upto_region 7 with fail
        with_reducible refine gen1 (R := fun W => Code.wp Tryz.prog _ _ _ W) ?_
        intro W5 hbW5 hszW5 hc5 _
        have d0 : W5.cell? ⟨wk.heap.size, 0, none⟩ = some (.string (B nmk)) := hc5 0 _ rfl
        have d1 : W5.cell? ⟨wk.heap.size, 1, none⟩ = some (.string (B sup)) := hc5 1 _ rfl
        replace a0 := cell_later hbW5 a0
        replace a1 := cell_later hbW5 a1
        have hb5 := hbw.trans (hbW5.mono hbw.size)
        have hbk5 := hbk.trans (hbW5.mono hbk.size)
        have hS : ∀ W', Below W5.heap.size W5 W' → W'.cell? ⟨w.heap.size, 0, none⟩ = some (.slice A' s.types.length ca) ∧ W'.cell? ⟨w.heap.size, 1, none⟩ = some (.slice (some ⟨bb, off, none⟩) s.classes.length cb) ∧ W'.cell? ⟨wk.heap.size, 0, none⟩ = some (.string (B nmk)) ∧ W'.cell? ⟨wk.heap.size, 1, none⟩ = some (.string (B sup)) ∧ Below W5.heap.size W5 W' := fun W' hW => ⟨cell_later hW a0, cell_later hW a1, cell_later hW d0, cell_later hW d1, hW⟩
        have m1 := fun W (hW : Below W5.heap.size W5 W) => hMu1 W (hb5.trans (hW.mono hb5.size))
        have m2 := fun W (hW : Below W5.heap.size W5 W) => hMa1 W (hb5.trans (hW.mono hb5.size))
        have m3 := fun W (hW : Below W5.heap.size W5 W) => hMu2 W (hb5.trans (hW.mono hb5.size))
        have m4 := fun W (hW : Below W5.heap.size W5 W) => hMa2 W (hb5.trans (hW.mono hb5.size))
        have u12 := fun (W : World) (v u : Value) (h1 : StrsV W W.heap.size v q1) (h2 : StrsV W W.heap.size u q2) => subset_any v u q1 q2 W h1 h2 (by omega) (by omega) l12
        have hw0 := Below.refl W5.heap.size W5
        have hsp : (sup = [] ∨ sup ≠ []) := by by_cases h : sup = [] <;> simp [h]
        clear hc5 hszW5 c0 c1 c2 c3 b0 b1 d0 d1 hMu1 hMa1 hMu2 hMa2 hMu hMa hLi hm0 hn0 l12 a0 a1 k5 hmul hmal hV hAtW hAl hsz1 hsz2
        rcases hsp with hsp | hsp
        · have ts : (B sup).toList.isEmpty = true := by rw [toList_L, Idn.L_B, hsp]; rfl
          clear l31 l42 hsp m3 m4 hq3 hq4
          refine wp_region_held_drew (S := fun W' => W'.cell? ⟨w.heap.size, 0, none⟩ = some (.slice A' s.types.length ca) ∧ W'.cell? ⟨w.heap.size, 1, none⟩ = some (.slice (some ⟨bb, off, none⟩) s.classes.length cb) ∧ W'.cell? ⟨wk.heap.size, 0, none⟩ = some (.string (B nmk)) ∧ W'.cell? ⟨wk.heap.size, 1, none⟩ = some (.string (B sup)) ∧ Below W5.heap.size W5 W') (by kernel_rfl) ?_ (fun hHeld => ?_)
          · (try dsimp only); refine hS _ ?_; repeat (first | with_reducible exact Below.refl _ _ | with_reducible apply Below.drew)
          refine wpAnyH_take (i := 0) (oi := ⟨_, _, _, _, _, _⟩) (v := ?v0) rfl (by kernel_rfl) (by kernel_rfl) (by kernel_rfl) (fun _ _ _ h => h) (Or.inl ⟨by rfl, ?h0⟩) (by assumption) ?r0
          rotate_left 1
          · (intro w hSw; (try dsimp only at hSw); go_simp; (try with_reducible rfl))
          try simp only [Act.put, List.setIfInBounds_toArray, List.set_cons_zero, List.set_cons_succ]
          refine wpAnyH_take (i := 1) (oi := ⟨_, _, _, _, _, _⟩) (v := ?v1) rfl (by kernel_rfl) (by kernel_rfl) (by kernel_rfl) (fun _ _ _ h => h) (Or.inl ⟨by rfl, ?h1⟩) (by assumption) ?r1
          rotate_left 1
          · (intro w hSw; (try dsimp only at hSw); go_simp; (try with_reducible rfl))
          try simp only [Act.put, List.setIfInBounds_toArray, List.set_cons_zero, List.set_cons_succ]
          refine wpAnyH_take (i := 2) (oi := ⟨_, _, _, _, _, _⟩) (v := ?v2) rfl (by kernel_rfl) (by kernel_rfl) (by kernel_rfl) (fun _ _ _ h => h) (Or.inl ⟨by rfl, ?h2⟩) (by assumption) ?r2
          rotate_left 1
          · (intro w hSw; (try dsimp only at hSw); go_simp; (try with_reducible rfl))
          try simp only [Act.put, List.setIfInBounds_toArray, List.set_cons_zero, List.set_cons_succ]
          refine wpAnyH_take (i := 4) (oi := ⟨_, _, _, _, _, _⟩) (v := ?v4) rfl (by kernel_rfl) (by kernel_rfl) (by kernel_rfl) (fun _ _ _ h => h) (Or.inl ⟨by rfl, ?h4⟩) (by assumption) ?r4
          rotate_left 1
          · (intro w hSw; (try dsimp only at hSw); go_simp; (try with_reducible rfl))
          try simp only [Act.put, List.setIfInBounds_toArray, List.set_cons_zero, List.set_cons_succ]
          refine wpAnyH_take (i := 5) (oi := ⟨_, _, _, _, _, _⟩) (v := ?v5) rfl (by kernel_rfl) (by kernel_rfl) (by kernel_rfl) (fun _ _ _ h => h) (Or.inl ⟨by rfl, ?h5⟩) (by assumption) ?r5
          rotate_left 1
          · (intro w hSw; (try dsimp only at hSw); go_simp; (try with_reducible rfl))
          try simp only [Act.put, List.setIfInBounds_toArray, List.set_cons_zero, List.set_cons_succ]
          refine wpAnyH_take (i := 6) (oi := ⟨_, _, _, _, _, _⟩) (v := ?v6) rfl (by kernel_rfl) (by kernel_rfl) (by kernel_rfl) (fun _ _ _ h => h) (Or.inl ⟨by rfl, ?h6⟩) (by assumption) ?r6
          rotate_left 1
          · (intro w hSw; (try dsimp only at hSw); go_simp; (try with_reducible rfl))
          try simp only [Act.put, List.setIfInBounds_toArray, List.set_cons_zero, List.set_cons_succ]
          refine wpAnyH_ready (rs := [3]) (by kernel_rfl) (by simp) ?_
          refine AllReadyH.cons (o := ⟨_, _, _, _, _, _⟩) rfl (fun K hK => ?_) AllReadyH.nil
          go_simp
          go_at_call 24; refine (m1 _ (by repeat (first | with_reducible exact Below.refl _ _ | with_reducible apply Below.drew))).mono ?_; rintro e x1 ⟨v1, rfl, o1, ha1⟩; have r1 := StrsV.of_own (l := q1) o1; obtain ⟨A1, z1, hz1⟩ := own_shape o1; subst hz1
          try go_wp2_with fail
          refine hK.out _ _ ?_ (fun hHeld => ?_)
          · (try dsimp only); refine hS _ ?_; repeat (first | with_reducible exact Below.refl _ _ | with_reducible apply Below.drew | with_reducible refine Below.on ?_ ha1)
          clear hK K
          try simp only [Act.put, List.setIfInBounds_toArray, List.set_cons_zero, List.set_cons_succ]
          refine wpAnyH_ready (rs := [7]) (by kernel_rfl) (by simp) ?_
          refine AllReadyH.cons (o := ⟨_, _, _, _, _, _⟩) rfl (fun K hK => ?_) AllReadyH.nil
          go_simp
          go_at_call 25; refine (m2 _ (by repeat (first | with_reducible exact Below.refl _ _ | with_reducible apply Below.drew | with_reducible refine Below.on ?_ ha1))).mono ?_; rintro e x2 ⟨v2, rfl, o2, ha2⟩; have r2 := StrsV.of_own (l := q2) o2; obtain ⟨A2, z2, hz2⟩ := own_shape o2; subst hz2
          try go_wp2_with fail
          refine hK.out _ _ ?_ (fun hHeld => ?_)
          · (try dsimp only); refine hS _ ?_; repeat (first | with_reducible exact Below.refl _ _ | with_reducible apply Below.drew | with_reducible refine Below.on ?_ ha1 | with_reducible refine Below.on ?_ ha2)
          clear hK K
          try simp only [Act.put, List.setIfInBounds_toArray, List.set_cons_zero, List.set_cons_succ]
          refine wpAnyH_ready (rs := [8]) (by kernel_rfl) (by simp) ?_
          refine AllReadyH.cons (o := ⟨_, _, _, _, _, _⟩) rfl (fun K hK => ?_) AllReadyH.nil
          go_simp
          go_at_call 23; with_reducible refine (u12 _ _ _ (SlV.mono (SlV.keep r1 ha2) ha2.size) r2).mono ?_; rintro e x3 ⟨rfl, ha3⟩
          try go_wp2_with fail
          refine hK.out _ _ ?_ (fun hHeld => ?_)
          · (try dsimp only); refine hS _ ?_; repeat (first | with_reducible exact Below.refl _ _ | with_reducible apply Below.drew | with_reducible refine Below.on ?_ ha1 | with_reducible refine Below.on ?_ ha2 | with_reducible refine Below.on ?_ ha3)
          clear hK K
          try simp only [Act.put, List.setIfInBounds_toArray, List.set_cons_zero, List.set_cons_succ]
          refine wpAnyH_take (i := 9) (oi := ⟨_, _, _, _, _, _⟩) (v := ?v9) rfl (by kernel_rfl) (by kernel_rfl) (by kernel_rfl) (fun _ _ _ h => h) (Or.inl ⟨by rfl, ?h9⟩) (by assumption) ?r9
          rotate_left 1
          · (intro w hSw; (try dsimp only at hSw); go_simp; (try with_reducible rfl))
          try simp only [Act.put, List.setIfInBounds_toArray, List.set_cons_zero, List.set_cons_succ]
          refine wpAnyH_take (i := 10) (oi := ⟨_, _, _, _, _, _⟩) (v := ?v10) rfl (by kernel_rfl) (by kernel_rfl) (by kernel_rfl) (fun _ _ _ h => h) (Or.inl ⟨by rfl, ?h10⟩) (by assumption) ?r10
          rotate_left 1
          · (intro w hSw; (try dsimp only at hSw); go_simp; (try with_reducible rfl))
          try simp only [Act.put, List.setIfInBounds_toArray, List.set_cons_zero, List.set_cons_succ]
          refine wpAnyH_take (i := 11) (oi := ⟨_, _, _, _, _, _⟩) (v := ?v11) rfl (by kernel_rfl) (by kernel_rfl) (by kernel_rfl) (fun _ _ _ h => h) (Or.inl ⟨by rfl, ?h11⟩) (by assumption) ?r11
          rotate_left 1
          · (intro w hSw; (try dsimp only at hSw); go_simp; (try with_reducible rfl))
          try simp only [Act.put, List.setIfInBounds_toArray, List.set_cons_zero, List.set_cons_succ]
          refine wpAnyH_take (i := 12) (oi := ⟨_, _, _, _, _, _⟩) (v := ?v12) rfl (by kernel_rfl) (by kernel_rfl) (by kernel_rfl) (fun _ _ _ h => h) (Or.inl ⟨by rfl, ?h12⟩) (by assumption) ?r12
          rotate_left 1
          · (intro w hSw; (try dsimp only at hSw); go_simp; (try with_reducible rfl))
          try simp only [Act.put, List.setIfInBounds_toArray, List.set_cons_zero, List.set_cons_succ]
          refine wpAnyH_take (i := 13) (oi := ⟨_, _, _, _, _, _⟩) (v := ?v13) rfl (by kernel_rfl) (by kernel_rfl) (by kernel_rfl) (fun _ _ _ h => h) (Or.inl ⟨by rfl, ?h13⟩) (by assumption) ?r13
          rotate_left 1
          · (intro w hSw; (try dsimp only at hSw); go_simp; (try with_reducible rfl))
          try simp only [Act.put, List.setIfInBounds_toArray, List.set_cons_zero, List.set_cons_succ]
          refine wpAnyH_take (i := 14) (oi := ⟨_, _, _, _, _, _⟩) (v := ?v14) rfl (by kernel_rfl) (by kernel_rfl) (by kernel_rfl) (fun _ _ _ h => h) (Or.inl ⟨by rfl, ?h14⟩) (by assumption) ?r14
          rotate_left 1
          · (intro w hSw; (try dsimp only at hSw); go_simp; (try with_reducible rfl))
          try simp only [Act.put, List.setIfInBounds_toArray, List.set_cons_zero, List.set_cons_succ]
          refine wpAnyH_take (i := 15) (oi := ⟨_, _, _, _, _, _⟩) (v := undef) rfl (by kernel_rfl) (by kernel_rfl) (by kernel_rfl) (fun _ _ _ h => h) (Or.inr ⟨by rfl, rfl⟩) (by assumption) ?_
          try simp only [Act.put, List.setIfInBounds_toArray, List.set_cons_zero, List.set_cons_succ]
          refine wpAnyH_take (i := 16) (oi := ⟨_, _, _, _, _, _⟩) (v := undef) rfl (by kernel_rfl) (by kernel_rfl) (by kernel_rfl) (fun _ _ _ h => h) (Or.inr ⟨by rfl, rfl⟩) (by assumption) ?_
          try simp only [Act.put, List.setIfInBounds_toArray, List.set_cons_zero, List.set_cons_succ]
          refine wpAnyH_take (i := 17) (oi := ⟨_, _, _, _, _, _⟩) (v := undef) rfl (by kernel_rfl) (by kernel_rfl) (by kernel_rfl) (fun _ _ _ h => h) (Or.inr ⟨by rfl, rfl⟩) (by assumption) ?_
          try simp only [Act.put, List.setIfInBounds_toArray, List.set_cons_zero, List.set_cons_succ]
          refine wpAnyH_take (i := 18) (oi := ⟨_, _, _, _, _, _⟩) (v := undef) rfl (by kernel_rfl) (by kernel_rfl) (by kernel_rfl) (fun _ _ _ h => h) (Or.inr ⟨by rfl, rfl⟩) (by assumption) ?_
          try simp only [Act.put, List.setIfInBounds_toArray, List.set_cons_zero, List.set_cons_succ]
          refine wpAnyH_take (i := 19) (oi := ⟨_, _, _, _, _, _⟩) (v := undef) rfl (by kernel_rfl) (by kernel_rfl) (by kernel_rfl) (fun _ _ _ h => h) (Or.inr ⟨by rfl, rfl⟩) (by assumption) ?_
          try simp only [Act.put, List.setIfInBounds_toArray, List.set_cons_zero, List.set_cons_succ]
          refine wpAnyH_take (i := 20) (oi := ⟨_, _, _, _, _, _⟩) (v := undef) rfl (by kernel_rfl) (by kernel_rfl) (by kernel_rfl) (fun _ _ _ h => h) (Or.inr ⟨by rfl, rfl⟩) (by assumption) ?_
          try simp only [Act.put, List.setIfInBounds_toArray, List.set_cons_zero, List.set_cons_succ]
          refine wpAnyH_take (i := 21) (oi := ⟨_, _, _, _, _, _⟩) (v := undef) rfl (by kernel_rfl) (by kernel_rfl) (by kernel_rfl) (fun _ _ _ h => h) (Or.inr ⟨by rfl, rfl⟩) (by assumption) ?_
          try simp only [Act.put, List.setIfInBounds_toArray, List.set_cons_zero, List.set_cons_succ]
          refine wpAnyH_take (i := 22) (oi := ⟨_, _, _, _, _, _⟩) (v := undef) rfl (by kernel_rfl) (by kernel_rfl) (by kernel_rfl) (fun _ _ _ h => h) (Or.inr ⟨by rfl, rfl⟩) (by assumption) ?_
          try simp only [Act.put, List.setIfInBounds_toArray, List.set_cons_zero, List.set_cons_succ]
          refine wpAnyH_take (i := 23) (oi := ⟨_, _, _, _, _, _⟩) (v := undef) rfl (by kernel_rfl) (by kernel_rfl) (by kernel_rfl) (fun _ _ _ h => h) (Or.inr ⟨by rfl, rfl⟩) (by assumption) ?_
          try simp only [Act.put, List.setIfInBounds_toArray, List.set_cons_zero, List.set_cons_succ]
          refine wpAnyH_take (i := 24) (oi := ⟨_, _, _, _, _, _⟩) (v := undef) rfl (by kernel_rfl) (by kernel_rfl) (by kernel_rfl) (fun _ _ _ h => h) (Or.inr ⟨by rfl, rfl⟩) (by assumption) ?_
          try simp only [Act.put, List.setIfInBounds_toArray, List.set_cons_zero, List.set_cons_succ]
          refine wpAnyH_take (i := 25) (oi := ⟨_, _, _, _, _, _⟩) (v := undef) rfl (by kernel_rfl) (by kernel_rfl) (by kernel_rfl) (fun _ _ _ h => h) (Or.inr ⟨by rfl, rfl⟩) (by assumption) ?_
          try simp only [Act.put, List.setIfInBounds_toArray, List.set_cons_zero, List.set_cons_succ]
          refine wpAnyH_take (i := 26) (oi := ⟨_, _, _, _, _, _⟩) (v := undef) rfl (by kernel_rfl) (by kernel_rfl) (by kernel_rfl) (fun _ _ _ h => h) (Or.inr ⟨by rfl, rfl⟩) (by assumption) ?_
          try simp only [Act.put, List.setIfInBounds_toArray, List.set_cons_zero, List.set_cons_succ]
          refine wpAnyH_take (i := 27) (oi := ⟨_, _, _, _, _, _⟩) (v := undef) rfl (by kernel_rfl) (by kernel_rfl) (by kernel_rfl) (fun _ _ _ h => h) (Or.inr ⟨by rfl, rfl⟩) (by assumption) ?_
          try simp only [Act.put, List.setIfInBounds_toArray, List.set_cons_zero, List.set_cons_succ]
          refine wpAnyH_take (i := 28) (oi := ⟨_, _, _, _, _, _⟩) (v := undef) rfl (by kernel_rfl) (by kernel_rfl) (by kernel_rfl) (fun _ _ _ h => h) (Or.inr ⟨by rfl, rfl⟩) (by assumption) ?_
          try simp only [Act.put, List.setIfInBounds_toArray, List.set_cons_zero, List.set_cons_succ]
          refine wpAnyH_take (i := 29) (oi := ⟨_, _, _, _, _, _⟩) (v := undef) rfl (by kernel_rfl) (by kernel_rfl) (by kernel_rfl) (fun _ _ _ h => h) (Or.inr ⟨by rfl, rfl⟩) (by assumption) ?_
          try simp only [Act.put, List.setIfInBounds_toArray, List.set_cons_zero, List.set_cons_succ]
          refine wpAnyH_take (i := 30) (oi := ⟨_, _, _, _, _, _⟩) (v := undef) rfl (by kernel_rfl) (by kernel_rfl) (by kernel_rfl) (fun _ _ _ h => h) (Or.inr ⟨by rfl, rfl⟩) (by assumption) ?_
          try simp only [Act.put, List.setIfInBounds_toArray, List.set_cons_zero, List.set_cons_succ]
          refine wpAnyH_take (i := 31) (oi := ⟨_, _, _, _, _, _⟩) (v := undef) rfl (by kernel_rfl) (by kernel_rfl) (by kernel_rfl) (fun _ _ _ h => h) (Or.inr ⟨by rfl, rfl⟩) (by assumption) ?_
          try simp only [Act.put, List.setIfInBounds_toArray, List.set_cons_zero, List.set_cons_succ]
          refine wpAnyH_take (i := 32) (oi := ⟨_, _, _, _, _, _⟩) (v := undef) rfl (by kernel_rfl) (by kernel_rfl) (by kernel_rfl) (fun _ _ _ h => h) (Or.inr ⟨by rfl, rfl⟩) (by assumption) ?_
          try simp only [Act.put, List.setIfInBounds_toArray, List.set_cons_zero, List.set_cons_succ]
          refine wpAnyH_take (i := 33) (oi := ⟨_, _, _, _, _, _⟩) (v := undef) rfl (by kernel_rfl) (by kernel_rfl) (by kernel_rfl) (fun _ _ _ h => h) (Or.inr ⟨by rfl, rfl⟩) (by assumption) ?_
          try simp only [Act.put, List.setIfInBounds_toArray, List.set_cons_zero, List.set_cons_succ]
          refine wpAnyH_take (i := 34) (oi := ⟨_, _, _, _, _, _⟩) (v := undef) rfl (by kernel_rfl) (by kernel_rfl) (by kernel_rfl) (fun _ _ _ h => h) (Or.inr ⟨by rfl, rfl⟩) (by assumption) ?_
          try simp only [Act.put, List.setIfInBounds_toArray, List.set_cons_zero, List.set_cons_succ]
          refine wpAnyH_take (i := 35) (oi := ⟨_, _, _, _, _, _⟩) (v := undef) rfl (by kernel_rfl) (by kernel_rfl) (by kernel_rfl) (fun _ _ _ h => h) (Or.inr ⟨by rfl, rfl⟩) (by assumption) ?_
          try simp only [Act.put, List.setIfInBounds_toArray, List.set_cons_zero, List.set_cons_succ]
          refine wpAnyH_take (i := 36) (oi := ⟨_, _, _, _, _, _⟩) (v := undef) rfl (by kernel_rfl) (by kernel_rfl) (by kernel_rfl) (fun _ _ _ h => h) (Or.inr ⟨by rfl, rfl⟩) (by assumption) ?_
          try simp only [Act.put, List.setIfInBounds_toArray, List.set_cons_zero, List.set_cons_succ]
          refine wpAnyH_take (i := 37) (oi := ⟨_, _, _, _, _, _⟩) (v := ?v37) rfl (by kernel_rfl) (by kernel_rfl) (by kernel_rfl) (fun _ _ _ h => h) (Or.inl ⟨by rfl, ?h37⟩) (by assumption) ?r37
          rotate_left 1
          · (intro w hSw; (try dsimp only at hSw); go_simp; (try with_reducible rfl))
          try simp only [Act.put, List.setIfInBounds_toArray, List.set_cons_zero, List.set_cons_succ]
          refine wpAnyH_take (i := 38) (oi := ⟨_, _, _, _, _, _⟩) (v := ?v38) rfl (by kernel_rfl) (by kernel_rfl) (by kernel_rfl) (fun _ _ _ h => h) (Or.inl ⟨by rfl, ?h38⟩) (by assumption) ?r38
          rotate_left 1
          · (intro w hSw; (try dsimp only at hSw); go_simp; (try with_reducible rfl))
          try simp only [Act.put, List.setIfInBounds_toArray, List.set_cons_zero, List.set_cons_succ]
          refine wpAnyH_done (by kernel_rfl) ?_ _
          all_goals
            have hfin : Below W5.heap.size W5 x3 := by repeat (first | with_reducible exact Below.refl _ _ | with_reducible apply Below.drew | with_reducible refine Below.on ?_ ha1 | with_reducible refine Below.on ?_ ha2 | with_reducible refine Below.on ?_ ha3)
            go_wp2_with fail
            go_roundw
            case rel => exact ⟨k + 1, by omega, by go_num, hbk5.trans (hfin.mono hbk5.size)⟩
            case measure => simp [intOf]; omega
        · have ts : (B sup).toList.isEmpty = false := by
            rw [toList_L, Idn.L_B]
            cases hx : sup with
            | nil => exact absurd hx hsp
            | cons a b => rfl
          have u31 := fun (W : World) (v u : Value) (h1 : StrsV W W.heap.size v q3) (h2 : StrsV W W.heap.size u q1) => subset_any v u q3 q1 W h1 h2 (by omega) (by omega) (l31 hsp)
          have u42 := fun (W : World) (v u : Value) (h1 : StrsV W W.heap.size v q4) (h2 : StrsV W W.heap.size u q2) => subset_any v u q4 q2 W h1 h2 (by omega) (by omega) (l42 hsp)
          clear l31 l42 hsp
          first
          | go_region_held3 (fun W' => W'.cell? ⟨w.heap.size, 0, none⟩ = some (.slice A' s.types.length ca) ∧ W'.cell? ⟨w.heap.size, 1, none⟩ = some (.slice (some ⟨bb, off, none⟩) s.classes.length cb) ∧ W'.cell? ⟨wk.heap.size, 0, none⟩ = some (.string (B nmk)) ∧ W'.cell? ⟨wk.heap.size, 1, none⟩ = some (.string (B sup)) ∧ Below W5.heap.size W5 W')
              (first | (refine hS _ ?_; repeat (first | with_reducible exact Below.refl _ _ | with_reducible apply Below.drew | with_reducible refine Below.on ?_ ha1 | with_reducible refine Below.on ?_ ha2 | with_reducible refine Below.on ?_ ha3 | with_reducible refine Below.on ?_ ha4 | with_reducible refine Below.on ?_ ha5 | with_reducible refine Below.on ?_ ha6 | with_reducible refine Below.on ?_ ha7 | with_reducible refine Below.on ?_ ha8 | with_reducible refine Below.on ?_ ha9)))
              (first
                | ((fail_if_success (have := ha1)); go_at_call 24; refine (m1 _ (by ((repeat (first | with_reducible exact Below.refl _ _ | with_reducible apply Below.drew)); done))).mono ?_; rintro e x1 ⟨v1, rfl, o1, ha1⟩; have r1 := StrsV.of_own (l := q1) o1; obtain ⟨A1, z1, hz1⟩ := own_shape o1; subst hz1)
                | ((fail_if_success (have := ha2)); (fail_if_success (fail_if_success (have := ha1))); go_at_call 25; refine (m2 _ (by ((repeat (first | with_reducible exact Below.refl _ _ | with_reducible apply Below.drew | with_reducible refine Below.on ?_ ha1)); done))).mono ?_; rintro e x2 ⟨v2, rfl, o2, ha2⟩; have r2 := StrsV.of_own (l := q2) o2; obtain ⟨A2, z2, hz2⟩ := own_shape o2; subst hz2)
                | ((fail_if_success (have := ha3)); (fail_if_success (fail_if_success (have := ha2))); go_at_call 23; with_reducible refine (u12 _ _ _ (SlV.mono (SlV.keep r1 ha2) ha2.size) r2).mono ?_; rintro e x3 ⟨rfl, ha3⟩)
                | ((fail_if_success (have := ha4)); (fail_if_success (fail_if_success (have := ha3))); go_at_call 24; refine (m3 _ (by ((repeat (first | with_reducible exact Below.refl _ _ | with_reducible apply Below.drew | with_reducible refine Below.on ?_ ha1 | with_reducible refine Below.on ?_ ha2 | with_reducible refine Below.on ?_ ha3)); done))).mono ?_; rintro e x4 ⟨v4, rfl, o4, ha4⟩; have r4 := StrsV.of_own (l := q3) o4; obtain ⟨A4, z4, hz4⟩ := own_shape o4; subst hz4)
                | ((fail_if_success (have := ha5)); (fail_if_success (fail_if_success (have := ha4))); go_at_call 24; refine (m1 _ (by ((repeat (first | with_reducible exact Below.refl _ _ | with_reducible apply Below.drew | with_reducible refine Below.on ?_ ha1 | with_reducible refine Below.on ?_ ha2 | with_reducible refine Below.on ?_ ha3 | with_reducible refine Below.on ?_ ha4)); done))).mono ?_; rintro e x5 ⟨v5, rfl, o5, ha5⟩; have r5 := StrsV.of_own (l := q1) o5; obtain ⟨A5, z5, hz5⟩ := own_shape o5; subst hz5)
                | ((fail_if_success (have := ha6)); (fail_if_success (fail_if_success (have := ha5))); go_at_call 23; with_reducible refine (u31 _ _ _ (SlV.mono (SlV.keep r4 ha5) ha5.size) r5).mono ?_; rintro e x6 ⟨rfl, ha6⟩)
                | ((fail_if_success (have := ha7)); (fail_if_success (fail_if_success (have := ha6))); go_at_call 25; refine (m4 _ (by ((repeat (first | with_reducible exact Below.refl _ _ | with_reducible apply Below.drew | with_reducible refine Below.on ?_ ha1 | with_reducible refine Below.on ?_ ha2 | with_reducible refine Below.on ?_ ha3 | with_reducible refine Below.on ?_ ha4 | with_reducible refine Below.on ?_ ha5 | with_reducible refine Below.on ?_ ha6)); done))).mono ?_; rintro e x7 ⟨v7, rfl, o7, ha7⟩; have r7 := StrsV.of_own (l := q4) o7; obtain ⟨A7, z7, hz7⟩ := own_shape o7; subst hz7)
                | ((fail_if_success (have := ha8)); (fail_if_success (fail_if_success (have := ha7))); go_at_call 25; refine (m2 _ (by ((repeat (first | with_reducible exact Below.refl _ _ | with_reducible apply Below.drew | with_reducible refine Below.on ?_ ha1 | with_reducible refine Below.on ?_ ha2 | with_reducible refine Below.on ?_ ha3 | with_reducible refine Below.on ?_ ha4 | with_reducible refine Below.on ?_ ha5 | with_reducible refine Below.on ?_ ha6 | with_reducible refine Below.on ?_ ha7)); done))).mono ?_; rintro e x8 ⟨v8, rfl, o8, ha8⟩; have r8 := StrsV.of_own (l := q2) o8; obtain ⟨A8, z8, hz8⟩ := own_shape o8; subst hz8)
                | ((fail_if_success (have := ha9)); (fail_if_success (fail_if_success (have := ha8))); go_at_call 23; with_reducible refine (u42 _ _ _ (SlV.mono (SlV.keep r7 ha8) ha8.size) r8).mono ?_; rintro e x9 ⟨rfl, ha9⟩))
          | fail "held"
          all_goals
            have hfin : Below W5.heap.size W5 x9 := by repeat (first | with_reducible exact Below.refl _ _ | with_reducible apply Below.drew | with_reducible refine Below.on ?_ ha1 | with_reducible refine Below.on ?_ ha2 | with_reducible refine Below.on ?_ ha3 | with_reducible refine Below.on ?_ ha4 | with_reducible refine Below.on ?_ ha5 | with_reducible refine Below.on ?_ ha6 | with_reducible refine Below.on ?_ ha7 | with_reducible refine Below.on ?_ ha8 | with_reducible refine Below.on ?_ ha9)
            go_wp2_with fail
            go_roundw
            case rel => exact ⟨k + 1, by omega, by go_num, hbk5.trans (hfin.mono hbk5.size)⟩
            case measure => simp [intOf]; omega
      · have hltI : ¬ (k : Int) < (s.classes.length : Int) := by omega
        have kv := k5 wr hbw
        have law := fun h => valid_has HCK.out (l := l) h
        have law2 := fun h => valid_lin HCK.out (l := l) h
        have law3 := sValid_raise s l
        generalize hsv : sValid s l = sv9 at *
        clear hMa k5
        by_cases hz : sv9 = 0
        · subst hz
          obtain ⟨ha0, hpos, hmu⟩ := law rfl
          have hli := law2 rfl
          have hne : ∀ a ∈ l, a.vals.length ≠ 0 := fun a ha => (((aCheck_zero ha0).2 a ha).1)
          have hnames := fun W (hW : Below w.heap.size w W) => r6_Names_any _ l W (hAtW W hW) hasm7
          have hget := fun W (hW : Below w.heap.size w W) => r6_Get_any _ l ⟨#[99, 108, 97, 115, 115]⟩ W (hAtW W hW) hasm7 (by decide)
          rw [rNames_l hne] at hnames
          rw [rGet_eq hne] at hget
          have em : L ⟨#[99, 108, 97, 115, 115]⟩ = Idn.mainN := rfl
          rw [em] at hget
          have hgl : ∀ x ∈ getL l Idn.mainN, x.length ≤ 300 := get_all (p := fun x => x.length ≤ 300) (fun a ha x hx => ((light_sm HLG.out).2 a ha).2.2 x hx) Idn.mainN
          have hgn : (getL l Idn.mainN).length ≤ 10000 := get_len (k := 20) (fun a ha => ((light_sm HLG.out).2 a ha).2.1) (by have := (light_sm HLG.out).1; omega) Idn.mainN
          have hnl := namesL_len hasm7
          generalize getL l Idn.mainN = cls at *
          generalize namesL l = nms at *
          clear law law2 hne ha0 em
          go_wp2_with fail
          with_reducible refine kv.mono ?_
          rintro e w4 ⟨rfl, hb4⟩
          replace a0 := cell_later hb4 a0
          replace a1 := cell_later hb4 a1
          replace b0 := cell_later hb4 b0
          replace b1 := cell_later hb4 b1
          have hbw4 := hbw.trans (hb4.mono hbw.size)
          clear kv hb4 hbw hltI hlt hk
          go_wp2_with fail
          with_reducible refine (hnames w4 hbw4).mono ?_
          rintro e w5 ⟨v5, rfl, o5, hb5⟩
          replace a0 := cell_later hb5 a0
          replace a1 := cell_later hb5 a1
          replace b0 := cell_later hb5 b0
          replace b1 := cell_later hb5 b1
          have hbw5 := hbw4.trans (hb5.mono hbw4.size)
          have hN5 := StrsV.of_own o5
          obtain ⟨An, cn, hvn⟩ := own_shape o5
          subst hvn
          clear hb5 hnames hbw4 o5
          go_wp2_with fail
          with_reducible refine (hget w5 hbw5).mono ?_
          rintro e w6 ⟨Ag, kg, cg, rfl, hG6, hb6⟩
          replace a0 := cell_later hb6 a0
          replace a1 := cell_later hb6 a1
          replace b0 := cell_later hb6 b0
          replace b1 := cell_later hb6 b1
          have hbw6 := hbw5.trans (hb6.mono hbw5.size)
          have hN6 := SlV.mono (SlV.keep hN5 hb6) hb6.size
          obtain rfl : kg = cls.length := SlV.len hG6
          clear hb6 hget hbw5 hN5
          go_wp2
          go_loopw [9] (fun i wr => ∃ j : Nat, j ≤ cls.length ∧ i = .int .i64 j ∧ Below w6.heap.size w6 wr) (fun i _ => cls.length - (intOf i).toNat)
          case atStart => exact ⟨0, Nat.zero_le _, rfl, Below.refl _ _⟩
          case round =>
            obtain ⟨i, hi, rfl, hbi⟩ := hrel
            have hbwi := hbw6.trans (hbi.mono hbw6.size)
            replace a0 := cell_later hbi a0
            replace a1 := cell_later hbi a1
            replace b0 := cell_later hbi b0
            replace b1 := cell_later hbi b1
            by_cases hil : i < cls.length
            · have hiI : (i : Int) < (cls.length : Int) := by omega
              obtain ⟨g, o, rfl, hgl9, c0⟩ := StrsV.cell (SlV.keep hG6 hbi) hil
              have hx300 := hgl _ (List.getElem_mem hil)
              have hxm := hmu _ (List.getElem_mem hil)
              have hxl := hli _ (List.getElem_mem hil)
              have hM1 := hMu cls[i] (by omega)
              have hL1 := hLi cls[i] (by omega)
              have hq2 := hmul cls[i]
              have hxl2 : 0 < ((linC s cls[i]).map (·.name)).length := by rw [List.length_map]; exact hxl
              generalize mustL s cls[i] = q2 at *
              generalize (linC s cls[i]).map (·.name) = q1 at *
              generalize cls[i] = x at *
              have ez : ((q1.length : Int) == 0) = false := by rw [beq_eq_false_iff_ne]; omega
              have hS : ∀ W', Below wr.heap.size wr W' → W'.cell? ⟨w.heap.size, 0, none⟩ = some (.slice A' s.types.length ca) ∧ W'.cell? ⟨w.heap.size, 1, none⟩ = some (.slice A'' s.classes.length cb) ∧ W'.cell? ⟨g, o + i, none⟩ = some (.string (B x)) ∧ Below wr.heap.size wr W' := fun W' hW => ⟨cell_later hW a0, cell_later hW a1, cell_later hW c0, hW⟩
              have m1 := fun W (hW : Below wr.heap.size wr W) => hL1 W (hbwi.trans (hW.mono hbwi.size))
              have m2 := fun W (hW : Below wr.heap.size wr W) => hM1 W (hbwi.trans (hW.mono hbwi.size))
              have u2 := fun (W : World) (v u : Value) (h1 : StrsV W W.heap.size v q2) (h2 : StrsV W W.heap.size u nms) => subset_any v u q2 nms W h1 h2 (by omega) (by omega) hxm
              have hNm := fun W (hW : Below wr.heap.size wr W) => SlV.mono (SlV.keep hN6 (hbi.trans (hW.mono hbi.size))) (Nat.le_trans hbi.size hW.size)
              have hw0 := Below.refl wr.heap.size wr
              clear hx300 hxm hxl hxl2 hM1 hL1 hgl hmu hli hMu hLi hmul hmal hV hAtW hAl a0 a1 b0 b1 law3
              go_wp2
              clear c0
              refine wp_region_held_drew (S := fun W' => W'.cell? ⟨w.heap.size, 0, none⟩ = some (.slice A' s.types.length ca) ∧ W'.cell? ⟨w.heap.size, 1, none⟩ = some (.slice A'' s.classes.length cb) ∧ W'.cell? ⟨g, o + i, none⟩ = some (.string (B x)) ∧ Below wr.heap.size wr W') (by kernel_rfl) ?_ (fun hHeld => ?_)
              · (try dsimp only); refine hS _ ?_; repeat (first | with_reducible exact Below.refl _ _ | with_reducible apply Below.drew)
              refine wpAnyH_take (i := 0) (oi := ⟨_, _, _, _, _, _⟩) (v := ?vq0) rfl (by kernel_rfl) (by kernel_rfl) (by kernel_rfl) (fun _ _ _ h => h) (Or.inl ⟨by rfl, ?hq0⟩) (by assumption) ?rq0
              rotate_left 1
              · (intro w hSw; (try dsimp only at hSw); go_simp; (try with_reducible rfl))
              try simp only [Act.put, List.setIfInBounds_toArray, List.set_cons_zero, List.set_cons_succ]
              refine wpAnyH_take (i := 1) (oi := ⟨_, _, _, _, _, _⟩) (v := ?vq1) rfl (by kernel_rfl) (by kernel_rfl) (by kernel_rfl) (fun _ _ _ h => h) (Or.inl ⟨by rfl, ?hq1⟩) (by assumption) ?rq1
              rotate_left 1
              · (intro w hSw; (try dsimp only at hSw); go_simp; (try with_reducible rfl))
              try simp only [Act.put, List.setIfInBounds_toArray, List.set_cons_zero, List.set_cons_succ]
              refine wpAnyH_take (i := 2) (oi := ⟨_, _, _, _, _, _⟩) (v := ?vq2) rfl (by kernel_rfl) (by kernel_rfl) (by kernel_rfl) (fun _ _ _ h => h) (Or.inl ⟨by rfl, ?hq2⟩) (by assumption) ?rq2
              rotate_left 1
              · (intro w hSw; (try dsimp only at hSw); go_simp; (try with_reducible rfl))
              try simp only [Act.put, List.setIfInBounds_toArray, List.set_cons_zero, List.set_cons_succ]
              refine wpAnyH_take (i := 3) (oi := ⟨_, _, _, _, _, _⟩) (v := ?vq3) rfl (by kernel_rfl) (by kernel_rfl) (by kernel_rfl) (fun _ _ _ h => h) (Or.inl ⟨by rfl, ?hq3⟩) (by assumption) ?rq3
              rotate_left 1
              · (intro w hSw; (try dsimp only at hSw); go_simp; (try with_reducible rfl))
              try simp only [Act.put, List.setIfInBounds_toArray, List.set_cons_zero, List.set_cons_succ]
              refine wpAnyH_take (i := 4) (oi := ⟨_, _, _, _, _, _⟩) (v := ?vq4) rfl (by kernel_rfl) (by kernel_rfl) (by kernel_rfl) (fun _ _ _ h => h) (Or.inl ⟨by rfl, ?hq4⟩) (by assumption) ?rq4
              rotate_left 1
              · (intro w hSw; (try dsimp only at hSw); go_simp; (try with_reducible rfl))
              try simp only [Act.put, List.setIfInBounds_toArray, List.set_cons_zero, List.set_cons_succ]
              refine wpAnyH_ready (rs := [5]) (by kernel_rfl) (by simp) ?_
              refine AllReadyH.cons (o := ⟨_, _, _, _, _, _⟩) rfl (fun K hK => ?_) AllReadyH.nil
              go_simp
              go_at_call 28; refine (m1 _ (by ((repeat (first | with_reducible exact Below.refl _ _ | with_reducible apply Below.drew)); done))).mono ?_; rintro e x1 ⟨v1, rfl, o1, ha1⟩; have r1 := StrsV.of_own (l := q1) o1; obtain ⟨A1, z1, hz1⟩ := own_shape o1; subst hz1
              try go_wp2_with fail
              refine hK.out _ _ ?_ (fun hHeld => ?_)
              · (try dsimp only); refine hS _ ?_; repeat (first | with_reducible exact Below.refl _ _ | with_reducible apply Below.drew | with_reducible refine Below.on ?_ ha1)
              clear hK K
              try simp only [Act.put, List.setIfInBounds_toArray, List.set_cons_zero, List.set_cons_succ]
              refine wpAnyH_take (i := 6) (oi := ⟨_, _, _, _, _, _⟩) (v := ?vq6) rfl (by kernel_rfl) (by kernel_rfl) (by kernel_rfl) (fun _ _ _ h => h) (Or.inl ⟨by rfl, ?hq6⟩) (by assumption) ?rq6
              rotate_left 1
              · (intro w hSw; (try dsimp only at hSw); go_simp; (try with_reducible rfl))
              try simp only [Act.put, List.setIfInBounds_toArray, List.set_cons_zero, List.set_cons_succ]
              refine wpAnyH_take (i := 7) (oi := ⟨_, _, _, _, _, _⟩) (v := ?vq7) rfl (by kernel_rfl) (by kernel_rfl) (by kernel_rfl) (fun _ _ _ h => h) (Or.inl ⟨by rfl, ?hq7⟩) (by assumption) ?rq7
              rotate_left 1
              · (intro w hSw; (try dsimp only at hSw); go_simp; (try with_reducible rfl))
              try simp only [Act.put, List.setIfInBounds_toArray, List.set_cons_zero, List.set_cons_succ]
              refine wpAnyH_take (i := 8) (oi := ⟨_, _, _, _, _, _⟩) (v := ?vq8) rfl (by kernel_rfl) (by kernel_rfl) (by kernel_rfl) (fun _ _ _ h => h) (Or.inl ⟨by rfl, ?hq8⟩) (by assumption) ?rq8
              rotate_left 1
              · (intro w hSw; (try dsimp only at hSw); go_simp; (try with_reducible rfl))
              try simp only [Act.put, List.setIfInBounds_toArray, List.set_cons_zero, List.set_cons_succ]
              refine wpAnyH_take (i := 9) (oi := ⟨_, _, _, _, _, _⟩) (v := undef) rfl (by kernel_rfl) (by kernel_rfl) (by kernel_rfl) (fun _ _ _ h => h) (Or.inr ⟨by rfl, rfl⟩) (by assumption) ?_
              try simp only [Act.put, List.setIfInBounds_toArray, List.set_cons_zero, List.set_cons_succ]
              refine wpAnyH_take (i := 10) (oi := ⟨_, _, _, _, _, _⟩) (v := undef) rfl (by kernel_rfl) (by kernel_rfl) (by kernel_rfl) (fun _ _ _ h => h) (Or.inr ⟨by rfl, rfl⟩) (by assumption) ?_
              try simp only [Act.put, List.setIfInBounds_toArray, List.set_cons_zero, List.set_cons_succ]
              refine wpAnyH_take (i := 11) (oi := ⟨_, _, _, _, _, _⟩) (v := undef) rfl (by kernel_rfl) (by kernel_rfl) (by kernel_rfl) (fun _ _ _ h => h) (Or.inr ⟨by rfl, rfl⟩) (by assumption) ?_
              try simp only [Act.put, List.setIfInBounds_toArray, List.set_cons_zero, List.set_cons_succ]
              refine wpAnyH_take (i := 12) (oi := ⟨_, _, _, _, _, _⟩) (v := undef) rfl (by kernel_rfl) (by kernel_rfl) (by kernel_rfl) (fun _ _ _ h => h) (Or.inr ⟨by rfl, rfl⟩) (by assumption) ?_
              try simp only [Act.put, List.setIfInBounds_toArray, List.set_cons_zero, List.set_cons_succ]
              refine wpAnyH_take (i := 13) (oi := ⟨_, _, _, _, _, _⟩) (v := undef) rfl (by kernel_rfl) (by kernel_rfl) (by kernel_rfl) (fun _ _ _ h => h) (Or.inr ⟨by rfl, rfl⟩) (by assumption) ?_
              try simp only [Act.put, List.setIfInBounds_toArray, List.set_cons_zero, List.set_cons_succ]
              refine wpAnyH_take (i := 14) (oi := ⟨_, _, _, _, _, _⟩) (v := undef) rfl (by kernel_rfl) (by kernel_rfl) (by kernel_rfl) (fun _ _ _ h => h) (Or.inr ⟨by rfl, rfl⟩) (by assumption) ?_
              try simp only [Act.put, List.setIfInBounds_toArray, List.set_cons_zero, List.set_cons_succ]
              refine wpAnyH_take (i := 15) (oi := ⟨_, _, _, _, _, _⟩) (v := undef) rfl (by kernel_rfl) (by kernel_rfl) (by kernel_rfl) (fun _ _ _ h => h) (Or.inr ⟨by rfl, rfl⟩) (by assumption) ?_
              try simp only [Act.put, List.setIfInBounds_toArray, List.set_cons_zero, List.set_cons_succ]
              refine wpAnyH_take (i := 16) (oi := ⟨_, _, _, _, _, _⟩) (v := undef) rfl (by kernel_rfl) (by kernel_rfl) (by kernel_rfl) (fun _ _ _ h => h) (Or.inr ⟨by rfl, rfl⟩) (by assumption) ?_
              try simp only [Act.put, List.setIfInBounds_toArray, List.set_cons_zero, List.set_cons_succ]
              refine wpAnyH_take (i := 17) (oi := ⟨_, _, _, _, _, _⟩) (v := ?vq17) rfl (by kernel_rfl) (by kernel_rfl) (by kernel_rfl) (fun _ _ _ h => h) (Or.inl ⟨by rfl, ?hq17⟩) (by assumption) ?rq17
              rotate_left 1
              · (intro w hSw; (try dsimp only at hSw); go_simp; (try with_reducible rfl))
              try simp only [Act.put, List.setIfInBounds_toArray, List.set_cons_zero, List.set_cons_succ]
              refine wpAnyH_take (i := 18) (oi := ⟨_, _, _, _, _, _⟩) (v := ?vq18) rfl (by kernel_rfl) (by kernel_rfl) (by kernel_rfl) (fun _ _ _ h => h) (Or.inl ⟨by rfl, ?hq18⟩) (by assumption) ?rq18
              rotate_left 1
              · (intro w hSw; (try dsimp only at hSw); go_simp; (try with_reducible rfl))
              try simp only [Act.put, List.setIfInBounds_toArray, List.set_cons_zero, List.set_cons_succ]
              refine wpAnyH_take (i := 19) (oi := ⟨_, _, _, _, _, _⟩) (v := ?vq19) rfl (by kernel_rfl) (by kernel_rfl) (by kernel_rfl) (fun _ _ _ h => h) (Or.inl ⟨by rfl, ?hq19⟩) (by assumption) ?rq19
              rotate_left 1
              · (intro w hSw; (try dsimp only at hSw); go_simp; (try with_reducible rfl))
              try simp only [Act.put, List.setIfInBounds_toArray, List.set_cons_zero, List.set_cons_succ]
              refine wpAnyH_take (i := 20) (oi := ⟨_, _, _, _, _, _⟩) (v := ?vq20) rfl (by kernel_rfl) (by kernel_rfl) (by kernel_rfl) (fun _ _ _ h => h) (Or.inl ⟨by rfl, ?hq20⟩) (by assumption) ?rq20
              rotate_left 1
              · (intro w hSw; (try dsimp only at hSw); go_simp; (try with_reducible rfl))
              try simp only [Act.put, List.setIfInBounds_toArray, List.set_cons_zero, List.set_cons_succ]
              refine wpAnyH_take (i := 21) (oi := ⟨_, _, _, _, _, _⟩) (v := ?vq21) rfl (by kernel_rfl) (by kernel_rfl) (by kernel_rfl) (fun _ _ _ h => h) (Or.inl ⟨by rfl, ?hq21⟩) (by assumption) ?rq21
              rotate_left 1
              · (intro w hSw; (try dsimp only at hSw); go_simp; (try with_reducible rfl))
              try simp only [Act.put, List.setIfInBounds_toArray, List.set_cons_zero, List.set_cons_succ]
              refine wpAnyH_take (i := 22) (oi := ⟨_, _, _, _, _, _⟩) (v := ?vq22) rfl (by kernel_rfl) (by kernel_rfl) (by kernel_rfl) (fun _ _ _ h => h) (Or.inl ⟨by rfl, ?hq22⟩) (by assumption) ?rq22
              rotate_left 1
              · (intro w hSw; (try dsimp only at hSw); go_simp; (try with_reducible rfl))
              try simp only [Act.put, List.setIfInBounds_toArray, List.set_cons_zero, List.set_cons_succ]
              refine wpAnyH_take (i := 23) (oi := ⟨_, _, _, _, _, _⟩) (v := ?vq23) rfl (by kernel_rfl) (by kernel_rfl) (by kernel_rfl) (fun _ _ _ h => h) (Or.inl ⟨by rfl, ?hq23⟩) (by assumption) ?rq23
              rotate_left 1
              · (intro w hSw; (try dsimp only at hSw); go_simp; (try with_reducible rfl))
              try simp only [Act.put, List.setIfInBounds_toArray, List.set_cons_zero, List.set_cons_succ]
              refine wpAnyH_take (i := 25) (oi := ⟨_, _, _, _, _, _⟩) (v := ?vq25) rfl (by kernel_rfl) (by kernel_rfl) (by kernel_rfl) (fun _ _ _ h => h) (Or.inl ⟨by rfl, ?hq25⟩) (by assumption) ?rq25
              rotate_left 1
              · (intro w hSw; (try dsimp only at hSw); go_simp; (try with_reducible rfl))
              try simp only [Act.put, List.setIfInBounds_toArray, List.set_cons_zero, List.set_cons_succ]
              refine wpAnyH_ready (rs := [24]) (by kernel_rfl) (by simp) ?_
              refine AllReadyH.cons (o := ⟨_, _, _, _, _, _⟩) rfl (fun K hK => ?_) AllReadyH.nil
              go_simp
              go_at_call 24; refine (m2 _ (by ((repeat (first | with_reducible exact Below.refl _ _ | with_reducible apply Below.drew | with_reducible refine Below.on ?_ ha1)); done))).mono ?_; rintro e x2 ⟨v2, rfl, o2, ha2⟩; have r2 := StrsV.of_own (l := q2) o2; obtain ⟨A2, z2, hz2⟩ := own_shape o2; subst hz2
              try go_wp2_with fail
              refine hK.out _ _ ?_ (fun hHeld => ?_)
              · (try dsimp only); refine hS _ ?_; repeat (first | with_reducible exact Below.refl _ _ | with_reducible apply Below.drew | with_reducible refine Below.on ?_ ha1 | with_reducible refine Below.on ?_ ha2)
              clear hK K
              try simp only [Act.put, List.setIfInBounds_toArray, List.set_cons_zero, List.set_cons_succ]
              refine wpAnyH_ready (rs := [26]) (by kernel_rfl) (by simp) ?_
              refine AllReadyH.cons (o := ⟨_, _, _, _, _, _⟩) rfl (fun K hK => ?_) AllReadyH.nil
              go_simp
              go_at_call 23; with_reducible refine (u2 _ _ _ r2 (hNm _ (by ((repeat (first | with_reducible exact Below.refl _ _ | with_reducible apply Below.drew | with_reducible refine Below.on ?_ ha1 | with_reducible refine Below.on ?_ ha2)); done)))).mono ?_; rintro e x3 ⟨rfl, ha3⟩
              try go_wp2_with fail
              refine hK.out _ _ ?_ (fun hHeld => ?_)
              · (try dsimp only); refine hS _ ?_; repeat (first | with_reducible exact Below.refl _ _ | with_reducible apply Below.drew | with_reducible refine Below.on ?_ ha1 | with_reducible refine Below.on ?_ ha2 | with_reducible refine Below.on ?_ ha3)
              clear hK K
              try simp only [Act.put, List.setIfInBounds_toArray, List.set_cons_zero, List.set_cons_succ]
              refine wpAnyH_take (i := 27) (oi := ⟨_, _, _, _, _, _⟩) (v := ?vq27) rfl (by kernel_rfl) (by kernel_rfl) (by kernel_rfl) (fun _ _ _ h => h) (Or.inl ⟨by rfl, ?hq27⟩) (by assumption) ?rq27
              rotate_left 1
              · (intro w hSw; (try dsimp only at hSw); go_simp; (try with_reducible rfl))
              try simp only [Act.put, List.setIfInBounds_toArray, List.set_cons_zero, List.set_cons_succ]
              refine wpAnyH_take (i := 28) (oi := ⟨_, _, _, _, _, _⟩) (v := ?vq28) rfl (by kernel_rfl) (by kernel_rfl) (by kernel_rfl) (fun _ _ _ h => h) (Or.inl ⟨by rfl, ?hq28⟩) (by assumption) ?rq28
              rotate_left 1
              · (intro w hSw; (try dsimp only at hSw); go_simp; (try with_reducible rfl))
              try simp only [Act.put, List.setIfInBounds_toArray, List.set_cons_zero, List.set_cons_succ]
              refine wpAnyH_done (by kernel_rfl) ?_ _
              all_goals
                have hfin : Below wr.heap.size wr x3 := by repeat (first | with_reducible exact Below.refl _ _ | with_reducible apply Below.drew | with_reducible refine Below.on ?_ ha1 | with_reducible refine Below.on ?_ ha2 | with_reducible refine Below.on ?_ ha3)
                go_wp2_with fail
                go_roundw
                case rel => exact ⟨i + 1, by omega, by go_num, hbi.trans (hfin.mono hbi.size)⟩
                case measure => simp [intOf]; omega
            · have hiI : ¬ (i : Int) < (cls.length : Int) := by omega
              have hpN : 0 < cls.length := hpos
              have hpI : (0 : Int) < (cls.length : Int) := by omega
              have hS : ∀ W', Below wr.heap.size wr W' → W'.cell? ⟨w.heap.size, 0, none⟩ = some (.slice A' s.types.length ca) ∧ W'.cell? ⟨w.heap.size, 1, none⟩ = some (.slice A'' s.classes.length cb) ∧ W'.cell? ⟨w.heap.size + 1, 0, none⟩ = some (.string nm) ∧ W'.cell? ⟨w.heap.size + 1, 1, none⟩ = some (.slice Ae l.length ce) ∧ Below wr.heap.size wr W' := fun W' hW => ⟨cell_later hW a0, cell_later hW a1, cell_later hW b0, cell_later hW b1, hW⟩
              have hr := fun W (hW : Below w.heap.size w W) => raised_any _ l W (EntV.mono (EntV.keep hu0 hW) hW.size) (by have := (light_sm HLG.out).1; omega) (fun a ha => by have := ((light_sm HLG.out).2 a ha).1; omega)
              have m1 := fun W (hW : Below wr.heap.size wr W) => hr W (hbwi.trans (hW.mono hbwi.size))
              obtain ⟨ra, rb, _⟩ := light_asm (raise_asm HLG.out)
              have m2 := fun W n9 va (hW : Below wr.heap.size wr W) (hA9 : AttsV W W.heap.size va (raise l)) => valid_any _ s n9 va (raise l) W (hV W (hbwi.trans (hW.mono hbwi.size))) hs (hE.keep (hbwi.trans (hW.mono hbwi.size))) (hU.keep (hbwi.trans (hW.mono hbwi.size))) hA9 ra rb
              rw [law3] at m2
              have m3 := fun W (hW : Below wr.heap.size wr W) => hAl W (hbwi.trans (hW.mono hbwi.size))
              have hw0 := Below.refl wr.heap.size wr
              clear hgl hmu hli hMu hLi hmul hmal hAtW hAl hr law3 ra rb hV hE hU
              go_wp2
              clear a0 a1 b0 b1
              first
              | go_region_held3 (fun W' => W'.cell? ⟨w.heap.size, 0, none⟩ = some (.slice A' s.types.length ca) ∧ W'.cell? ⟨w.heap.size, 1, none⟩ = some (.slice A'' s.classes.length cb) ∧ W'.cell? ⟨w.heap.size + 1, 0, none⟩ = some (.string nm) ∧ W'.cell? ⟨w.heap.size + 1, 1, none⟩ = some (.slice Ae l.length ce) ∧ Below wr.heap.size wr W')
                  (first | (refine hS _ ?_; repeat (first | with_reducible exact Below.refl _ _ | with_reducible apply Below.drew | with_reducible refine Below.on ?_ ha1 | with_reducible refine Below.on ?_ ha2 | with_reducible refine Below.on ?_ ha3)))
                  (first
                    | (go_at_call 30; refine (m1 _ (by ((repeat (first | with_reducible exact Below.refl _ _ | with_reducible apply Below.drew)); done))).mono ?_; rintro e x1 ⟨v1, rfl, hv1, ha1⟩; obtain ⟨nm1, a1, rfl, hA1⟩ := hv1; obtain ⟨D1, d1, rfl, hd1⟩ := SlV.shape hA1; have hx1 : Below wr.heap.size wr x1 := by repeat (first | with_reducible exact Below.refl _ _ | with_reducible apply Below.drew | with_reducible refine Below.on ?_ ha1))
                    | (go_at_call 15; refine (m2 _ _ _ hx1 hA1).mono ?_; rintro e x2 ⟨rfl, ha2⟩)
                    | (go_at_call 9; refine (m3 _ (by ((repeat (first | with_reducible exact Below.refl _ _ | with_reducible apply Below.drew | with_reducible refine Below.on ?_ ha1 | with_reducible refine Below.on ?_ ha2)); done))).mono ?_; rintro e x3 ⟨rfl, ha3⟩))
              | fail "held"
              all_goals
                have hfin : Below wr.heap.size wr x3 := by repeat (first | with_reducible exact Below.refl _ _ | with_reducible apply Below.drew | with_reducible refine Below.on ?_ ha1 | with_reducible refine Below.on ?_ ha2 | with_reducible refine Below.on ?_ ha3)
                go_wp2_with fail
                go_ret
                exact ⟨rfl, hbwi.trans (hfin.mono hbwi.size)⟩
        · have ez : (sv9 != 0) = true := by rw [bne_iff_ne]; exact hz
          clear law law2 law3 hz hsv
          go_wp2_with fail
          with_reducible refine kv.mono ?_
          rintro e w4 ⟨rfl, hb4⟩
          have hbw4 := hbw.trans (hb4.mono hbw.size)
          clear kv
          go_wp2_with fail
          refine (hAl w4 hbw4).mono ?_
          rintro e w5 ⟨rfl, hb5⟩
          go_wp2_with fail
          go_ret
          exact ⟨rfl, hbw4.trans (hb5.mono hbw4.size)⟩
end Go.Proofs.YtnikolglippfmaaGreatDoor
