/- Part 44 of the proof that SchemaLooks returns true for every schema and every name: the package variables hold what the program lays; nothing else is asked. -/
import Derived.Test.YtoelhiccofpgfaaGreatDoorLk43
/- identityref07: Must, May. -/
namespace Go.Proofs.YtoelhiccofpgfaaGreatDoor
open Go.RowKit Go.Sort
open Idn (L B Bs drop_L take_L size_L)
theorem SlV.grown {α : Type} {E : α → List Value → Prop} {w w' : World} {hi size n c : Nat} {A : Option Addr} {l : List α} {row : Option Nat} (h : SlV E w hi size (.slice A n c) l) (hg : w.grownBy w' row) (hs : ∀ b off, A = some ⟨b, off, none⟩ → row ≠ some b) (hh : hi ≤ w.heap.size) : SlV E w' hi size (.slice A n c) l := by
  obtain ⟨A', c', e, h1, h2⟩ := h
  injection e with e1 e2 e3
  subst e1
  refine ⟨A, c', by rw [e2, e3], h1, fun hp => ?_⟩
  obtain ⟨b, off, hA, hb, hx⟩ := h2 hp
  refine ⟨b, off, hA, hb, fun i x hix => ?_⟩
  obtain ⟨cs, h3, h4, h5⟩ := hx i x hix
  exact ⟨cs, h3, h4, fun j u hj => (World.cell?_of_block (w := w) (hg.block b (by omega) (fun e => hs b off hA e.symm))).trans (h5 j u hj)⟩
theorem linC_mem {s : Idn.Sch} {n : Bs} {c : Idn.Cl} (h : c ∈ linC (sound s) n) : c ∈ (sound s).classes := linS_mem h
theorem ownS_ge {w : World} {base : Nat} {e : TypeId} {size : Nat} {A : Option Addr} {n c : Nat} {xs : List Value} (h : w.ownsRow base e size (.slice A n c) n xs) {b off : Nat} (hA : A = some ⟨b, off, none⟩) : base ≤ b := by
  subst hA
  rcases h.2 with ⟨h0, _⟩ | ⟨g, cap, cur, hv, hb', _⟩
  · cases h0
  · injection hv with hv _ _
    injection hv with hv
    injection hv with hv _
    omega
set_option maxHeartbeats 1000000 in
set_option maxRecDepth 100000 in
theorem r_Must_any (v : Value) (s : Idn.Sch) (n : ByteArray) (w : World) (hv : SchV w w.heap.size v s) (hs : SSm s) (hn : n.size ≤ 1000000000) :
    Calls Tryz.prog 15 #[v, .string n] w (RetS w (mustL (sound s) (L n))) := by
  have hE := fun W (hW : Below w.heap.size w W) => r_lineage_any v s n W (SchV.mono (SchV.keep hv hW) hW.size) hs hn
  have hin := lin_in s (L n)
  have hln := lin_len s (L n)
  have hlc := linC_len (sound s) (L n)
  have hbd := bd_sound s
  have hres : mustL (sound s) (L n) = merged ((linC (sound s) (L n)).flatMap (·.must)) := rfl
  have hmem := fun c => linC_mem (s := s) (n := L n) (c := c)
  generalize Idn.lin (sound s) (L n) = ks at *
  generalize hcs : linC (sound s) (L n) = cs at *
  have hc64 : ∀ c ∈ cs, c.must.length ≤ 64 := fun c hc => (hbd.2 c (hmem c hc)).1
  have hc9 : ∀ x ∈ cs.flatMap (·.must), x.length ≤ 1000000000 := fun x hx => by
    obtain ⟨c, hc, hx⟩ := List.mem_flatMap.1 hx
    exact ((ssm_sound hs).2.2 c (hmem c hc)).2.2.1.2 x hx
  have hl32 : cs.length ≤ 32 := Nat.le_trans hlc hbd.1
  have hfl := flat_len (·.must) 64 cs hc64
  have Hres := Lib.hid hres
  obtain ⟨a, b, rfl, hT, hC⟩ := hv
  obtain ⟨A, ca, rfl, hca⟩ := SlV.shape hT
  obtain ⟨A', cb, rfl, hcb⟩ := SlV.shape hC
  have HLN := Lib.hid hln
  clear hT hln hres hmem hbd hcs hlc
  go_enter Tryz.func15, Tryz.ntmps15
  go_wp2_with fail
  with_reducible refine gen1 (R := fun W => Calls Tryz.prog 33 _ W _) ?_
  intro W hbW hszW hc1 _
  have q1 := hc1 1 _ rfl
  clear hc1
  refine (hE W hbW).mono ?_
  rintro e w1 ⟨v1, rfl, ho1, hb1⟩
  replace q1 := cell_later hb1 q1
  have hI1 := IntsV.of_own ho1
  have hbw1 := hbW.trans (hb1.mono hbW.size)
  have hC1 := ClassesV.keep hC hbw1
  obtain ⟨D, cd, rfl, hcd⟩ := SlV.shape hI1
  clear hE ho1
  go_wp2
  go_loopw [5, 7] (fun u x wr => ∃ i : Nat, i ≤ ks.length ∧ x = .int .i64 i ∧ wr.ownsRow w1.heap.size 9 1 u (flatK (·.must) cs i).length ((flatK (·.must) cs i).map sv) ∧ Below w1.heap.size w1 wr) (fun _ x _ => ks.length - (intOf x).toNat)
  case atStart => exact ⟨0, Nat.zero_le _, rfl, World.ownsRow_nil _ _ _ _, Below.refl _ _⟩
  case round =>
    obtain ⟨i, hi, rfl, hown, hb⟩ := hrel
    by_cases hlt : i < ks.length
    · obtain ⟨hk, hci⟩ := hin i hlt
      have hil : i < cs.length := by rw [HLN.out]; exact hlt
      obtain ⟨g, o, rfl, hgl, d0⟩ := IntsV.cell (SlV.keep hI1 hb) hlt
      obtain ⟨bb, off, vm, vn, rfl, hbl, c0, c1, c2, c3, hm, _⟩ := ClassesV.cell (ClassesV.keep hC1 (hb.mono hbw1.size)) hk
      have he : cs[i] = s.classes[ks[i]] := by rw [List.getElem?_eq_getElem hil] at hci; injection hci
      have hk64 := hc64 cs[i] (List.getElem_mem hil)
      rw [← he] at hm
      have hmr : StrsV wr.drew w.heap.size vm cs[i].must := hm
      have q1r : wr.drew.cell? ⟨w.heap.size, 1, none⟩ = some (.slice (some ⟨bb, off, none⟩) s.classes.length cb) := cell_later hb.drew q1
      have d0r : wr.drew.cell? ⟨g, o + i, none⟩ = some (.int .i64 (ks[i] : Int)) := d0
      have c2r : wr.drew.cell? ⟨bb, off + ks[i] * 4 + 2, none⟩ = some vm := c2
      obtain ⟨Am, cm, rfl, hcm⟩ := SlV.shape hm
      have hownr : wr.drew.ownsRow w1.heap.size 9 1 u5 (flatK (·.must) cs i).length ((flatK (·.must) cs i).map sv) := hown
      have hltI : (i : Int) < (ks.length : Int) := by omega
      have hkI : ((ks[i] : Nat) : Int) < (s.classes.length : Int) := by omega
      have hk0 : (0 : Int) ≤ ((ks[i] : Nat) : Int) := by omega
      have hbr : Below w1.heap.size w1 wr.drew := hb.drew
      have hsr := hbr.size
      have htk : (flatK (·.must) cs i).length ≤ 2048 := by
        have h1 := flatK_len (·.must) cs 64 i hc64
        omega
      clear hci hown c0 c1 c2 c3 d0 he hm
      generalize ks[i] = kk at *
      go_wp2_with fail
      go_region_law (refine step_appendS rfl _ _ 36 rfl w1.heap.size 9 Tryz.underlying36 info_str _ _ _ hownr rfl _ cs[i].must _ hmr rfl (by omega) hsr ?_; intro v' w' hown' hg' hat')
      all_goals
        have hbn : Below w1.heap.size w1 w' := hbr.grown hg' hsr (fun g hg => (hownr.lt g hg).1)
        go_wp2_with fail
        go_roundw
        case rel =>
          refine ⟨i + 1, by omega, by go_num, ?_, hbn⟩
          rw [flatK_succ _ _ _ hil, List.map_append, List.length_append]
          exact hown'
        case measure => simp [intOf]; omega
    · have hkl : i = cs.length := by have := HLN.out; omega
      have hltI : ¬ (i : Int) < (ks.length : Int) := by omega
      subst hkl
      rw [flatK_all] at hown
      generalize cs.flatMap (·.must) = q at *
      obtain ⟨A3, c3, hu⟩ := own_shape hown
      subst hu
      have hM := r_low_any _ q wr (StrsV.of_own hown) (by omega) hc9
      have hbw := hbw1.trans (hb.mono hbw1.size)
      clear hown
      go_wp2_with fail
      refine hM.mono ?_
      rintro e w5 ⟨v5, rfl, hown5, hb5⟩
      go_wp2
      go_ret
      exact ⟨_, rfl, by rw [Hres.out]; exact own_base hown5 hbw.size, hbw.trans (hb5.mono hbw.size)⟩
set_option maxHeartbeats 1000000 in
set_option maxRecDepth 100000 in
theorem r_May_any (v : Value) (s : Idn.Sch) (n : ByteArray) (w : World) (hv : SchV w w.heap.size v s) (hs : SSm s) (hn : n.size ≤ 1000000000) :
    Calls Tryz.prog 17 #[v, .string n] w (RetS w (mayL (sound s) (L n))) := by
  have hE := fun W (hW : Below w.heap.size w W) => r_lineage_any v s n W (SchV.mono (SchV.keep hv hW) hW.size) hs hn
  have hMu := fun W (hW : Below w.heap.size w W) => r_Must_any v s n W (SchV.mono (SchV.keep hv hW) hW.size) hs hn
  have hin := lin_in s (L n)
  have hln := lin_len s (L n)
  have hlc := linC_len (sound s) (L n)
  have hbd := bd_sound s
  have hml := mustL_len hbd (L n)
  have hmx := fun x => mustL_sm (ssm_sound hs) (n := L n) (x := x)
  have hres : mayL (sound s) (L n) = merged (mustL (sound s) (L n) ++ (linC (sound s) (L n)).flatMap (·.may)) := rfl
  have hmem := fun c => linC_mem (s := s) (n := L n) (c := c)
  generalize Idn.lin (sound s) (L n) = ks at *
  generalize hcs : linC (sound s) (L n) = cs at *
  generalize mustL (sound s) (L n) = mu at *
  have hc64 : ∀ c ∈ cs, c.may.length ≤ 64 := fun c hc => (hbd.2 c (hmem c hc)).2
  have hc9 : ∀ x ∈ mu ++ cs.flatMap (·.may), x.length ≤ 1000000000 := fun x hx => by
    rcases List.mem_append.1 hx with hx | hx
    · exact hmx x hx
    · obtain ⟨c, hc, hx⟩ := List.mem_flatMap.1 hx
      exact ((ssm_sound hs).2.2 c (hmem c hc)).2.2.2.2 x hx
  have hl32 : cs.length ≤ 32 := Nat.le_trans hlc hbd.1
  have hfl := flat_len (·.may) 64 cs hc64
  have Hres := Lib.hid hres
  obtain ⟨a, b, rfl, hT, hC⟩ := hv
  obtain ⟨A, ca, rfl, hca⟩ := SlV.shape hT
  obtain ⟨A', cb, rfl, hcb⟩ := SlV.shape hC
  have HLN := Lib.hid hln
  have hfz : Hid (mu = catK mu (·.may) cs 0) := (catK_zero mu (·.may) cs).symm
  clear hT hln hres hmem hbd hcs hlc hmx
  go_enter Tryz.func17, Tryz.ntmps17
  go_wp2_with fail
  with_reducible refine gen1 (R := fun W => Calls Tryz.prog 15 _ W _) ?_
  intro W hbW hszW hc1 _
  have q0 := hc1 0 _ rfl
  have q1 := hc1 1 _ rfl
  clear hc1
  refine (hMu W hbW).mono ?_
  rintro e w0 ⟨v0, rfl, ho0, hb0⟩
  replace q0 := cell_later hb0 q0
  replace q1 := cell_later hb0 q1
  have hbw0 := hbW.trans (hb0.mono hbW.size)
  clear hMu
  go_wp2_with fail
  refine (hE w0 hbw0).mono ?_
  rintro e w1 ⟨v1, rfl, ho1, hb1⟩
  replace q1 := cell_later hb1 q1
  have hlt0 := fun g => own_lt ho0 (g := g)
  replace ho0 := own_below ho0 hb1
  have hI1 := IntsV.of_own ho1
  have hbw1 := hbw0.trans (hb1.mono hbw0.size)
  have hC1 := ClassesV.keep hC hbw1
  obtain ⟨D, cd, rfl, hcd⟩ := SlV.shape hI1
  have hge1 := fun b off => ownS_ge ho1 (b := b) (off := off)
  have hWs := Nat.le_trans hb0.size hb1.size
  clear hE ho1 q0
  go_wp2
  go_loopw [5, 7] (fun u x wr => ∃ i : Nat, i ≤ ks.length ∧ x = .int .i64 i ∧ wr.ownsRow W.heap.size 9 1 u (catK mu (·.may) cs i).length ((catK mu (·.may) cs i).map sv) ∧ Below W.heap.size w1 wr ∧ IntsV wr w1.heap.size (.slice D ks.length cd) ks ∧ (∀ g, u.ownBlock = some g → ∀ b off, D = some ⟨b, off, none⟩ → b ≠ g) ∧ w1.heap.size ≤ wr.heap.size) (fun _ x _ => ks.length - (intOf x).toNat)
  case atStart => exact ⟨0, Nat.zero_le _, rfl, by rw [← hfz.out]; exact ho0, Below.refl _ _, hI1, fun g hg b off hD => by have := hlt0 g hg; have := hge1 b off hD; omega, Nat.le_refl _⟩
  case round =>
    obtain ⟨i, hi, rfl, hown, hb, hIr, hsep, hsz⟩ := hrel
    by_cases hlt : i < ks.length
    · obtain ⟨hk, hci⟩ := hin i hlt
      have hil : i < cs.length := by rw [HLN.out]; exact hlt
      obtain ⟨g, o, hD, hgl, d0⟩ := IntsV.cell hIr hlt
      have hbwr : Below w.heap.size w wr := hbw1.trans (hb.mono hbW.size)
      obtain ⟨bb, off, vm, vn, rfl, hbl, c0, c1, c2, c3, _, hm⟩ := ClassesV.cell (ClassesV.keep hC hbwr) hk
      have he : cs[i] = s.classes[ks[i]] := by rw [List.getElem?_eq_getElem hil] at hci; injection hci
      have hk64 := hc64 cs[i] (List.getElem_mem hil)
      rw [← he] at hm
      have hmr : StrsV wr.drew w.heap.size vn cs[i].may := hm
      have q1r : wr.drew.cell? ⟨w.heap.size, 1, none⟩ = some (.slice (some ⟨bb, off, none⟩) s.classes.length cb) := by
        have := (hb.cell (p := ⟨w.heap.size, 1, none⟩) (by show w.heap.size < _; omega)).trans q1
        exact this
      have d0r : wr.drew.cell? ⟨g, o + i, none⟩ = some (.int .i64 (ks[i] : Int)) := d0
      have c3r : wr.drew.cell? ⟨bb, off + ks[i] * 4 + 3, none⟩ = some vn := c3
      obtain ⟨Am, cm, rfl, hcm⟩ := SlV.shape hm
      have hownr : wr.drew.ownsRow W.heap.size 9 1 u5 (catK mu (·.may) cs i).length ((catK mu (·.may) cs i).map sv) := hown
      have hIrr : IntsV wr.drew w1.heap.size (.slice D ks.length cd) ks := hIr
      have hltI : (i : Int) < (ks.length : Int) := by omega
      have hkI : ((ks[i] : Nat) : Int) < (s.classes.length : Int) := by omega
      have hk0 : (0 : Int) ≤ ((ks[i] : Nat) : Int) := by omega
      have hbr : Below W.heap.size w1 wr.drew := hb.drew
      have hsr : W.heap.size ≤ wr.drew.heap.size := by show W.heap.size ≤ wr.heap.size; omega
      have hszd : w1.heap.size ≤ wr.drew.heap.size := hsz
      have htk : (catK mu (·.may) cs i).length ≤ 4096 := by
        have h1 := flatK_len (·.may) cs 64 i hc64
        rw [catK_lenEq]; omega
      have HD := Lib.hid hD
      clear hci hown c0 c1 c2 c3 d0 he hm hIr
      generalize ks[i] = kk at *
      subst hD
      go_wp2_with fail
      go_region_law (refine step_appendS rfl _ _ 36 rfl W.heap.size 9 Tryz.underlying36 info_str _ _ _ hownr rfl _ cs[i].may _ hmr rfl (by omega) hsr ?_; intro v' w' hown' hg' hat')
      all_goals
        have hbn : Below W.heap.size w1 w' := hbr.grown hg' hsr (fun g hg => (hownr.lt g hg).1)
        have hIn := SlV.grown hIrr hg' (fun b' off' e h => hsep b' h b' off' e rfl) hszd
        have hszn : w1.heap.size ≤ w'.heap.size := Nat.le_trans hszd hg'.size
        go_wp2_with fail
        go_roundw
        case rel =>
          refine ⟨i + 1, by omega, by go_num, ?_, hbn, hIn, ?_, hszn⟩
          · rw [catK_succ _ _ _ _ hil, List.map_append, List.length_append]
            exact hown'
          · intro g' hg b' off' e
            rcases hat' with hat | hat
            · exact hsep g' (hat ▸ hg) b' off' e
            · rw [hat] at hg
              injection hg with hg
              injection e with e
              injection e with e _
              omega
        case measure => simp [intOf]; omega
    · have hkl : i = cs.length := by have := HLN.out; omega
      have hltI : ¬ (i : Int) < (ks.length : Int) := by omega
      subst hkl
      rw [catK_all] at hown
      have hql : (mu ++ cs.flatMap (·.may)).length ≤ 1000000 := by rw [List.length_append]; omega
      generalize mu ++ cs.flatMap (·.may) = q at *
      obtain ⟨A3, c3, hu⟩ := own_shape hown
      subst hu
      have hM := r_low_any _ q wr (StrsV.of_own hown) hql hc9
      have hbw := hbw1.trans (hb.mono hbW.size)
      clear hown
      go_wp2_with fail
      refine hM.mono ?_
      rintro e w5 ⟨v5, rfl, hown5, hb5⟩
      go_wp2
      go_ret
      exact ⟨_, rfl, by rw [Hres.out]; exact own_base hown5 hbw.size, hbw.trans (hb5.mono hbw.size)⟩
end Go.Proofs.YtoelhiccofpgfaaGreatDoor
