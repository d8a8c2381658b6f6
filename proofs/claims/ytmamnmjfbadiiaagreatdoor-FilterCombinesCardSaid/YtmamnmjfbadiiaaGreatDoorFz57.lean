/- Part 57 of the proof that the statements of identitylaw09 on matching hold at all arguments: the package variables hold what the program lays; nothing else is asked. -/
import Derived.Test.YtmamnmjfbadiiaaGreatDoorFz55
import Derived.Test.YtmamnmjfbadiiaaGreatDoorFz56
set_option linter.unusedVariables false
set_option linter.unusedSimpArgs false
set_option maxRecDepth 100000
set_option maxHeartbeats 16000000
/- law09: FilterCombines. -/
namespace Go.Proofs.YtmamnmjfbadiiaaGreatDoor
open Go.RowKit Go.Sort
open Idn (L B Bs drop_L take_L size_L)
def setF (k : Int) (l : List Flt) : Flt := .mk k [] [] [] l
theorem setF_val {w : World} {hi d : Nat} {v : Value} {l : List Flt} (k : Int) (h : FltsV w hi d v l) : FltV w hi d (.agg #[.int .i64 k, .string ⟨#[]⟩, .string ⟨#[]⟩, .slice none 0 0, v]) (setF k l) := ⟨_, _, rfl, SlV.nil _ _ _ _, h⟩
theorem setF_sm {n : Nat} {k k' : Int} {a b : List Flt} (h : FSm n (setF k (a ++ b))) : FSm n (setF k' (b ++ a)) := by
 obtain ⟨h1, h2⟩ := h
 refine ⟨?_, fOk_mk.2 ⟨by simp, fun g hg => (fOk_mk.1 h2).2 g ?_⟩⟩
 ·unfold setF at *
  rw [fSize, fSizes_append] at *
  omega
 ·simp only [List.mem_append] at *
  exact hg.symm
theorem setF_or {k k' : Int} (hk : k = 1 ∨ k = 2) (hk' : k' = 1 ∨ k' = 2) {l : List Flt} (h : fCheck (setF k l) = 0) : fCheck (setF k' l) = 0 := (set_check hk').2 ((set_check hk).1 h)
theorem all_turn {p : Flt → Bool} (l : List Flt) (k : Nat) : (l.drop k ++ l.take k).all p = l.all p := by
 rw [List.all_append, Bool.and_comm, ← List.all_append, List.take_append_drop]
theorem any_turn {p : Flt → Bool} (l : List Flt) (k : Nat) : (l.drop k ++ l.take k).any p = l.any p := by
 rw [List.any_append, Bool.or_comm, ← List.any_append, List.take_append_drop]
theorem anyF_step {p : Flt → Bool} {l : List Flt} {k : Nat} (h : k < l.length) : (l.take (k + 1)).any p = ((l.take k).any p || p l[k]) := by
 rw [List.take_succ_eq_append_getElem h, List.any_append]; simp
theorem allF_step {p : Flt → Bool} {l : List Flt} {k : Nat} (h : k < l.length) : (l.take (k + 1)).all p = ((l.take k).all p && p l[k]) := by
 rw [List.take_succ_eq_append_getElem h, List.all_append]; simp
theorem filterCombines_any (u : Value) (s : Idn.Sch) (d : Nat) (v : Value) (l : List Flt) (nm : ByteArray) (av : Value) (A : List Idn.Att) (k : Int) (w : World) (hu : SchV w w.heap.size u s) (hsl : SLen s) (hv : FltsV w w.heap.size d v l) (hl : fLens l) (hll : l.length ≤ 9223372036854775807) (ha : AttsV w w.heap.size av A) (hal : ALen8 A) (hn : nm.size ≤ 9223372036854775807) (hE : Env w) (hU : EnvU w) :
    Calls Tryz.prog 9 #[u, v, .agg #[.string nm, av], .int .i64 k] w fun e w' => e = .returned (.bool true) ∧ Below w.heap.size w w' := by
  have kW := fun W (hW : Below w.heap.size w W) => wide_any u s W (SchV.mono (SchV.keep hu hW) hW.size) hsl
  have kR := fun W (hW : Below w.heap.size w W) => rich_any nm av A W (AttsV.mono (AttsV.keep ha hW) hW.size) hal hn
  have hla : fLen (setF 1 l) := by unfold setF; rw [fLen]; exact ⟨by simp, hll, hl⟩
  have kG := fun W (hW : Below w.heap.size w W) => r9_Great_any d _ (setF 1 l) 60 W (setF_val 1 (hv.on hW)) hla (by decide)
  have kC := fun (hf : FSm 1000 (setF 1 l)) W (hW : Below w.heap.size w W) => fCheck_any d _ (setF 1 l) W (setF_val 1 (hv.on hW)) hf
  have kL := fun W (hW : Below w.heap.size w W) => live9_any W (hE.keep hW) (hU.keep hW)
  have k3 := fun (hs : SSm s) (hA : AGet A) (D : Nat) (vg : Value) (g : Flt) (hg : FSm 1000 g) W (hW : Below w.heap.size w W) (hvg : FltV W W.heap.size D vg g) => fMatch_any D u s vg g nm av A W (SchV.mono (SchV.keep hu hW) hW.size) hs (hE.keep hW) (hU.keep hW) (AttsV.mono (AttsV.keep ha hW) hW.size) hA hvg hg
  obtain ⟨Av, cv, rfl, _⟩ := SlV.shape hv
  obtain ⟨sa, sb, rfl, hT, hC⟩ := hu
  obtain ⟨A1, c1, rfl, _⟩ := SlV.shape hT
  obtain ⟨A2, c2, rfl, _⟩ := SlV.shape hC
  obtain ⟨A3, c3, rfl, _⟩ := SlV.shape ha
  clear hT hC ha hE hU hl hsl hal hla
  go_enter Tryz.func9, Tryz.ntmps9
  go_upto_region 1 with fail
  with_reducible refine gen2 (R := fun W => Code.wp Tryz.prog _ _ _ W) ?_
  intro W0 hbW0 hszW0 hc1 hc2
  have s0 : W0.cell? ⟨w.heap.size, 0, none⟩ = some (.slice A1 s.types.length c1) := hc1 0 _ rfl
  have s1 : W0.cell? ⟨w.heap.size, 1, none⟩ = some (.slice A2 s.classes.length c2) := hc1 1 _ rfl
  have e0 : W0.cell? ⟨w.heap.size + 1, 0, none⟩ = some (.string nm) := hc2 0 _ rfl
  have e1 : W0.cell? ⟨w.heap.size + 1, 1, none⟩ = some (.slice A3 A.length c3) := hc2 1 _ rfl
  clear hc1 hc2 hszW0
  go_upto_region 2 with fail
  with_reducible refine gen1 (R := fun W => Code.wp Tryz.prog _ _ _ W) ?_
  intro W1 hbW1 hzz hc1 _
  clear hzz
  have x0 : W1.cell? ⟨W0.heap.size, 0, none⟩ = some (.int .i64 1) := hc1 0 _ rfl
  have x1 : W1.cell? ⟨W0.heap.size, 1, none⟩ = some (.string ⟨#[]⟩) := hc1 1 _ rfl
  have x2 : W1.cell? ⟨W0.heap.size, 2, none⟩ = some (.string ⟨#[]⟩) := hc1 2 _ rfl
  have x3 : W1.cell? ⟨W0.heap.size, 3, none⟩ = some (.slice none 0 0) := hc1 3 _ rfl
  have x4 : W1.cell? ⟨W0.heap.size, 4, none⟩ = some (.slice Av l.length cv) := hc1 4 _ rfl
  replace s0 := cell_later hbW1 s0
  replace s1 := cell_later hbW1 s1
  replace e0 := cell_later hbW1 e0
  replace e1 := cell_later hbW1 e1
  have hb01 := hbW0.trans (hbW1.mono hbW0.size)
  clear hc1 hbW0 hbW1
  go_upto_region 3 with fail
  with_reducible refine gen1 (R := fun W => Code.wp Tryz.prog _ _ _ W) ?_
  intro W hbW2 hzz hc1 _
  clear hzz
  have y0 : W.cell? ⟨W1.heap.size, 0, none⟩ = some (.int .i64 2) := hc1 0 _ rfl
  have y1 : W.cell? ⟨W1.heap.size, 1, none⟩ = some (.string ⟨#[]⟩) := hc1 1 _ rfl
  have y2 : W.cell? ⟨W1.heap.size, 2, none⟩ = some (.string ⟨#[]⟩) := hc1 2 _ rfl
  have y3 : W.cell? ⟨W1.heap.size, 3, none⟩ = some (.slice none 0 0) := hc1 3 _ rfl
  have y4 : W.cell? ⟨W1.heap.size, 4, none⟩ = some (.slice Av l.length cv) := hc1 4 _ rfl
  replace s0 := cell_later hbW2 s0
  replace s1 := cell_later hbW2 s1
  replace e0 := cell_later hbW2 e0
  replace e1 := cell_later hbW2 e1
  replace x0 := cell_later hbW2 x0
  replace x1 := cell_later hbW2 x1
  replace x2 := cell_later hbW2 x2
  replace x3 := cell_later hbW2 x3
  replace x4 := cell_later hbW2 x4
  have hbW := hb01.trans (hbW2.mono hb01.size)
  clear hc1 hb01 hbW2
  go_wp2_with fail
  refine (kW W hbW).mono ?_
  rintro e w1 ⟨r1, rfl, hr1, hb1⟩
  replace s0 := cell_later hb1 s0
  replace s1 := cell_later hb1 s1
  replace e0 := cell_later hb1 e0
  replace e1 := cell_later hb1 e1
  replace x0 := cell_later hb1 x0
  replace x1 := cell_later hb1 x1
  replace x2 := cell_later hb1 x2
  replace x3 := cell_later hb1 x3
  replace x4 := cell_later hb1 x4
  replace y0 := cell_later hb1 y0
  replace y1 := cell_later hb1 y1
  replace y2 := cell_later hb1 y2
  replace y3 := cell_later hb1 y3
  replace y4 := cell_later hb1 y4
  have hbw1 := hbW.trans (hb1.mono hbW.size)
  have H1 := Lib.hid hr1
  clear kW hb1 hr1 hbW
  cases r1
  case true =>
    clear H1 kC k3 hv hll kR kG s0 s1 e0 e1 x0 x1 x2 x3 x4 y0 y1 y2 y3 y4
    go_wp2_with fail
    refine (kL w1 hbw1).mono ?_
    rintro e w9 ⟨rfl, hb9⟩
    go_wp2_with fail
    go_ret
    exact ⟨rfl, hbw1.trans (hb9.mono hbw1.size)⟩
  have G1 := Lib.hid (H1.out rfl)
  clear H1
  go_wp2_with fail
  refine (kR w1 hbw1).mono ?_
  rintro e w2 ⟨r2, rfl, hr2, hb2⟩
  replace s0 := cell_later hb2 s0
  replace s1 := cell_later hb2 s1
  replace e0 := cell_later hb2 e0
  replace e1 := cell_later hb2 e1
  replace x0 := cell_later hb2 x0
  replace x1 := cell_later hb2 x1
  replace x2 := cell_later hb2 x2
  replace x3 := cell_later hb2 x3
  replace x4 := cell_later hb2 x4
  replace y0 := cell_later hb2 y0
  replace y1 := cell_later hb2 y1
  replace y2 := cell_later hb2 y2
  replace y3 := cell_later hb2 y3
  replace y4 := cell_later hb2 y4
  have hbw2 := hbw1.trans (hb2.mono hbw1.size)
  have H2 := Lib.hid hr2
  clear kR hb2 hr2 hbw1
  cases r2
  case true =>
    clear H2 kC k3 hv hll kG G1 s0 s1 e0 e1 x0 x1 x2 x3 x4 y0 y1 y2 y3 y4
    go_wp2_with fail
    refine (kL w2 hbw2).mono ?_
    rintro e w9 ⟨rfl, hb9⟩
    go_wp2_with fail
    go_ret
    exact ⟨rfl, hbw2.trans (hb9.mono hbw2.size)⟩
  have G2 := Lib.hid (H2.out rfl)
  clear H2
  go_wp2_with fail
  refine (kG w2 hbw2).mono ?_
  rintro e w3 ⟨r3, rfl, hr3, hb3⟩
  replace s0 := cell_later hb3 s0
  replace s1 := cell_later hb3 s1
  replace e0 := cell_later hb3 e0
  replace e1 := cell_later hb3 e1
  replace x0 := cell_later hb3 x0
  replace x1 := cell_later hb3 x1
  replace x2 := cell_later hb3 x2
  replace x3 := cell_later hb3 x3
  replace x4 := cell_later hb3 x4
  replace y0 := cell_later hb3 y0
  replace y1 := cell_later hb3 y1
  replace y2 := cell_later hb3 y2
  replace y3 := cell_later hb3 y3
  replace y4 := cell_later hb3 y4
  have hbw3 := hbw2.trans (hb3.mono hbw2.size)
  have H3 := Lib.hid hr3
  clear kG hb3 hr3 hbw2
  cases r3
  case true =>
    clear H3 kC k3 hv hll G1 G2 s0 s1 e0 e1 x0 x1 x2 x3 x4 y0 y1 y2 y3 y4
    go_wp2_with fail
    refine (kL w3 hbw3).mono ?_
    rintro e w9 ⟨rfl, hb9⟩
    go_wp2_with fail
    go_ret
    exact ⟨rfl, hbw3.trans (hb9.mono hbw3.size)⟩
  have G3 := Lib.hid (H3.out rfl)
  clear H3
  have hfa : FSm 1000 (setF 1 l) := G3.out.up (by decide)
  replace kC := kC hfa
  replace k3 := k3 G1.out G2.out
  clear G1 G2 G3
  go_wp2_with fail
  refine (kC w3 hbw3).mono ?_
  rintro e w4 ⟨rfl, hb4⟩
  replace s0 := cell_later hb4 s0
  replace s1 := cell_later hb4 s1
  replace e0 := cell_later hb4 e0
  replace e1 := cell_later hb4 e1
  replace x0 := cell_later hb4 x0
  replace x1 := cell_later hb4 x1
  replace x2 := cell_later hb4 x2
  replace x3 := cell_later hb4 x3
  replace x4 := cell_later hb4 x4
  replace y0 := cell_later hb4 y0
  replace y1 := cell_later hb4 y1
  replace y2 := cell_later hb4 y2
  replace y3 := cell_later hb4 y3
  replace y4 := cell_later hb4 y4
  have hb := hbw3.trans (hb4.mono hbw3.size)
  clear kC hb4 hbw3
  obtain ⟨ec, hec⟩ : ∃ ec : Int, ec = fCheck (setF 1 l) := ⟨_, rfl⟩
  rw [← hec]
  by_cases hz : ec = 0
  case neg =>
    have hI : (ec != 0) = true := by simpa using hz
    clear k3 hv hec hz hfa s0 s1 e0 e1 x0 x1 x2 x3 x4 y0 y1 y2 y3 y4
    go_wp2_with fail
    refine (kL w4 hb).mono ?_
    rintro e w9 ⟨rfl, hb9⟩
    go_wp2_with fail
    go_ret
    exact ⟨rfl, hb.trans (hb9.mono hb.size)⟩
  have hI : (ec != 0) = false := by simpa using hz
  by_cases hk0 : k < 0
  case pos =>
    clear k3 hv hec hz hfa s0 s1 e0 e1 x0 x1 x2 x3 x4 y0 y1 y2 y3 y4
    go_wp2_with fail
    refine (kL w4 hb).mono ?_
    rintro e w9 ⟨rfl, hb9⟩
    go_wp2_with fail
    go_ret
    exact ⟨rfl, hb.trans (hb9.mono hb.size)⟩
  by_cases hkl : (l.length : Int) < k
  case pos =>
    clear k3 hv hec hz hfa s0 s1 e0 e1 x0 x1 x2 x3 x4 y0 y1 y2 y3 y4
    go_wp2_with fail
    refine (kL w4 hb).mono ?_
    rintro e w9 ⟨rfl, hb9⟩
    go_wp2_with fail
    go_ret
    exact ⟨rfl, hb.trans (hb9.mono hb.size)⟩
  obtain ⟨kn, hkn⟩ : ∃ kn : Nat, (kn : Int) = k := ⟨k.toNat, by omega⟩
  subst hkn
  have hkn : kn ≤ l.length := by omega
  rw [hec] at hz
  have hll2 : l.length ≤ 1000 := (FSm.kids hfa).len
  have hfo : FSm 1000 (setF 2 l) := by have := setF_sm (k' := 2) (a := l) (b := []) (by rw [List.append_nil]; exact hfa); rwa [List.nil_append] at this
  have htd := List.take_append_drop kn l
  have hxa : FSm 1000 (setF 1 (l.drop kn ++ l.take kn)) := setF_sm (by rw [htd]; exact hfa)
  have hxo : FSm 1000 (setF 2 (l.drop kn ++ l.take kn)) := setF_sm (k := 1) (by rw [htd]; exact hfa)
  have zo := setF_or (.inl rfl) (k' := 2) (.inr rfl) hz
  have za : fCheck (setF 1 (l.drop kn ++ l.take kn)) = 0 := set_turn (.inl rfl) (by rw [htd]; exact hz)
  have zb : fCheck (setF 2 (l.drop kn ++ l.take kn)) = 0 := set_turn (.inr rfl) (by rw [htd]; exact zo)
  have m1 : fMatch s A (setF 1 l) = l.all (fMatch s A) := and_law s A hz
  have m2 : fMatch s A (setF 2 l) = l.any (fMatch s A) := or_law s A zo
  have m3 : fMatch s A (setF 1 (l.drop kn ++ l.take kn)) = l.all (fMatch s A) := (and_law s A za).trans (all_turn l kn)
  have m4 : fMatch s A (setF 2 (l.drop kn ++ l.take kn)) = l.any (fMatch s A) := (or_law s A zb).trans (any_turn l kn)
  have c1 := fun (W : World) (hW : Below w.heap.size w W) => k3 d _ (setF 1 l) hfa W hW (setF_val 1 (hv.on hW))
  have c2 := fun (W : World) (hW : Below w.heap.size w W) => k3 d _ (setF 2 l) hfo W hW (setF_val 2 (hv.on hW))
  have c3 := fun (D : Nat) (t : Value) (W : World) (hW : Below w.heap.size w W) (ht : FltsV W W.heap.size D t (l.drop kn ++ l.take kn)) => k3 D _ (setF 1 (l.drop kn ++ l.take kn)) hxa W hW (setF_val 1 ht)
  have c4 := fun (D : Nat) (t : Value) (W : World) (hW : Below w.heap.size w W) (ht : FltsV W W.heap.size D t (l.drop kn ++ l.take kn)) => k3 D _ (setF 2 (l.drop kn ++ l.take kn)) hxo W hW (setF_val 2 ht)
  have hks := FSm.kids hfa
  have cK := fun (j : Nat) (hj : j < l.length) (hd : 0 < d) (vg : Value) (W : World) (hW : Below w.heap.size w W) (hvg : FltV W W.heap.size (d - 1) vg l[j]) => k3 (d - 1) vg l[j] (hks.mem (List.getElem_mem hj)) W hW hvg
  rw [m1] at c1
  rw [m2] at c2
  rw [m3] at c3
  rw [m4] at c4
  clear k3 m1 m2 m3 m4 hz zo za zb hxa hxo hfo hfa htd hec
  obtain ⟨fm, hfm⟩ : ∃ fm : Flt → Bool, fm = fMatch s A := ⟨_, rfl⟩
  rw [← hfm] at c1 c2 c3 c4 cK
  obtain ⟨ma, hma⟩ : ∃ ma : Bool, ma = l.all fm := ⟨_, rfl⟩
  obtain ⟨mo, hmo⟩ : ∃ mo : Bool, mo = l.any fm := ⟨_, rfl⟩
  rw [← hma] at c1 c3
  rw [← hmo] at c2 c4
  have HMA := Lib.hid hma
  have HMO := Lib.hid hmo
  clear hma hmo hfm hks
  obtain ⟨T1, cT1, hT, hT1⟩ := takeF_run (FltsV.keep hv hb) hkn
  obtain ⟨T2, cT2, hD, hD1⟩ := dropF_run (FltsV.keep hv hb) hkn
  have htl : (l.take kn).length = kn := by rw [List.length_take]; omega
  have hdl : (l.drop kn).length = l.length - kn := List.length_drop
  have HTL := Lib.hid htl
  have HDL := Lib.hid hdl
  clear htl hdl
  have hw4 := hb.size
  have bd : Below w4.heap.size w4 w4.drew := (Below.refl _ _).drew
  have ba : Below w4.heap.size w4 (w4.drew.alloc (.cells #[] 26)) := bd.alloc (Nat.le_refl _) _
  have hlit := World.ownsRow_lit (base := w4.heap.size) (e := 26) (size := 5) w4.drew #[] 0 (Nat.le_refl _) (by decide) rfl
  have hrow0 : RowF (fun k => w.heap.size ≤ k ∧ k < w4.heap.size) (w4.drew.alloc (.cells #[] 26)) w4.heap.size d (.slice (some ⟨w4.heap.size, 0, none⟩) 0 0) [] := ⟨[], rfl, by simp, hlit, fun k hk hx => by simp [Value.ownBlock] at hk; omega, by simp⟩
  have hD2 := FltsV.keep hD1 (ba.mono hw4)
  have hT2 := FltsV.keep hT1 (ba.mono hw4)
  clear hD1 hT1 hlit
  go_wp2_with fail
  go_region_law (first
    | (refine step_appendF rfl _ _ rfl w4.heap.size w.heap.size d _ (l.drop kn) hrow7 rfl _ (l.take kn) hT7 rfl hw4 (fun k hk => ⟨hk.1, Nat.lt_of_lt_of_le hk.2 hs7⟩) (by rw [HDL.out, HTL.out]; omega) hs7 ?_
       intro v8 w8 hrow8 hb8
       obtain ⟨A8, c8, hv8⟩ := hrow8.shapeN (n := l.length) (by rw [List.length_append, HDL.out, HTL.out]; omega)
       subst hv8)
    | (refine step_appendF rfl _ _ rfl w4.heap.size w.heap.size d _ [] hrow0 rfl _ (l.drop kn) hD2 rfl hw4 (fun k hk => ⟨hk.1, Nat.lt_of_lt_of_le hk.2 ba.size⟩) (by rw [HDL.out, List.length_nil]; omega) ba.size ?_
       intro v7 w7 hrow7 hb7
       rw [List.nil_append] at hrow7
       obtain ⟨A7, c7, hv7⟩ := hrow7.shapeN (n := l.length - kn) HDL.out
       subst hv7
       have hT7 := FltsV.keep hT2 (hb7.mono hw4)
       have hs7 := Nat.le_trans ba.size hb7.size
       go_wp2_with fail))
  all_goals
    have hb48 : Below w4.heap.size w4 w8 := ba.trans (hb7.trans hb8)
    have hbw8 := hb.trans (hb48.mono hb.size)
    have hrd := hrow8.read
    clear hrow8 hrow7 hrow0 hD2 hT2 hT7 hb7 hb8 ba bd hs7 hT hD
    replace s0 := cell_later hb48 s0
    replace s1 := cell_later hb48 s1
    replace e0 := cell_later hb48 e0
    replace e1 := cell_later hb48 e1
    replace x0 := cell_later hb48 x0
    replace x1 := cell_later hb48 x1
    replace x2 := cell_later hb48 x2
    replace x3 := cell_later hb48 x3
    replace x4 := cell_later hb48 x4
    replace y0 := cell_later hb48 y0
    replace y1 := cell_later hb48 y1
    replace y2 := cell_later hb48 y2
    replace y3 := cell_later hb48 y3
    replace y4 := cell_later hb48 y4
    go_wp2_with fail
    go_loopw [12, 13, 59] (fun a o i wr => ∃ (j : Nat) (xa xo : Bool), j ≤ l.length ∧ a = .bool xa ∧ o = .bool xo ∧ i = .int .i64 j ∧ Below w8.heap.size w8 wr ∧ Hid (xa = (l.take j).all fm) ∧ Hid (xo = (l.take j).any fm)) (fun _ _ i _ => l.length - (intOf i).toNat)
    case atStart => exact ⟨0, true, false, Nat.zero_le _, rfl, rfl, rfl, Below.refl _ _, rfl, rfl⟩
    case round =>
      obtain ⟨j, xa, xo, hj9, rfl, rfl, rfl, hbr, hxa, hxo⟩ := hrel
      obtain ⟨wo, hwo⟩ : ∃ wo : World, wo = wr := ⟨_, rfl⟩
      subst hwo
      have hbo := hbw8.trans (hbr.mono hbw8.size)
      replace s0 := cell_later hbr s0
      replace s1 := cell_later hbr s1
      replace e0 := cell_later hbr e0
      replace e1 := cell_later hbr e1
      replace x0 := cell_later hbr x0
      replace x1 := cell_later hbr x1
      replace x2 := cell_later hbr x2
      replace x3 := cell_later hbr x3
      replace x4 := cell_later hbr x4
      replace y0 := cell_later hbr y0
      replace y1 := cell_later hbr y1
      replace y2 := cell_later hbr y2
      replace y3 := cell_later hbr y3
      replace y4 := cell_later hbr y4
      by_cases hlt : j < l.length
      · obtain ⟨gb, off, Ap', cp', Ak', ck', hAk, hgl, g0, g1, g2, g3, g4, hd, hkid⟩ := FltsV.kid2 (FltsV.on hv hbo) hlt
        subst hAk
        have hltI : (j : Int) < (l.length : Int) := by omega
        have q1 := cq (W := wo) fun V hV => cK j hlt hd _ V (hbo.trans (hV.mono hbo.size)) (hkid.on hV)
        have HXa : Hid ((l.take (j + 1)).all fm = (xa && fm l[j])) := by show _ = _; rw [allF_step hlt, hxa.out]
        have HXo : Hid ((l.take (j + 1)).any fm = (xo || fm l[j])) := by show _ = _; rw [anyF_step hlt, hxo.out]
        have i0 := cell_regrown s0
        have i1 := cell_regrown s1
        have j0 := cell_regrown g0
        have j1 := cell_regrown g1
        have j2 := cell_regrown g2
        have j3 := cell_regrown g3
        have j4 := cell_regrown g4
        have i5 := cell_regrown e0
        have i6 := cell_regrown e1
        generalize fm l[j] = rk at *
        clear hxa hxo hkid cK c1 c2 c3 c4 hv
        go_wp2_with fail
        refine wp_region_quiet_below (by kernel_rfl) (by kernel_rfl) ?_
        repeat (first | go_big_quiet_step ((go_at_call 22; exact q1 _ _)) | quiet_step ((go_at_call 22; exact q1 _ _)))
        refine wpQuiet_nil ?_
        intro _ hw'
        obtain ⟨⟨dq, osq⟩, hw''⟩ := hw'
        subst hw''
        have hb4 := below_regrown wo dq osq
        generalize grow (redrawn wo dq) osq = W4 at hb4 ⊢
        clear q1 i0 i1 j0 j1 j2 j3 j4 i5 i6 g0 g1 g2 g3 g4
        cases xa <;> cases xo <;> cases rk
        all_goals
          go_wp2_with fail
          go_roundw
          case rel => exact ⟨j + 1, _, _, by omega, rfl, rfl, by go_num, hbr.trans (hb4.mono hbr.size), by show _ = _; rw [HXa.out]; rfl, by show _ = _; rw [HXo.out]; rfl⟩
          case measure => simp [intOf]; omega
      · have hltI : ¬ (j : Int) < (l.length : Int) := by omega
        have ha1 := hxa.out
        have ho1 := hxo.out
        rw [List.take_of_length_le (by omega), ← HMA.out] at ha1
        rw [List.take_of_length_le (by omega), ← HMO.out] at ho1
        subst ha1 ho1
        clear hxa hxo cK
        have t1 : (xa == xa) = true := beq_self_eq_true xa
        have t2 : (xo == xo) = true := beq_self_eq_true xo
        go_upto_region 15 with fail
        with_reducible refine gen1 (R := fun W => Code.wp Tryz.prog _ _ _ W) ?_
        intro V1 hbV1 hzz hd1 _
        clear hzz
        have p0 : V1.cell? ⟨wo.heap.size, 0, none⟩ = some (.int .i64 1) := hd1 0 _ rfl
        have p1 : V1.cell? ⟨wo.heap.size, 1, none⟩ = some (.string ⟨#[]⟩) := hd1 1 _ rfl
        have p2 : V1.cell? ⟨wo.heap.size, 2, none⟩ = some (.string ⟨#[]⟩) := hd1 2 _ rfl
        have p3 : V1.cell? ⟨wo.heap.size, 3, none⟩ = some (.slice none 0 0) := hd1 3 _ rfl
        have p4 : V1.cell? ⟨wo.heap.size, 4, none⟩ = some (.slice A8 (l.length) c8) := hd1 4 _ rfl
        replace s0 := cell_later hbV1 s0
        replace s1 := cell_later hbV1 s1
        replace e0 := cell_later hbV1 e0
        replace e1 := cell_later hbV1 e1
        replace x0 := cell_later hbV1 x0
        replace x1 := cell_later hbV1 x1
        replace x2 := cell_later hbV1 x2
        replace x3 := cell_later hbV1 x3
        replace x4 := cell_later hbV1 x4
        replace y0 := cell_later hbV1 y0
        replace y1 := cell_later hbV1 y1
        replace y2 := cell_later hbV1 y2
        replace y3 := cell_later hbV1 y3
        replace y4 := cell_later hbV1 y4
        have hbv1 := hbr.trans (hbV1.mono hbr.size)
        clear hd1 hbV1
        go_upto_region 16 with fail
        with_reducible refine gen1 (R := fun W => Code.wp Tryz.prog _ _ _ W) ?_
        intro V2 hbV2 hzz hd1 _
        clear hzz
        have z0 : V2.cell? ⟨V1.heap.size, 0, none⟩ = some (.int .i64 2) := hd1 0 _ rfl
        have z1 : V2.cell? ⟨V1.heap.size, 1, none⟩ = some (.string ⟨#[]⟩) := hd1 1 _ rfl
        have z2 : V2.cell? ⟨V1.heap.size, 2, none⟩ = some (.string ⟨#[]⟩) := hd1 2 _ rfl
        have z3 : V2.cell? ⟨V1.heap.size, 3, none⟩ = some (.slice none 0 0) := hd1 3 _ rfl
        have z4 : V2.cell? ⟨V1.heap.size, 4, none⟩ = some (.slice A8 (l.length) c8) := hd1 4 _ rfl
        replace s0 := cell_later hbV2 s0
        replace s1 := cell_later hbV2 s1
        replace e0 := cell_later hbV2 e0
        replace e1 := cell_later hbV2 e1
        replace x0 := cell_later hbV2 x0
        replace x1 := cell_later hbV2 x1
        replace x2 := cell_later hbV2 x2
        replace x3 := cell_later hbV2 x3
        replace x4 := cell_later hbV2 x4
        replace y0 := cell_later hbV2 y0
        replace y1 := cell_later hbV2 y1
        replace y2 := cell_later hbV2 y2
        replace y3 := cell_later hbV2 y3
        replace y4 := cell_later hbV2 y4
        replace p0 := cell_later hbV2 p0
        replace p1 := cell_later hbV2 p1
        replace p2 := cell_later hbV2 p2
        replace p3 := cell_later hbV2 p3
        replace p4 := cell_later hbV2 p4
        have hbv2 := hbv1.trans (hbV2.mono hbv1.size)
        have hbw9 := hbw8.trans (hbv2.mono hbw8.size)
        have rd := fun (V : World) (hV : Below V2.heap.size V2 V) => hrd V (Agr.later (hbv2.trans (hV.mono hbv2.size)))
        clear hd1 hbV2 hbr hbv1 hbo hrd
        go_wp2_with fail
        refine (c1 V2 hbw9).mono ?_
        rintro e V3 ⟨rfl, hb3⟩
        replace s0 := cell_later hb3 s0
        replace s1 := cell_later hb3 s1
        replace e0 := cell_later hb3 e0
        replace e1 := cell_later hb3 e1
        replace y0 := cell_later hb3 y0
        replace y1 := cell_later hb3 y1
        replace y2 := cell_later hb3 y2
        replace y3 := cell_later hb3 y3
        replace y4 := cell_later hb3 y4
        replace p0 := cell_later hb3 p0
        replace p1 := cell_later hb3 p1
        replace p2 := cell_later hb3 p2
        replace p3 := cell_later hb3 p3
        replace p4 := cell_later hb3 p4
        replace z0 := cell_later hb3 z0
        replace z1 := cell_later hb3 z1
        replace z2 := cell_later hb3 z2
        replace z3 := cell_later hb3 z3
        replace z4 := cell_later hb3 z4
        have hw3 := hbw9.trans (hb3.mono hbw9.size)
        clear c1 x0 x1 x2 x3 x4
        go_wp2_with fail
        refine (c2 V3 hw3).mono ?_
        rintro e V4 ⟨rfl, hb4⟩
        replace s0 := cell_later hb4 s0
        replace s1 := cell_later hb4 s1
        replace e0 := cell_later hb4 e0
        replace e1 := cell_later hb4 e1
        replace p0 := cell_later hb4 p0
        replace p1 := cell_later hb4 p1
        replace p2 := cell_later hb4 p2
        replace p3 := cell_later hb4 p3
        replace p4 := cell_later hb4 p4
        replace z0 := cell_later hb4 z0
        replace z1 := cell_later hb4 z1
        replace z2 := cell_later hb4 z2
        replace z3 := cell_later hb4 z3
        replace z4 := cell_later hb4 z4
        have hw4 := hw3.trans (hb4.mono hw3.size)
        have hb34 := hb3.trans (hb4.mono hb3.size)
        clear c2 y0 y1 y2 y3 y4
        go_wp2_with fail
        refine (c3 d _ V4 hw4 (rd V4 hb34)).mono ?_
        rintro e V5 ⟨rfl, hb5⟩
        replace s0 := cell_later hb5 s0
        replace s1 := cell_later hb5 s1
        replace e0 := cell_later hb5 e0
        replace e1 := cell_later hb5 e1
        replace z0 := cell_later hb5 z0
        replace z1 := cell_later hb5 z1
        replace z2 := cell_later hb5 z2
        replace z3 := cell_later hb5 z3
        replace z4 := cell_later hb5 z4
        have hw5 := hw4.trans (hb5.mono hw4.size)
        have hb35 := hb34.trans (hb5.mono hb34.size)
        clear c3 p0 p1 p2 p3 p4
        go_wp2_with fail
        refine (c4 d _ V5 hw5 (rd V5 hb35)).mono ?_
        rintro e V6 ⟨rfl, hb6⟩
        have hw6 := hw5.trans (hb6.mono hw5.size)
        clear c4 z0 z1 z2 z3 z4 rd
        go_wp2_with fail
        refine (kL V6 hw6).mono ?_
        rintro e V7 ⟨rfl, hb7⟩
        go_wp2_with fail
        go_ret
        exact ⟨rfl, hw6.trans (hb7.mono hw6.size)⟩
end Go.Proofs.YtmamnmjfbadiiaaGreatDoor
/- FilterCombines: the contract as the row asks it, the statement, the card. -/
namespace Go.Proofs.YtmamnmjfbadiiaaGreatDoor
open Go.RowKit Go.Sort Go.Shelf Go.ChangeShapes Go.WideShapes Go.ChangeAt Go.ChangeMaps
theorem laid_eqFB : Rows.filterCombinesRow.laid = laidL := by
 unfold laidL
 rw [← pow_eq, ← acc_eq, ← first_eq, ← case_eq]
 rfl
theorem cFB_contract (F : Stop.Interp) (H : Type) (enc : TypeId × Value → H) (W : World) (base : Nat) (args : Array Value) (ds gs : List (DataW H)) (before : List MemPlace)
  (hval : ∀ (j : Nat) t v, Tryz.f9.params[j]? = some t → args[j]? = some v → Value.okWide Tryz.prog W .any base t v)
  (hW : DataW.Whole enc Tryz.prog Tryz.f9.params.toList Rows.filterCombinesSpec.vars false W args.toList ds gs before) (hL : laidMet Tryz.prog laidL W) (hsh : W.ShapedOpen Tryz.prog) :
  Calls Tryz.prog 9 args W fun e W' => ∃ v, e = .returned v ∧ ((OpenSpec.ofChange Rows.filterCombinesSpec).at F).post enc Tryz.prog Tryz.f9 false true false false W args v W' := by
 have hW' := hW
 obtain ⟨p, q, hA0, hV0, rfl, _, _⟩ := hW
 have hA : DataW.TrodAll enc Tryz.prog W 0 (fun _ => true) true Tryz.f9.params.toList args.toList ds p := hA0
 rw [Tryz.params9] at hA hval
 obtain ⟨v0, v1, v2, v3, d0, d1, d2, d3, p0, p1, p2, p3, rfl, rfl, rfl, h0, h1, h2, h3⟩ := trodAll_four hA
 obtain ⟨rfl, rfl⟩ := trodVars_none hV0
 obtain ⟨n2, a2, l2, rfl, hA3, hl2, hn2⟩ := entry_open8 (hval 2 44 v2 rfl rfl) h2
 obtain ⟨s0, hS0, hl0⟩ := schema_open (hval 0 41 v0 rfl rfl) h0
 obtain ⟨d1f, l1, hF1, hl1, hm1⟩ := filters_open (hval 1 24 v1 rfl rfl) h1
 obtain ⟨k3, rfl, _⟩ := open_int Tryz.underlying3 (hval 3 3 v3 rfl rfl) h3
 clear hA0 hV0 hval
 simp only [List.append_nil, List.append_assoc] at hW'
 have hlt : ∀ x ∈ p0 ++ (p1 ++ (p2 ++ p3)), x.block < W.heap.size := fun x hx => by simpa using hW'.lt x (by simpa using hx)
 obtain ⟨hE, hU⟩ := env_of hL hsh
 refine (filterCombines_any v0 s0 d1f v1 l1 n2 a2 l2 k3 W hS0 hl0 hF1 hl1 hm1 hA3 hl2 hn2  hE hU).mono ?_
 rintro e W' ⟨rfl, bel⟩
 have e1 : ((OpenSpec.ofChange Rows.filterCombinesSpec).at F).fn H ([d0, d1, d2, d3] ++ []) = { results := [.lit (.bool true)], args := [d0, d1, d2, d3] } := rfl
 refine ⟨_, rfl, _, _, _, [], (p0 ++ (p1 ++ (p2 ++ p3))), [], hW', ?_, ?_, ?_, bel.frame _, fun h => by cases h⟩
 ·rw [e1]; exact trodAll_mk1 (shut_bool Tryz.underlying4 _)
 ·rw [e1]; exact trodAll_mk4 (Below.trod laidOut (by kernel_rfl) (of_decide_eq_true (by kernel_rfl)) h0 bel (fun x hx => hlt x (List.mem_append_left _ hx))) (Below.trod laidOut (by kernel_rfl) (of_decide_eq_true (by kernel_rfl)) h1 bel (fun x hx => hlt x (List.mem_append_right _ (List.mem_append_left _ hx)))) (Below.trod laidOut (by kernel_rfl) (of_decide_eq_true (by kernel_rfl)) h2 bel (fun x hx => hlt x (List.mem_append_right _ (List.mem_append_right _ (List.mem_append_left _ hx))))) (Below.trod laidOut (by kernel_rfl) (of_decide_eq_true (by kernel_rfl)) h3 bel (fun x hx => hlt x (List.mem_append_right _ (List.mem_append_right _ (List.mem_append_right _ hx)))))
 ·rw [e1]; rfl
theorem noHandleFB {W : World} (h : laidMetH Tryz.prog Rows.filterCombinesRow.laid W) : laidMet Tryz.prog laidL W := by
 have e : (Rows.filterCombinesRow.laid.filter fun x => x.2.handleName?.isSome) = [] := by kernel_rfl
 unfold laidMetH at h
 rw [e] at h
 rw [← laid_eqFB]
 exact h
theorem laid_metFB (os : Os) (args : Array Value) : laidMet Tryz.prog Rows.filterCombinesRow.laid ((laidWorld os).forCall (fun _ _ => 0) ⟨#[], args, []⟩).memory := by
 rw [laid_eqFB]
 exact laid_metW os args
theorem witness_rowFB (os : Os) {H : Type} (enc : TypeId × Value → H) :
  (OpenSpec.ofChange Rows.filterCombinesSpec).preRow enc Tryz.prog Tryz.f9 Rows.filterCombinesRow.domain false Rows.filterCombinesRow.laid ((laidWorld os).forCall (fun _ _ => 0) ⟨#[], #[.agg #[.slice none 0 0, .slice none 0 0], .slice none 0 0, .agg #[.string ⟨#[]⟩, .slice none 0 0], .int .i64 0], []⟩).memory #[.agg #[.slice none 0 0, .slice none 0 0], .slice none 0 0, .agg #[.string ⟨#[]⟩, .slice none 0 0], .int .i64 0] := by
 have hw : (DataW.whole enc Tryz.prog ((laidWorld os).forCall (fun _ _ => 0) ⟨#[], #[.agg #[.slice none 0 0, .slice none 0 0], .slice none 0 0, .agg #[.string ⟨#[]⟩, .slice none 0 0], .int .i64 0], []⟩).memory Tryz.f9.params.toList (OpenSpec.ofChange Rows.filterCombinesSpec).vars false #[Value.agg #[.slice none 0 0, .slice none 0 0], .slice none 0 0, .agg #[.string ⟨#[]⟩, .slice none 0 0], .int .i64 0].toList 8).map (fun x => (x.1, x.2.1)) =
   some ([.agg [.nil, .nil], .nil, .agg [.lit (.string []), .nil], .lit (.int .i64 0)], []) := by kernel_rfl
 obtain ⟨⟨x1, x2, x3⟩, hx, hx1⟩ := Option.map_eq_some_iff.1 hw
 simp only [Prod.mk.injEq] at hx1
 obtain ⟨rfl, rfl⟩ := hx1
 exact OpenSpec.preRow_of_cond 8 hx (by kernel_rfl) (fun k hk => by cases hk) (by kernel_rfl) (laid_metFB os _)
theorem liftedFB (os : Os) (started : os.Started) (H : Type) (enc : TypeId × Value → H) (F : Stop.Interp) :
  ReturnsInHanded {} Tryz.checked os 9 .any ((OpenSpec.ofChange Rows.filterCombinesSpec).preRow enc Tryz.prog Tryz.f9 Rows.filterCombinesRow.domain false Rows.filterCombinesRow.laid) (((OpenSpec.ofChange Rows.filterCombinesSpec).at F).post enc Tryz.prog Tryz.f9 false true false false) := by
 refine returnsInHanded_of_row (C := Tryz.checked) (s := (OpenSpec.ofChange Rows.filterCombinesSpec)) own started (by kernel_rfl) Tryz.func9
  (witness_row_atRef (enc := enc) (C := Tryz.checked) false (laidWorld os) #[.agg #[.slice none 0 0, .slice none 0 0], .slice none 0 0, .agg #[.string ⟨#[]⟩, .slice none 0 0], .int .i64 0] rfl (by kernel_rfl) (by kernel_rfl) (by kernel_rfl) (witness_rowFB os enc)) ?_
 intro W base args ds gs before hval hW _ _ _ hL hsh _
 exact cFB_contract F H enc W base args ds gs before hval hW (noHandleFB hL) hsh
end Go.Proofs.YtmamnmjfbadiiaaGreatDoor
/- FilterCombines: the statement. -/
namespace Go.Proofs.YtmamnmjfbadiiaaGreatDoor
open Go.RowKit Go.Sort Go.Shelf Go.ChangeShapes Go.WideShapes Go.ChangeAt Go.ChangeMaps
theorem closedFB : joinedFacts Tryz.pinned.checked.prog 9 Tryz.f9 (OpenSpec.ofChange Rows.filterCombinesSpec).bare Rows.filterCombinesRow = true := by
 unfold joinedFacts
 simp only [Bool.and_eq_true]
 repeat' with_reducible apply And.intro
 all_goals (as_aux_lemma => kernel_rfl)
theorem saidFB : Rows.FilterCombinesSaid :=
 OpenClaim.holds_of_cond 9 Tryz.f9 rfl rfl rfl rfl rfl rfl rfl ⟨rfl, rfl, rfl, rfl, rfl⟩ rfl rfl rfl rfl rfl (by kernel_rfl) Tryz.func9 closedFB
  (of_decide_eq_true (by kernel_rfl)) (by unfold Func.isWrapper; first | (rw [if_pos (by decide +kernel)]; kernel_rfl) | (rw [if_neg (by decide +kernel)]; exact ⟨rfl, rfl⟩))
  (fun os started H enc _ F => by rw [OpenClaim.pre_eq_preRow]; exact liftedFB os started H enc F)
end Go.Proofs.YtmamnmjfbadiiaaGreatDoor
/- FilterCombines: the card. -/
namespace Go.Proofs.YtmamnmjfbadiiaaGreatDoor
open Go.RowKit Go.Sort Go.Shelf Go.ChangeShapes Go.WideShapes Go.ChangeAt Go.ChangeMaps
theorem plainFB (f : FuncId) (fn : Func) (hf : Tryz.pinned.checked.prog.funcNamed "identity/identitylaw09.FilterCombines" = some f) (hfn : Tryz.pinned.checked.prog.funcs[f]? = some fn) :
  true = Tryz.pinned.checked.prog.looks [] ∧ ∀ (j : Nat) t, fn.params[j]? = some t → Tryz.pinned.checked.prog.wantsStandIn t = false := by
 obtain rfl : f = 9 := Option.some.inj ((show Tryz.prog.funcNamed "identity/identitylaw09.FilterCombines" = some 9 by kernel_rfl).symm.trans hf) |>.symm
 obtain rfl : fn = Tryz.f9 := (Option.some.inj (Tryz.func9.symm.trans hfn)).symm
 refine ⟨by kernel_rfl, fun j t ht => ?_⟩
 rw [Tryz.params9] at ht
 have hm := Array.mem_of_getElem? ht
 simp at hm
 rcases hm with rfl | rfl | rfl | rfl
 ·exact (show Tryz.prog.wantsStandIn 41 = false by kernel_rfl)
 ·exact (show Tryz.prog.wantsStandIn 24 = false by kernel_rfl)
 ·exact (show Tryz.prog.wantsStandIn 44 = false by kernel_rfl)
 ·exact (show Tryz.prog.wantsStandIn 3 = false by kernel_rfl)
theorem filterCombines_card : Rows.FilterCombinesCardSaid :=
 Claim7.holds_tied_plain_at .later [] _ _ _ _ saidFB (fun _ h => by cases h) (by kernel_rfl) (fun _ h => by cases h) filterCombines_row_tie rfl ⟨rfl, rfl⟩ (by kernel_rfl) rfl plainFB (by kernel_rfl)
#print axioms filterCombines_card
end Go.Proofs.YtmamnmjfbadiiaaGreatDoor
