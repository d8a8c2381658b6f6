/- Part 43 of the proof that identitylaw09.FilterNames returns true at all filters: the package variables hold what the program lays; nothing else is asked. -/
import Derived.Test.YtmamnmjfbadiiaaGreatDoorFna14
import Derived.Test.YtmamnmjfbadiiaaGreatDoorFna37
import Derived.Test.YtmamnmjfbadiiaaGreatDoorFna38
import Derived.Test.YtmamnmjfbadiiaaGreatDoorFna41
import Derived.Test.YtmamnmjfbadiiaaGreatDoorFna42
import Derived.Laws.EntriesVeiled
set_option linter.unusedVariables false
set_option linter.unusedSimpArgs false
/- filter: Names. -/
namespace Go.Proofs.YtmamnmjfbadiiaaGreatDoor
open Go.RowKit Go.Sort
open Idn (L B Bs drop_L take_L size_L)
theorem fNamed_len : ∀ f : Flt, (fNamed f).length ≤ fSize f := by
  intro f
  induction f using Flt.ind with
  | h k n v ps ks ih =>
    rw [fNamed, fSize, List.length_append, fNameds_eq]
    have h1 : ∀ l : List Flt, (∀ f ∈ l, (fNamed f).length ≤ fSize f) → (l.flatMap fNamed).length ≤ fSizes l := by
      intro l
      induction l with
      | nil => intro _; exact Nat.le_refl _
      | cons g l ihl =>
        intro h
        have a1 := h g List.mem_cons_self
        have a2 := ihl fun f hf => h f (List.mem_cons_of_mem _ hf)
        rw [List.flatMap_cons, List.length_append, fSizes]; omega
    have h2 := h1 ks ih
    have h3 : (if isCmp k = true then [Idn.lower n] else ([] : List Bs)).length ≤ 1 := by split <;> simp
    omega
theorem fNamed_unf (f : Flt) : fNamed f = (if isCmp f.kind then [Idn.lower f.name] else []) ++ fNameds f.kids := by cases f; rfl
/-- the cells of a closure that gathers names: the list so far, the closure itself -/
structure OutAt (w : World) (p q base : Nat) (acc : List Bs) (fv : Value) : Prop where
  row : ∃ A c, w.cell? ⟨p, 0, none⟩ = some (.slice A acc.length c) ∧ w.ownsRow base 9 1 (.slice A acc.length c) acc.length (acc.map sv)
  fz : w.frozen? ⟨p, 0, none⟩ = false
  fn : w.cell? ⟨q, 0, none⟩ = some fv
  lt : p < q ∧ q < base ∧ base ≤ w.heap.size
theorem OutAt.later {w W : World} {p q base : Nat} {acc : List Bs} {fv : Value} (h : OutAt w p q base acc fv) (hb : Below w.heap.size w W) : OutAt W p q base acc fv := by
  obtain ⟨⟨A, c, h1, h2⟩, h3, h4, h5, h6, h7⟩ := h
  exact ⟨⟨A, c, cell_later hb h1, own_below h2 hb⟩, frozen_later hb h3 (by omega), cell_later hb h4, h5, h6, Nat.le_trans h7 hb.size⟩
def RetV (p q base : Nat) (acc : List Bs) (fv : Value) (w : World) (e : Ending) (w' : World) : Prop := e = .returned (.tuple #[]) ∧ OutAt w' p q base acc fv ∧ Below p w w'
theorem genQ {R : World → Prop} {w : World} {p : Nat} {a u : Value} (hf : w.frozen? ⟨p, 0, none⟩ = false) (hx : w.cell? ⟨p, 0, none⟩ = some a)
    (h : ∀ W, But p w W → W.cell? ⟨p, 0, none⟩ = some u → W.frozen? ⟨p, 0, none⟩ = false → W.heap.size = w.heap.size → R W) : R (w.setCell ⟨p, 0, none⟩ u) :=
  h _ ((But.refl p w).put u) (by simp [go_sem, hx]) (by simp [hf]) (by simp [World.setCell])
set_option maxHeartbeats 4000000 in
set_option maxRecDepth 100000 in
theorem visit_any : ∀ (d : Nat) (v : Value) (f : Flt) (p q base : Nat) (acc : List Bs) (w : World), FltV w p d v f → FSm 1000 f → OutAt w p q base acc (.func (.func 45) #[] #[.pointer (some ⟨p, 0, none⟩), .pointer (some ⟨q, 0, none⟩)]) → acc.length + fSize f ≤ 2000 →
    Calls Tryz.prog 45 #[v, .pointer (some ⟨p, 0, none⟩), .pointer (some ⟨q, 0, none⟩)] w (RetV p q base (acc ++ fNamed f) (.func (.func 45) #[] #[.pointer (some ⟨p, 0, none⟩), .pointer (some ⟨q, 0, none⟩)]) w) := by
  intro d
  induction d using Nat.strongRecOn with
  | _ d ih =>
  intro v f p q base acc w hv hs hO hacc
  obtain ⟨Ap, cp, Ak, ck, rfl, hp, hk⟩ := hv.shape
  have hks := hs.kids
  have hkl := hks.len
  obtain ⟨o1, _, _, _⟩ := fOk_own hs.2
  have kC := fun W => fcomp_any f.kind W
  have kL := fun W => lower_any (B f.name) W (by rw [Idn.size_B]; omega)
  simp only [Idn.L_B] at kL
  have HN : Hid (fNamed f = (if isCmp f.kind then [Idn.lower f.name] else []) ++ fNameds f.kids) := fNamed_unf f
  have HZ : Hid (fSize f = fSizes f.kids + 1) := by show _ = _; cases f; rfl
  generalize isCmp f.kind = r5 at *
  generalize Idn.lower f.name = ln at *
  generalize fNamed f = R at *
  clear hp hv
  obtain ⟨l1, l2, l3⟩ := hO.lt
  cases r5
  case false =>
    go_enter Tryz.func45, Tryz.ntmps45
    go_upto_region 1 with fail
    with_reducible refine gen1 (R := fun W => Code.wp Tryz.prog _ _ _ W) ?_
    intro W hbW hszW hc _
    have b0 : W.cell? ⟨w.heap.size, 0, none⟩ = some (.int .i64 f.kind) := hc 0 _ rfl
    have b4 : W.cell? ⟨w.heap.size, 4, none⟩ = some (.slice Ak f.kids.length ck) := hc 4 _ rfl
    replace hO := hO.later hbW
    have hb : Below p w W := hbW.mono (by omega)
    clear hc hszW hbW kL
    go_wp2_with fail
    refine (kC W).mono ?_
    rintro e wd ⟨rfl, rfl⟩
    clear kC b0
    go_wp2_with fail
    go_loopw [18] (fun i wr => ∃ (k : Nat) (a : List Bs), k ≤ f.kids.length ∧ i = .int .i64 k ∧ OutAt wr p q base a (.func (.func 45) #[] #[.pointer (some ⟨p, 0, none⟩), .pointer (some ⟨q, 0, none⟩)]) ∧ Below p w wr ∧ Hid (a = acc ++ fNameds (f.kids.take k)) ∧ a.length + fSizes (f.kids.drop k) ≤ 2000) (fun i _ => f.kids.length - (intOf i).toNat)
    case atStart => exact ⟨0, acc, Nat.zero_le _, rfl, hO, hb, by show _ = _; simp [fNameds], by have := HZ.out; simp; omega⟩
    case round =>
      obtain ⟨k, a, hk9, rfl, hO, hb, hinv, hal⟩ := hrel
      by_cases hlt : k < f.kids.length
      · obtain ⟨g, off, Ap', cp', Ak', ck', hA, hg, c0, c1, c2, c3, c4, hd, hkid⟩ := FltsV.kid2 (FltsV.keep hk hb) hlt
        subst hA
        have hltI : (k : Int) < (f.kids.length : Int) := by omega
        have hmem := List.getElem_mem hlt
        go_upto_region 6 with fail
        with_reducible refine gen1 (R := fun W => Code.wp Tryz.prog _ _ _ W) ?_
        intro W5 hbW5 hsz5 hc5 _
        have k0 : W5.cell? ⟨wr.heap.size, 0, none⟩ = some (.int .i64 f.kids[k].kind) := hc5 0 _ rfl
        have k1 : W5.cell? ⟨wr.heap.size, 1, none⟩ = some (.string (B f.kids[k].name)) := hc5 1 _ rfl
        have k2 : W5.cell? ⟨wr.heap.size, 2, none⟩ = some (.string (B f.kids[k].value)) := hc5 2 _ rfl
        have k3 : W5.cell? ⟨wr.heap.size, 3, none⟩ = some (.slice Ap' f.kids[k].parts.length cp') := hc5 3 _ rfl
        have k4 : W5.cell? ⟨wr.heap.size, 4, none⟩ = some (.slice Ak' f.kids[k].kids.length ck') := hc5 4 _ rfl
        have hO5 := hO.later hbW5
        have hdr : fSizes (f.kids.drop k) = fSize f.kids[k] + fSizes (f.kids.drop (k + 1)) := by rw [List.drop_eq_getElem_cons hlt, fSizes]
        have hnl := fNamed_len f.kids[k]
        have hb5 : Below p w W5 := hb.trans (hbW5.mono (by have := hb.size; omega))
        have hcall := ih (d - 1) (by omega) _ f.kids[k] p q base a W5 (FltV.keep hkid (hbW5.mono (by have := hb.size; omega))) (hks.mem hmem) hO5 (by omega)
        have hq := hO5.fn
        have HV : Hid (a ++ fNamed f.kids[k] = acc ++ fNameds (f.kids.take (k + 1))) := by
          show _ = _
          rw [hinv.out, List.take_succ_eq_append_getElem hlt, fNameds_eq, fNameds_eq, List.flatMap_append, List.append_assoc]
          simp
        have HL : Hid ((a ++ fNamed f.kids[k]).length + fSizes (f.kids.drop (k + 1)) ≤ 2000) := by
          show _ ≤ _
          rw [List.length_append]; omega
        clear hc5 hsz5 hkid c0 c1 c2 c3 c4 hbW5 ih hk hinv hdr hnl hO hO5 hal
        go_wp2_with fail
        refine hcall.mono ?_
        rintro e w6 ⟨rfl, hO6, hb6⟩
        clear hcall k0 k1 k2 k3 k4 hq
        go_wp2_with fail
        go_roundw
        case rel => exact ⟨k + 1, _, by omega, by go_num, hO6, hb5.trans hb6, HV, HL.out⟩
        case measure => simp [intOf]; omega
      · have hltI : ¬ (k : Int) < (f.kids.length : Int) := by omega
        have HV : Hid (acc ++ R = a) := by
          show _ = _
          rw [hinv.out, HN.out, List.take_of_length_le (by omega)]
          simp
        clear hinv HN
        go_wp2_with fail
        go_end0
        exact ⟨rfl, by rw [HV.out]; exact hO, hb⟩
  case true =>
    obtain ⟨⟨A, c, p0, hown⟩, pf, pn, _⟩ := hO
    have hlt5 : ∀ j, (Value.slice A acc.length c).ownBlock = some j → j < w.heap.size := fun j hj => (hown.lt j hj).2
    go_enter Tryz.func45, Tryz.ntmps45
    go_upto_region 1 with fail
    with_reducible refine gen1 (R := fun W => Code.wp Tryz.prog _ _ _ W) ?_
    intro W hbW hszW hc _
    have b0 : W.cell? ⟨w.heap.size, 0, none⟩ = some (.int .i64 f.kind) := hc 0 _ rfl
    have b1 : W.drew.cell? ⟨w.heap.size, 1, none⟩ = some (.string (B f.name)) := hc 1 _ rfl
    have b4 : W.drew.cell? ⟨w.heap.size, 4, none⟩ = some (.slice Ak f.kids.length ck) := hc 4 _ rfl
    have hbd : Below w.heap.size w W.drew := hbW.drew
    have p0d := cell_later hbd p0
    have pfd := frozen_later hbd pf (by omega)
    have pnd := cell_later hbd pn
    have hownd := own_below hown hbd
    have l4 : base ≤ W.drew.heap.size := Nat.le_trans l3 hbd.size
    have hcall := kL W.drew
    clear hc hszW hbW kL p0 pf pn hown
    go_wp2_with fail
    refine (kC W).mono ?_
    rintro e wd ⟨rfl, rfl⟩
    clear kC b0
    go_wp2_with fail
    go_region_law (first
      | (go_simp
         go_at_call 47
         refine hcall.mono ?_
         rintro e w6 ⟨rfl, hb6⟩
         have p06 := cell_later hb6 p0d
         have p06a := cell_later ((Below.refl _ _).alloc (Nat.le_refl _) (.cells #[.string (B ln)] 9)) p06
         have pf6 := frozen_later hb6 pfd (World.block_lt_of_cell? _ _ p0d)
         have hown6 := own_below hownd hb6
         have hs6 : base ≤ w6.heap.size := Nat.le_trans l4 hb6.size
         go_wp2_with fail)
      | (refine step_push rfl _ _ 23 rfl base 9 (.string ⟨#[]⟩) 1 16 Tryz.underlying23 info_str rfl (by decide) _ _ _ hown6 rfl [.string (B ln)] rfl rfl (by intro u hu; simp at hu; subst hu; rfl) (by omega) hs6 ?_ rfl
         intro v7 w7 hown7 hg7 hat7
         obtain ⟨A9, c9, hv9⟩ := own_shape hown7
         subst hv9
         have hb7 : Below base w6 w7 := (Below.refl _ _).grown hg7 hs6 (fun j hj => (hown6.lt j hj).1)
         have st1 := (hb7.cell (p := ⟨p, 0, none⟩) (show p < base by omega)).trans p06
         have st2 := (hb7.frozen (p := ⟨p, 0, none⟩) (show p < base by omega)).trans pf6))
    all_goals
      have hlen : acc.length + 1 = (acc ++ [ln]).length := by rw [List.length_append]; rfl
      have hown8 : w7.ownsRow base 9 1 (.slice A9 (acc ++ [ln]).length c9) (acc ++ [ln]).length ((acc ++ [ln]).map sv) := by rw [← hlen, List.map_append]; exact hown7
      have pn7 := (hb7.cell (p := ⟨q, 0, none⟩) (show q < base by omega)).trans (cell_later hb6 pnd)
      have b47 := grown_cell hg7 (cell_later hb6 b4) (fun e => by have := hlt5 _ e.symm; omega)
      have hput : But p w7 (w7.setCell ⟨p, 0, none⟩ (.slice A9 (acc.length + 1) c9)) := (But.refl _ _).put _
      have b48 := hput.cell b47 (World.block_lt_of_cell? _ _ b47) (by omega)
      have hO : OutAt (w7.setCell ⟨p, 0, none⟩ (.slice A9 (acc.length + 1) c9)) p q base (acc ++ [ln]) (.func (.func 45) #[] #[.pointer (some ⟨p, 0, none⟩), .pointer (some ⟨q, 0, none⟩)]) :=
        ⟨⟨A9, c9, by rw [← hlen]; simp [go_sem, st1], own_but hown8 hput (by omega)⟩, by simp [st2], hput.cell pn7 (World.block_lt_of_cell? _ _ pn7) (by omega), l1, l2, Nat.le_trans hs6 (Nat.le_trans hb7.size hput.size)⟩
      have hb : Below p w (w7.setCell ⟨p, 0, none⟩ (.slice A9 (acc.length + 1) c9)) := (((hbd.mono (by omega)).trans (hb6.mono (by omega))).trans (hb7.mono (by omega))).trans (hput.below (Nat.le_refl _) (Nat.le_of_lt (World.block_lt_of_cell? _ _ st1)))
      clear hown6 hown7 hown8 hownd hg7 hat7 pn7 p0d pfd pnd p06 p06a pf6 hcall b1 b4 b47 hb6 hb7 hbd
      obtain ⟨X, hX⟩ : ∃ X : World, X = w7.setCell ⟨p, 0, none⟩ (.slice A9 (acc.length + 1) c9) := ⟨_, rfl⟩
      rw [← hX] at hO hb b48 ⊢
      clear hX hput st1 st2 hlen
      go_wp2_with fail
      go_loopw [18] (fun i wr => ∃ (k : Nat) (a : List Bs), k ≤ f.kids.length ∧ i = .int .i64 k ∧ OutAt wr p q base a (.func (.func 45) #[] #[.pointer (some ⟨p, 0, none⟩), .pointer (some ⟨q, 0, none⟩)]) ∧ Below p w wr ∧ Hid (a = (acc ++ [ln]) ++ fNameds (f.kids.take k)) ∧ a.length + fSizes (f.kids.drop k) ≤ 2000) (fun i _ => f.kids.length - (intOf i).toNat)
      case atStart => exact ⟨0, acc ++ [ln], Nat.zero_le _, rfl, hO, hb, by show _ = _; simp [fNameds], by have := HZ.out; rw [List.length_append, List.drop_zero]; simp; omega⟩
      case round =>
        obtain ⟨k, a, hk9, rfl, hO, hb, hinv, hal⟩ := hrel
        by_cases hlt : k < f.kids.length
        · obtain ⟨g, off, Ap', cp', Ak', ck', hA, hg, c0, c1, c2, c3, c4, hd, hkid⟩ := FltsV.kid2 (FltsV.keep hk hb) hlt
          subst hA
          have hltI : (k : Int) < (f.kids.length : Int) := by omega
          have hmem := List.getElem_mem hlt
          go_upto_region 6 with fail
          with_reducible refine gen1 (R := fun W => Code.wp Tryz.prog _ _ _ W) ?_
          intro W5 hbW5 hsz5 hc5 _
          have k0 : W5.cell? ⟨wr.heap.size, 0, none⟩ = some (.int .i64 f.kids[k].kind) := hc5 0 _ rfl
          have k1 : W5.cell? ⟨wr.heap.size, 1, none⟩ = some (.string (B f.kids[k].name)) := hc5 1 _ rfl
          have k2 : W5.cell? ⟨wr.heap.size, 2, none⟩ = some (.string (B f.kids[k].value)) := hc5 2 _ rfl
          have k3 : W5.cell? ⟨wr.heap.size, 3, none⟩ = some (.slice Ap' f.kids[k].parts.length cp') := hc5 3 _ rfl
          have k4 : W5.cell? ⟨wr.heap.size, 4, none⟩ = some (.slice Ak' f.kids[k].kids.length ck') := hc5 4 _ rfl
          have hO5 := hO.later hbW5
          have hdr : fSizes (f.kids.drop k) = fSize f.kids[k] + fSizes (f.kids.drop (k + 1)) := by rw [List.drop_eq_getElem_cons hlt, fSizes]
          have hnl := fNamed_len f.kids[k]
          have hb5 : Below p w W5 := hb.trans (hbW5.mono (by have := hb.size; omega))
          have hcall := ih (d - 1) (by omega) _ f.kids[k] p q base a W5 (FltV.keep hkid (hbW5.mono (by have := hb.size; omega))) (hks.mem hmem) hO5 (by omega)
          have hq := hO5.fn
          have HV : Hid (a ++ fNamed f.kids[k] = (acc ++ [ln]) ++ fNameds (f.kids.take (k + 1))) := by
            show _ = _
            rw [hinv.out, List.take_succ_eq_append_getElem hlt, fNameds_eq, fNameds_eq, List.flatMap_append, List.append_assoc]
            simp
          have HL : Hid ((a ++ fNamed f.kids[k]).length + fSizes (f.kids.drop (k + 1)) ≤ 2000) := by
            show _ ≤ _
            rw [List.length_append]; omega
          clear hc5 hsz5 hkid c0 c1 c2 c3 c4 hbW5 ih hk hinv hdr hnl hO hO5 hal
          go_wp2_with fail
          refine hcall.mono ?_
          rintro e w6 ⟨rfl, hO6, hb6⟩
          clear hcall k0 k1 k2 k3 k4 hq
          go_wp2_with fail
          go_roundw
          case rel => exact ⟨k + 1, _, by omega, by go_num, hO6, hb5.trans hb6, HV, HL.out⟩
          case measure => simp [intOf]; omega
        · have hltI : ¬ (k : Int) < (f.kids.length : Int) := by omega
          have HV : Hid (acc ++ R = a) := by
            show _ = _
            rw [hinv.out, HN.out, List.take_of_length_le (by omega)]
            simp
          clear hinv HN
          go_wp2_with fail
          go_end0
          exact ⟨rfl, by rw [HV.out]; exact hO, hb⟩
/-- strings in a row of the call's own -/
def RetL (w : World) (l : List Bs) (e : Ending) (w' : World) : Prop := ∃ v, e = .returned v ∧ w'.ownsRow w.heap.size 9 1 v l.length (l.map sv) ∧ Below w.heap.size w w'
set_option maxHeartbeats 2000000 in
set_option maxRecDepth 100000 in
theorem fNames_any (d : Nat) (v : Value) (f : Flt) (w : World) (hv : FltV w w.heap.size d v f) (hs : FSm 1000 f) : Calls Tryz.prog 25 #[v] w (RetL w (fNames f)) := by
  have kC := fun W (hW : Below w.heap.size w W) => fCheck_any d _ f W (hv.on hW) hs
  have kV := fun p q base W (hp : w.heap.size ≤ p) (hW : Below w.heap.size w W) hO => visit_any d _ f p q base [] W (FltV.mono (FltV.keep hv hW) hp) hs hO (by have := hs.1; simp; omega)
  have hnl := fNamed_len f
  have hs1 := hs.1
  have HR : Hid (fNames f = if fCheck f != 0 then [] else Lib.compact (sorted (fNamed f))) := by
    show _ = _
    rw [show Lib.compact (sorted (fNamed f)) = Idn.insAll (fNamed f) from Idn.law _]; rfl
  obtain ⟨Ap, cp, Ak, ck, rfl, hp, hk⟩ := hv.shape
  generalize fNames f = R at *
  generalize fCheck f = ec at *
  generalize fNamed f = nm at *
  clear hp hk hv hs
  go_enter Tryz.func25, Tryz.ntmps25
  go_upto_region 1 with fail
  with_reducible refine gen1 (R := fun W => Code.wp Tryz.prog _ _ _ W) ?_
  intro W hbW hszW hc1 _
  have b0 : W.cell? ⟨w.heap.size, 0, none⟩ = some (.int .i64 f.kind) := hc1 0 _ rfl
  have b1 : W.cell? ⟨w.heap.size, 1, none⟩ = some (.string (B f.name)) := hc1 1 _ rfl
  have b2 : W.cell? ⟨w.heap.size, 2, none⟩ = some (.string (B f.value)) := hc1 2 _ rfl
  have b3 : W.cell? ⟨w.heap.size, 3, none⟩ = some (.slice Ap f.parts.length cp) := hc1 3 _ rfl
  have b4 : W.cell? ⟨w.heap.size, 4, none⟩ = some (.slice Ak f.kids.length ck) := hc1 4 _ rfl
  clear hc1 hszW
  go_wp2_with fail
  refine (kC W hbW).mono ?_
  rintro e w1 ⟨rfl, hb1⟩
  replace b0 := cell_later hb1 b0
  replace b1 := cell_later hb1 b1
  replace b2 := cell_later hb1 b2
  replace b3 := cell_later hb1 b3
  replace b4 := cell_later hb1 b4
  have hbw1 := hbW.trans (hb1.mono hbW.size)
  clear kC hb1 hbW
  by_cases hec : ec = 0
  case neg =>
    have hI : (ec != 0) = true := by simpa using hec
    have HF : Hid (R = []) := by show _ = _; rw [HR.out, hI]; rfl
    clear HR kV hec
    go_wp2_with fail
    go_ret
    rw [HF.out]
    exact ⟨_, rfl, World.ownsRow_nil _ _ _ _, hbw1⟩
  have hI : (ec != 0) = false := by simpa using hec
  have HF : Hid (R = Lib.compact (sorted nm)) := by show _ = _; rw [HR.out, hI]; rfl
  clear HR hec
  go_upto_region 5 with fail
  with_reducible refine gen2g (R := fun W => Code.wp Tryz.prog _ _ _ W) ?_
  intro W2 hbW2 hszW2 hc2 hc3 hf2 hf3
  have p0 : W2.cell? ⟨w1.heap.size, 0, none⟩ = some (.slice none 0 0) := hc2 0 _ rfl
  have q0 := hc3 0 _ rfl
  have pf := hf2 0
  have qf := hf3 0
  have b02 := cell_later hbW2 b0
  have b12 := cell_later hbW2 b1
  have b22 := cell_later hbW2 b2
  have b32 := cell_later hbW2 b3
  have b42 := cell_later hbW2 b4
  have hbw2 := hbw1.trans (hbW2.mono hbw1.size)
  have hsw1 := hbw1.size
  clear hc2 hc3 hf2 hf3 b0 b1 b2 b3 b4 hbW2
  go_upto_region 6 with fail
  with_reducible refine genQ (R := fun W => Code.wp Tryz.prog _ _ _ W) qf q0 ?_
  intro W3 hbW3 q3 qf3 hszW3
  have hlt9 : ∀ j, j < w1.heap.size + 1 → j < W2.heap.size := fun j hj => by omega
  have p03 := hbW3.cell p0 (by omega) (by omega)
  have pf3 := hbW3.frozen pf (by omega) (by omega)
  replace b02 := hbW3.cell b02 (World.block_lt_of_cell? _ _ b02) (by omega)
  replace b12 := hbW3.cell b12 (World.block_lt_of_cell? _ _ b12) (by omega)
  replace b22 := hbW3.cell b22 (World.block_lt_of_cell? _ _ b22) (by omega)
  replace b32 := hbW3.cell b32 (World.block_lt_of_cell? _ _ b32) (by omega)
  replace b42 := hbW3.cell b42 (World.block_lt_of_cell? _ _ b42) (by omega)
  have hbw3 := hbw2.trans (hbW3.below (by omega) hbw2.size)
  have hO : OutAt W3 w1.heap.size (w1.heap.size + 1) (w1.heap.size + 2) [] (.func (.func 45) #[] #[.pointer (some ⟨w1.heap.size, 0, none⟩), .pointer (some ⟨w1.heap.size + 1, 0, none⟩)]) :=
    ⟨⟨none, 0, p03, World.ownsRow_nil _ _ _ _⟩, pf3, q3, by omega, by omega, by omega⟩
  have hV := kV w1.heap.size (w1.heap.size + 1) (w1.heap.size + 2) W3 hsw1 hbw3 hO
  clear p0 q0 pf qf hbW3 kV hlt9 p03 pf3 hO qf3
  go_wp2_with fail
  refine hV.mono ?_
  rintro e w4 ⟨rfl, hO4, hb4⟩
  rw [List.nil_append] at hO4
  obtain ⟨⟨A, c, p4, hown4⟩, _, _, _, _, l4⟩ := hO4
  have hbw4 := hbw3.trans (hb4.mono hsw1)
  have hS := sortS_any _ nm (w1.heap.size + 2) w4 hown4 (by omega) l4
  clear hV q3 b02 b12 b22 b32 b42
  go_wp2_with fail
  refine hS.mono ?_
  rintro e w5 ⟨rfl, hown5, hb5⟩
  have hsl : (sorted nm).length = nm.length := by simp [sorted]
  have p5 := (hb5.cell (p := ⟨w1.heap.size, 0, none⟩) (show w1.heap.size < w1.heap.size + 2 by omega)).trans p4
  have hC := compactS_any _ (sorted nm) (w1.heap.size + 2) w5 hown5 (by omega) (Nat.le_trans l4 hb5.size)
  have hbw5 := hbw4.trans (hb5.mono (by omega))
  clear hS p4 hown4 hown5 hsl
  go_wp2_with fail
  refine hC.mono ?_
  rintro e w6 ⟨v6, rfl, hown6, hb6⟩
  go_wp2_with fail
  go_ret
  rw [HF.out]
  exact ⟨_, rfl, own_base hown6 (by omega), hbw5.trans (hb6.mono (by omega))⟩
end Go.Proofs.YtmamnmjfbadiiaaGreatDoor
/- filter: the reader: take, need, until, value. -/
namespace Go.Proofs.YtmamnmjfbadiiaaGreatDoor
open Go.RowKit Go.Sort
open Idn (L B Bs drop_L take_L size_L)
/-- the reader's block: what is left to read; it has not failed -/
structure RdAt (w : World) (b : Nat) (rest : Bs) : Prop where
  r0 : w.cell? ⟨b, 0, none⟩ = some (.string (B rest))
  r1 : w.cell? ⟨b, 1, none⟩ = some (.int .i64 0)
  f0 : w.frozen? ⟨b, 0, none⟩ = false
  f1 : w.frozen? ⟨b, 1, none⟩ = false
  lt : b < w.heap.size
theorem RdAt.keep {w W : World} {b lo : Nat} {rest : Bs} (h : RdAt w b rest) (hb : Below lo w W) (hp : b < lo) : RdAt W b rest :=
  ⟨(hb.cell (p := ⟨b, 0, none⟩) hp).trans h.r0, (hb.cell (p := ⟨b, 1, none⟩) hp).trans h.r1, (hb.frozen (p := ⟨b, 0, none⟩) hp).trans h.f0, (hb.frozen (p := ⟨b, 1, none⟩) hp).trans h.f1, Nat.lt_of_lt_of_le h.lt hb.size⟩
theorem RdAt.later {w W : World} {b : Nat} {rest : Bs} (h : RdAt w b rest) (hb : Below w.heap.size w W) : RdAt W b rest := h.keep hb h.lt
theorem RdAt.put {w : World} {b : Nat} {rest : Bs} (h : RdAt w b rest) (t : Bs) : RdAt (w.setCell ⟨b, 0, none⟩ (.string (B t))) b t :=
  ⟨by simp [go_sem, h.r0], by simp [go_sem, h.r1], by simp [h.f0], by simp [h.f1], by simpa [World.setCell] using h.lt⟩
theorem RdAt.but {w W : World} {b q : Nat} {rest : Bs} (h : RdAt w b rest) (hb : But q w W) (hne : b ≠ q) : RdAt W b rest :=
  ⟨hb.cell h.r0 h.lt hne, hb.cell h.r1 h.lt hne, hb.frozen h.f0 h.lt hne, hb.frozen h.f1 h.lt hne, Nat.lt_of_lt_of_le h.lt hb.size⟩
/-- a value handed back, what is left, and nothing else turned -/
def RetR (v : Value) (b : Nat) (rest : Bs) (w : World) (e : Ending) (w' : World) : Prop := e = .returned v ∧ RdAt w' b rest ∧ But b w w'
set_option maxRecDepth 100000 in
theorem take_any (b : Nat) (rest pre : Bs) (w : World) (h : RdAt w b rest) : Calls Tryz.prog 75 #[.pointer (some ⟨b, 0, none⟩), .string (B pre)] w (RetR (.bool (pre.isPrefixOf rest)) b (if pre.isPrefixOf rest then rest.drop pre.length else rest) w) := by
  have hC : Calls Tryz.prog 107 #[.string (B rest), .string (B pre)] w fun e w' => e = .returned (.tuple #[.string (B (if pre.isPrefixOf rest then rest.drop pre.length else rest)), .bool (pre.isPrefixOf rest)]) ∧ w' = w := Tryz.strings_CutPrefix (B rest) (B pre) w
  have hp := h.put (if pre.isPrefixOf rest then rest.drop pre.length else rest)
  generalize (if pre.isPrefixOf rest then rest.drop pre.length else rest) = r2 at *
  generalize pre.isPrefixOf rest = ok at *
  obtain ⟨r0, r1, f0, f1, lt⟩ := h
  go_enter Tryz.func75, Tryz.ntmps75
  go_wp2_with fail
  refine hC.mono ?_
  rintro e w1 ⟨rfl, rfl⟩
  go_wp2_with fail
  go_ret
  exact ⟨rfl, hp, (But.refl _ _).put _⟩
theorem take_yes {b : Nat} {rest pre t : Bs} {w : World} (h : RdAt w b rest) (h1 : pre.isPrefixOf rest = true) (h2 : rest.drop pre.length = t) : Calls Tryz.prog 75 #[.pointer (some ⟨b, 0, none⟩), .string (B pre)] w (RetR (.bool true) b t w) := by
  have := take_any b rest pre w h
  rw [h1, if_pos rfl, h2] at this
  exact this
theorem take_no {b : Nat} {rest pre : Bs} {w : World} (h : RdAt w b rest) (h1 : pre.isPrefixOf rest = false) : Calls Tryz.prog 75 #[.pointer (some ⟨b, 0, none⟩), .string (B pre)] w (RetR (.bool false) b rest w) := by
  have := take_any b rest pre w h
  rw [h1, if_neg (by decide)] at this
  exact this
theorem pre_app (p t : Bs) : p.isPrefixOf (p ++ t) = true := List.isPrefixOf_iff_prefix.2 (List.prefix_append p t)
set_option maxRecDepth 100000 in
theorem need_any {b : Nat} {pre t : Bs} {w : World} (h : RdAt w b (pre ++ t)) : Calls Tryz.prog 74 #[.pointer (some ⟨b, 0, none⟩), .string (B pre)] w (RetR (.tuple #[]) b t w) := by
  have hT := take_yes h (pre_app pre t) (t := t) (by simp)
  obtain ⟨r0, r1, f0, f1, lt⟩ := h
  go_enter Tryz.func74, Tryz.ntmps74
  go_wp2_with fail
  refine hT.mono ?_
  rintro e w1 ⟨rfl, h1, hb1⟩
  go_wp2_with fail
  go_end0
  exact ⟨rfl, h1, hb1⟩
theorem idxB_neg (c : UInt8) : ∀ l : List UInt8, decide (Lib.indexByte l c < 0) = !l.contains c
  | [] => rfl
  | b :: l => by
    have ih := idxB_neg c l
    rw [Lib.indexByte, List.contains_cons]
    by_cases h : b = c
    · subst h; simp
    · have h1 : (b == c) = false := by simpa using h
      have h2 : (c == b) = false := by rw [beq_eq_false_iff_ne]; exact fun e => h e.symm
      rw [h1, h2, Bool.false_or, if_neg (by decide), ← ih]
      by_cases h3 : Lib.indexByte l c = -1
      · rw [h3]; rfl
      · have h4 : (Lib.indexByte l c == -1) = false := by simpa using h3
        rw [h4, if_neg (by decide)]
        have h5 : -1 ≤ Lib.indexByte l c := by
          clear ih h3 h4
          induction l with
          | nil => exact Int.le_refl (-1)
          | cons d l ih => rw [Lib.indexByte]; split <;> (try split) <;> omega
        rw [decide_eq_decide]; omega
theorem run_step (p : UInt8 → Bool) (l : Bs) (k : Nat) (h : k < l.length) (hi : l.takeWhile p = l.take k ++ (l.drop k).takeWhile p ∧ l.dropWhile p = (l.drop k).dropWhile p) :
    (p l[k] = true → l.takeWhile p = l.take (k + 1) ++ (l.drop (k + 1)).takeWhile p ∧ l.dropWhile p = (l.drop (k + 1)).dropWhile p) ∧ (p l[k] = false → l.takeWhile p = l.take k ∧ l.dropWhile p = l.drop k) := by
  rw [List.drop_eq_getElem_cons h, List.takeWhile_cons, List.dropWhile_cons] at hi
  constructor
  · intro hp
    rw [hp] at hi
    rw [List.take_succ_eq_append_getElem h]
    exact ⟨by rw [hi.1, if_pos rfl, List.append_assoc]; rfl, by rw [hi.2, if_pos rfl]⟩
  · intro hp
    rw [hp] at hi
    refine ⟨by rw [hi.1]; simp, ?_⟩
    rw [hi.2, List.drop_eq_getElem_cons h]; simp
set_option maxHeartbeats 1000000 in
set_option maxRecDepth 100000 in
theorem until_any (b : Nat) (s : ByteArray) (stop : Bs) (w : World) (h : RdAt w b (L s)) (hs : s.size ≤ 1000000000) :
    Calls Tryz.prog 109 #[.pointer (some ⟨b, 0, none⟩), .string (B stop)] w (RetR (.string (B ((L s).takeWhile fun c => !stop.contains c))) b ((L s).dropWhile fun c => !stop.contains c) w) := by
  have hput := h.put
  obtain ⟨r0, r1, f0, f1, lt⟩ := h
  rw [show B (L s) = s from rfl] at r0
  generalize hr1 : (L s).takeWhile (fun c => !stop.contains c) = T at *
  generalize hr2 : (L s).dropWhile (fun c => !stop.contains c) = D at *
  have HT := Lib.hid hr1
  have HD := Lib.hid hr2
  clear hr1 hr2
  go_enter Tryz.func109, Tryz.ntmps109
  go_wp2_with fail
  go_loop [5] (fun i => ∃ k : Nat, k ≤ s.size ∧ i = .int .i64 k ∧ Hid ((L s).takeWhile (fun c => !stop.contains c) = (L s).take k ++ ((L s).drop k).takeWhile (fun c => !stop.contains c) ∧ (L s).dropWhile (fun c => !stop.contains c) = ((L s).drop k).dropWhile (fun c => !stop.contains c))) (fun i => s.size - (intOf i).toNat)
  case atStart => exact ⟨0, Nat.zero_le _, rfl, by show _ ∧ _; simp⟩
  case round =>
    obtain ⟨k, hk, rfl, hinv⟩ := hrel
    by_cases hlt : k < s.size
    · have hltI : (k : Int) < (s.size : Int) := by omega
      have hI := Tryz.strings_IndexByte (B stop) (s[k].toNat : Int) w
      rw [show ((s[k].toNat : Int).toNat.toUInt8) = s[k] by simp, show (B stop).data.toList = stop from rfl] at hI
      have hneg := idxB_neg s[k] stop
      have hL : k < (L s).length := by rw [← size_L]; exact hlt
      obtain ⟨g1, g2⟩ := run_step (fun c => !stop.contains c) (L s) k hL hinv.out
      have hget : (L s)[k] = s[k] := rfl
      rw [hget] at g1 g2
      generalize Lib.indexByte stop s[k] = ix at *
      rcases Bool.eq_false_or_eq_true (!stop.contains s[k]) with hc | hc
      rotate_left
      · have hix : ¬ ix < 0 := of_decide_eq_false (hneg.trans hc)
        have HF : Hid (T = (L s).take k ∧ D = (L s).drop k) := by
          obtain ⟨e1, e2⟩ := g2 hc
          exact ⟨by rw [← HT.out, e1], by rw [← HD.out, e2]⟩
        clear g1 g2 hc hneg hget hinv HT HD
        go_wp2_with fail
        refine hI.mono ?_
        rintro e w1 ⟨rfl, rfl⟩
        clear hI
        go_wp2_with fail
        go_ret
        rw [extract_take, extract_drop, ← HF.out.1, ← HF.out.2]
        exact ⟨rfl, hput D, (But.refl _ _).put _⟩
      · have hix : ix < 0 := of_decide_eq_true (hneg.trans hc)
        have HV := Lib.hid (g1 hc)
        clear g1 g2 hc hneg hget hinv
        go_wp2_with fail
        refine hI.mono ?_
        rintro e w1 ⟨rfl, rfl⟩
        clear hI
        go_wp2_with fail
        go_round
        case rel => exact ⟨k + 1, by omega, by go_num, HV⟩
        case measure => simp [intOf]; omega
    · have hltI : ¬ (k : Int) < (s.size : Int) := by omega
      have HF : Hid (T = (L s).take k ∧ D = (L s).drop k) := by
        obtain ⟨e1, e2⟩ := hinv.out
        have hd : (L s).drop k = [] := List.drop_eq_nil_of_le (by rw [← size_L]; omega)
        rw [hd] at e1 e2
        exact ⟨by rw [← HT.out, e1]; simp, by rw [← HD.out, e2, hd]; rfl⟩
      clear hinv HT HD
      go_wp2_with fail
      go_ret
      rw [extract_take, extract_drop, ← HF.out.1, ← HF.out.2]
      exact ⟨rfl, hput D, (But.refl _ _).put _⟩
/-- how long a string is -/
def lenOf : Value → Nat | .string s => s.size | .slice _ n _ => n | _ => 0
set_option maxHeartbeats 4000000 in
set_option maxRecDepth 100000 in
theorem value_any (b : Nat) (v t : Bs) (w : World) (ht : vEnd t) (h : RdAt w b (escF v ++ t)) (hl : v.length ≤ 100000) (hlt : (escF v ++ t).length ≤ 100000000) :
    Calls Tryz.prog 110 #[.pointer (some ⟨b, 0, none⟩)] w (RetR (.string (B v)) b t w) := by
  go_enter Tryz.func110, Tryz.ntmps110
  go_wp2_with fail
  go_loopw [3] (fun u wr => ∃ x y : Bs, u = .string (B x) ∧ RdAt wr b (escF y ++ t) ∧ But b w wr ∧ Hid (v = x ++ y) ∧ Hid ((escF y ++ t).length ≤ 100000000)) (fun u _ => v.length - lenOf u)
  case atStart => exact ⟨[], v, rfl, h, But.refl _ _, rfl, hlt⟩
  case round =>
    obtain ⟨x, y, rfl, hR, hb, hinv, hlen⟩ := hrel
    clear h
    have hlx : x.length + y.length ≤ 100000 := by have := hinv.out; rw [this, List.length_append] at hl; omega
    have hU := until_any b (B (escF y ++ t)) [40, 41, 42, 92] wr hR (by rw [Idn.size_B]; exact Nat.le_trans hlen.out (by decide))
    rw [Idn.L_B] at hU
    obtain ⟨u1, u2⟩ := esc_run t ht y
    rw [show (fun c : UInt8 => !([40, 41, 42, 92] : Bs).contains c) = fun c => !vStop c from rfl, u1, u2] at hU
    have hsp := run_split y
    have hst := fun c z => drop_stop (v := y) (w := z) (c := c)
    have hr1 := hR.r1
    have a1 := fun W => run_add (P := Tryz.prog) (a := x) (b := y.takeWhile fun c => !vStop c) rfl rfl (by have := congrArg List.length hsp; rw [List.length_append] at this; omega) W
    generalize (y.takeWhile fun c => !vStop c) = y1 at *
    generalize hy2 : (y.dropWhile fun c => !vStop c) = y2 at *
    have HY := Lib.hid hsp
    clear hsp u1 u2 hlt
    cases y2 with
    | nil =>
      have HF : Hid (v = x ++ y1) := by show _ = _; rw [hinv.out, HY.out]; simp
      have e28 := end_code ht 50 56
      have e29 := end_code ht 50 57
      have e2a := end_code ht 50 97
      have e5c := end_code ht 53 99
      clear hst hy2 hinv HY hlen hlx hl
      rw [show escF [] ++ t = t from rfl] at hU
      go_wp2_with fail
      refine hU.mono ?_
      rintro e w1 ⟨rfl, hR1, hb1⟩
      replace hb := hb.trans hb1
      have hT : Calls Tryz.prog 75 #[.pointer (some ⟨b, 0, none⟩), .string ⟨#[92, 50, 56]⟩] w1 _ := take_no hR1 e28
      clear hU hR hb1
      go_wp2_with fail
      refine hT.mono ?_
      rintro e w2 ⟨rfl, hR2, hb2⟩
      replace hb := hb.trans hb2
      have hT : Calls Tryz.prog 75 #[.pointer (some ⟨b, 0, none⟩), .string ⟨#[92, 50, 57]⟩] w2 _ := take_no hR2 e29
      clear hR1 hb2
      go_wp2_with fail
      refine hT.mono ?_
      rintro e w3 ⟨rfl, hR3, hb3⟩
      replace hb := hb.trans hb3
      have hT : Calls Tryz.prog 75 #[.pointer (some ⟨b, 0, none⟩), .string ⟨#[92, 50, 97]⟩] w3 _ := take_no hR3 e2a
      clear hR2 hb3
      go_wp2_with fail
      refine hT.mono ?_
      rintro e w4 ⟨rfl, hR4, hb4⟩
      replace hb := hb.trans hb4
      have hT : Calls Tryz.prog 75 #[.pointer (some ⟨b, 0, none⟩), .string ⟨#[92, 53, 99]⟩] w4 _ := take_no hR4 e5c
      clear hR3 hb4
      go_wp2_with fail
      refine hT.mono ?_
      rintro e w5 ⟨rfl, hR5, hb5⟩
      go_wp2_with fail
      go_ret
      exact ⟨ret_str (by rw [HF.out]), hR5, hb.trans hb5⟩
    | cons c y' =>
      have hc := stop_cases (hst c y' rfl)
      have HF : Hid (v = (x ++ y1 ++ [c]) ++ y') := by show _ = _; rw [hinv.out, HY.out]; simp
      have HL : Hid ((escF y' ++ t).length ≤ 100000000) := by
        show _ ≤ _
        have h1 := hlen.out
        rw [HY.out, List.length_append] at h1
        have h2 : (escF (y1 ++ c :: y')).length = (escF y1).length + ((escF1 c).length + (escF y').length) := by unfold escF; simp
        rw [List.length_append]; omega
      have hxl : (x ++ y1 ++ [c]).length ≤ 100000 := by
        have h1 := HY.out
        have h2 := congrArg List.length h1
        simp at h2 ⊢; omega
      have hxl2 : x.length + 1 ≤ (x ++ y1 ++ [c]).length := by rw [List.length_append, List.length_append, List.length_singleton]; omega
      have hvl : (x ++ y1 ++ [c]).length ≤ v.length := by rw [HF.out]; simp
      clear hst hy2 hinv HY hlen hlx hl
      rcases hc with rfl | rfl | rfl | rfl
      · obtain ⟨p0, pd⟩ := code_40 y' t
        go_wp2_with fail
        refine hU.mono ?_
        rintro e v0 ⟨rfl, hR0, hb0⟩
        replace hb := hb.trans hb0
        clear hU hR hb0
        have hT : Calls Tryz.prog 75 #[.pointer (some ⟨b, 0, none⟩), .string ⟨#[92, 50, 56]⟩] v0 _ := take_yes hR0 p0 pd
        have a2 := fun W => run_add (P := Tryz.prog) (a := x ++ y1) (b := [40]) (t := ⟨#[40]⟩) rfl rfl (by rw [List.length_append, List.length_singleton] at hxl; rw [List.length_singleton]; omega) W
        go_wp2_with fail
        refine hT.mono ?_
        rintro e v9 ⟨rfl, hR9, hb9⟩
        clear hT hR0
        go_wp2_with fail
        go_roundw
        case rel => exact ⟨x ++ y1 ++ [40], y', by rw [List.append_assoc], hR9, hb.trans hb9, HF, HL⟩
        case measure => simp [lenOf, Idn.size_B]; simp at hxl2 hvl; omega
      · obtain ⟨p0, p1, pd⟩ := code_41 y' t
        go_wp2_with fail
        refine hU.mono ?_
        rintro e v0 ⟨rfl, hR0, hb0⟩
        replace hb := hb.trans hb0
        clear hU hR hb0
        have hT : Calls Tryz.prog 75 #[.pointer (some ⟨b, 0, none⟩), .string ⟨#[92, 50, 56]⟩] v0 _ := take_no hR0 p0
        go_wp2_with fail
        refine hT.mono ?_
        rintro e v1 ⟨rfl, hR1, hb1⟩
        replace hb := hb.trans hb1
        clear hT hR0 hb1
        have hT : Calls Tryz.prog 75 #[.pointer (some ⟨b, 0, none⟩), .string ⟨#[92, 50, 57]⟩] v1 _ := take_yes hR1 p1 pd
        have a2 := fun W => run_add (P := Tryz.prog) (a := x ++ y1) (b := [41]) (t := ⟨#[41]⟩) rfl rfl (by rw [List.length_append, List.length_singleton] at hxl; rw [List.length_singleton]; omega) W
        go_wp2_with fail
        refine hT.mono ?_
        rintro e v9 ⟨rfl, hR9, hb9⟩
        clear hT hR1
        go_wp2_with fail
        go_roundw
        case rel => exact ⟨x ++ y1 ++ [41], y', by rw [List.append_assoc], hR9, hb.trans hb9, HF, HL⟩
        case measure => simp [lenOf, Idn.size_B]; simp at hxl2 hvl; omega
      · obtain ⟨p0, p1, p2, pd⟩ := code_42 y' t
        go_wp2_with fail
        refine hU.mono ?_
        rintro e v0 ⟨rfl, hR0, hb0⟩
        replace hb := hb.trans hb0
        clear hU hR hb0
        have hT : Calls Tryz.prog 75 #[.pointer (some ⟨b, 0, none⟩), .string ⟨#[92, 50, 56]⟩] v0 _ := take_no hR0 p0
        go_wp2_with fail
        refine hT.mono ?_
        rintro e v1 ⟨rfl, hR1, hb1⟩
        replace hb := hb.trans hb1
        clear hT hR0 hb1
        have hT : Calls Tryz.prog 75 #[.pointer (some ⟨b, 0, none⟩), .string ⟨#[92, 50, 57]⟩] v1 _ := take_no hR1 p1
        go_wp2_with fail
        refine hT.mono ?_
        rintro e v2 ⟨rfl, hR2, hb2⟩
        replace hb := hb.trans hb2
        clear hT hR1 hb2
        have hT : Calls Tryz.prog 75 #[.pointer (some ⟨b, 0, none⟩), .string ⟨#[92, 50, 97]⟩] v2 _ := take_yes hR2 p2 pd
        have a2 := fun W => run_add (P := Tryz.prog) (a := x ++ y1) (b := [42]) (t := ⟨#[42]⟩) rfl rfl (by rw [List.length_append, List.length_singleton] at hxl; rw [List.length_singleton]; omega) W
        go_wp2_with fail
        refine hT.mono ?_
        rintro e v9 ⟨rfl, hR9, hb9⟩
        clear hT hR2
        go_wp2_with fail
        go_roundw
        case rel => exact ⟨x ++ y1 ++ [42], y', by rw [List.append_assoc], hR9, hb.trans hb9, HF, HL⟩
        case measure => simp [lenOf, Idn.size_B]; simp at hxl2 hvl; omega
      · obtain ⟨p0, p1, p2, p3, pd⟩ := code_92 y' t
        go_wp2_with fail
        refine hU.mono ?_
        rintro e v0 ⟨rfl, hR0, hb0⟩
        replace hb := hb.trans hb0
        clear hU hR hb0
        have hT : Calls Tryz.prog 75 #[.pointer (some ⟨b, 0, none⟩), .string ⟨#[92, 50, 56]⟩] v0 _ := take_no hR0 p0
        go_wp2_with fail
        refine hT.mono ?_
        rintro e v1 ⟨rfl, hR1, hb1⟩
        replace hb := hb.trans hb1
        clear hT hR0 hb1
        have hT : Calls Tryz.prog 75 #[.pointer (some ⟨b, 0, none⟩), .string ⟨#[92, 50, 57]⟩] v1 _ := take_no hR1 p1
        go_wp2_with fail
        refine hT.mono ?_
        rintro e v2 ⟨rfl, hR2, hb2⟩
        replace hb := hb.trans hb2
        clear hT hR1 hb2
        have hT : Calls Tryz.prog 75 #[.pointer (some ⟨b, 0, none⟩), .string ⟨#[92, 50, 97]⟩] v2 _ := take_no hR2 p2
        go_wp2_with fail
        refine hT.mono ?_
        rintro e v3 ⟨rfl, hR3, hb3⟩
        replace hb := hb.trans hb3
        clear hT hR2 hb3
        have hT : Calls Tryz.prog 75 #[.pointer (some ⟨b, 0, none⟩), .string ⟨#[92, 53, 99]⟩] v3 _ := take_yes hR3 p3 pd
        have a2 := fun W => run_add (P := Tryz.prog) (a := x ++ y1) (b := [92]) (t := ⟨#[92]⟩) rfl rfl (by rw [List.length_append, List.length_singleton] at hxl; rw [List.length_singleton]; omega) W
        go_wp2_with fail
        refine hT.mono ?_
        rintro e v9 ⟨rfl, hR9, hb9⟩
        clear hT hR3
        go_wp2_with fail
        go_roundw
        case rel => exact ⟨x ++ y1 ++ [92], y', by rw [List.append_assoc], hR9, hb.trans hb9, HF, HL⟩
        case measure => simp [lenOf, Idn.size_B]; simp at hxl2 hvl; omega
end Go.Proofs.YtmamnmjfbadiiaaGreatDoor
