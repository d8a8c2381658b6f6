/- Part 42 of the proof that the statements of identitylaw09 on matching hold at all arguments: the package variables hold what the program lays; nothing else is asked. -/
import Derived.Test.YtmamnmjfbadiiaaGreatDoorFz41
import Derived.Laws.EntriesVeiled
set_option linter.unusedVariables false
set_option linter.unusedSimpArgs false
set_option maxRecDepth 100000
set_option maxHeartbeats 16000000
/- filter: Names. -/
namespace Go.Proofs.YtmamnmjfbadiiaaGreatDoor
open Go.RowKit Go.Sort
open Idn (L B Bs drop_L take_L size_L)
theorem fNamed_len : ∀ f : Flt, (fNamed f).length ≤ fSize f := by
  intro f
  induction f using Flt.ind with
  | h k n v ps ks ih =>
    rw [fNamed, fSize, List.length_append, fNameds_eq]
    have h1 : ∀ l : List Flt, (∀ f ∈ l, (fNamed f).length ≤ fSize f) → (l.flatMap fNamed).length ≤ fSizes l := by
      intro l
      induction l with
      | nil => intro _; exact Nat.le_refl _
      | cons g l ihl =>
        intro h
        have a1 := h g List.mem_cons_self
        have a2 := ihl fun f hf => h f (List.mem_cons_of_mem _ hf)
        rw [List.flatMap_cons, List.length_append, fSizes]; omega
    have h2 := h1 ks ih
    have h3 : (if isCmp k = true then [Idn.lower n] else ([] : List Bs)).length ≤ 1 := by split <;> simp
    omega
theorem fNamed_unf (f : Flt) : fNamed f = (if isCmp f.kind then [Idn.lower f.name] else []) ++ fNameds f.kids := by cases f; rfl
structure OutAt (w : World) (p q base : Nat) (acc : List Bs) (fv : Value) : Prop where
 row : ∃ A c, w.cell? ⟨p, 0, none⟩ = some (.slice A acc.length c) ∧ w.ownsRow base 9 1 (.slice A acc.length c) acc.length (acc.map sv)
 fz : w.frozen? ⟨p, 0, none⟩ = false
 fn : w.cell? ⟨q, 0, none⟩ = some fv
 lt : p < q ∧ q < base ∧ base ≤ w.heap.size
theorem OutAt.later {w W : World} {p q base : Nat} {acc : List Bs} {fv : Value} (h : OutAt w p q base acc fv) (hb : Below w.heap.size w W) : OutAt W p q base acc fv := by
 obtain ⟨⟨A, c, h1, h2⟩, h3, h4, h5, h6, h7⟩ := h
 exact ⟨⟨A, c, cell_later hb h1, own_below h2 hb⟩, frozen_later hb h3 (by omega), cell_later hb h4, h5, h6, Nat.le_trans h7 hb.size⟩
def RetV (p q base : Nat) (acc : List Bs) (fv : Value) (w : World) (e : Ending) (w' : World) : Prop := e = .returned (.tuple #[]) ∧ OutAt w' p q base acc fv ∧ Below p w w'
theorem genQ {R : World → Prop} {w : World} {p : Nat} {a u : Value} (hf : w.frozen? ⟨p, 0, none⟩ = false) (hx : w.cell? ⟨p, 0, none⟩ = some a)
  (h : ∀ W, But p w W → W.cell? ⟨p, 0, none⟩ = some u → W.frozen? ⟨p, 0, none⟩ = false → W.heap.size = w.heap.size → R W) : R (w.setCell ⟨p, 0, none⟩ u) :=
 h _ ((But.refl p w).put u) (by simp [go_sem, hx]) (by simp [hf]) (by simp [World.setCell])
theorem visit_any : ∀ (d : Nat) (v : Value) (f : Flt) (p q base : Nat) (acc : List Bs) (w : World), FltV w p d v f → FSm 1000 f → OutAt w p q base acc (.func (.func 45) #[] #[.pointer (some ⟨p, 0, none⟩), .pointer (some ⟨q, 0, none⟩)]) → acc.length + fSize f ≤ 2000 →
    Calls Tryz.prog 45 #[v, .pointer (some ⟨p, 0, none⟩), .pointer (some ⟨q, 0, none⟩)] w (RetV p q base (acc ++ fNamed f) (.func (.func 45) #[] #[.pointer (some ⟨p, 0, none⟩), .pointer (some ⟨q, 0, none⟩)]) w) := by
  intro d
  induction d using Nat.strongRecOn with
  | _ d ih =>
  intro v f p q base acc w hv hs hO hacc
  obtain ⟨Ap, cp, Ak, ck, rfl, hp, hk⟩ := hv.shape
  have hks := hs.kids
  have hkl := hks.len
  obtain ⟨o1, _, _, _⟩ := fOk_own hs.2
  have kC := fun W => fcomp_any f.kind W
  have kL := fun W => lower_any (B f.name) W (by rw [Idn.size_B]; omega)
  simp only [Idn.L_B] at kL
  have HN : Hid (fNamed f = (if isCmp f.kind then [Idn.lower f.name] else []) ++ fNameds f.kids) := fNamed_unf f
  have HZ : Hid (fSize f = fSizes f.kids + 1) := by show _ = _; cases f; rfl
  generalize isCmp f.kind = r5 at *
  generalize Idn.lower f.name = ln at *
  generalize fNamed f = R at *
  clear hp hv
  obtain ⟨l1, l2, l3⟩ := hO.lt
  cases r5
  case false =>
    go_enter Tryz.func45, Tryz.ntmps45
    go_upto_region 1 with fail
    with_reducible refine gen1 (R := fun W => Code.wp Tryz.prog _ _ _ W) ?_
    intro W hbW hszW hc _
    have b0 : W.cell? ⟨w.heap.size, 0, none⟩ = some (.int .i64 f.kind) := hc 0 _ rfl
    have b4 : W.cell? ⟨w.heap.size, 4, none⟩ = some (.slice Ak f.kids.length ck) := hc 4 _ rfl
    replace hO := hO.later hbW
    have hb : Below p w W := hbW.mono (by omega)
    clear hc hszW hbW kL
    go_wp2_with fail
    refine (kC W).mono ?_
    rintro e wd ⟨rfl, rfl⟩
    clear kC b0
    go_wp2_with fail
    go_loopw [18] (fun i wr => ∃ (k : Nat) (a : List Bs), k ≤ f.kids.length ∧ i = .int .i64 k ∧ OutAt wr p q base a (.func (.func 45) #[] #[.pointer (some ⟨p, 0, none⟩), .pointer (some ⟨q, 0, none⟩)]) ∧ Below p w wr ∧ Hid (a = acc ++ fNameds (f.kids.take k)) ∧ a.length + fSizes (f.kids.drop k) ≤ 2000) (fun i _ => f.kids.length - (intOf i).toNat)
    case atStart => exact ⟨0, acc, Nat.zero_le _, rfl, hO, hb, by show _ = _; simp [fNameds], by have := HZ.out; simp; omega⟩
    case round =>
      obtain ⟨k, a, hk9, rfl, hO, hb, hinv, hal⟩ := hrel
      by_cases hlt : k < f.kids.length
      · obtain ⟨g, off, Ap', cp', Ak', ck', hA, hg, c0, c1, c2, c3, c4, hd, hkid⟩ := FltsV.kid2 (FltsV.keep hk hb) hlt
        subst hA
        have hltI : (k : Int) < (f.kids.length : Int) := by omega
        have hmem := List.getElem_mem hlt
        go_upto_region 6 with fail
        with_reducible refine gen1 (R := fun W => Code.wp Tryz.prog _ _ _ W) ?_
        intro W5 hbW5 hsz5 hc5 _
        have k0 : W5.cell? ⟨wr.heap.size, 0, none⟩ = some (.int .i64 f.kids[k].kind) := hc5 0 _ rfl
        have k1 : W5.cell? ⟨wr.heap.size, 1, none⟩ = some (.string (B f.kids[k].name)) := hc5 1 _ rfl
        have k2 : W5.cell? ⟨wr.heap.size, 2, none⟩ = some (.string (B f.kids[k].value)) := hc5 2 _ rfl
        have k3 : W5.cell? ⟨wr.heap.size, 3, none⟩ = some (.slice Ap' f.kids[k].parts.length cp') := hc5 3 _ rfl
        have k4 : W5.cell? ⟨wr.heap.size, 4, none⟩ = some (.slice Ak' f.kids[k].kids.length ck') := hc5 4 _ rfl
        have hO5 := hO.later hbW5
        have hdr : fSizes (f.kids.drop k) = fSize f.kids[k] + fSizes (f.kids.drop (k + 1)) := by rw [List.drop_eq_getElem_cons hlt, fSizes]
        have hnl := fNamed_len f.kids[k]
        have hb5 : Below p w W5 := hb.trans (hbW5.mono (by have := hb.size; omega))
        have hcall := ih (d - 1) (by omega) _ f.kids[k] p q base a W5 (FltV.keep hkid (hbW5.mono (by have := hb.size; omega))) (hks.mem hmem) hO5 (by omega)
        have hq := hO5.fn
        have HV : Hid (a ++ fNamed f.kids[k] = acc ++ fNameds (f.kids.take (k + 1))) := by
          show _ = _
          rw [hinv.out, List.take_succ_eq_append_getElem hlt, fNameds_eq, fNameds_eq, List.flatMap_append, List.append_assoc]
          simp
        have HL : Hid ((a ++ fNamed f.kids[k]).length + fSizes (f.kids.drop (k + 1)) ≤ 2000) := by
          show _ ≤ _
          rw [List.length_append]; omega
        clear hc5 hsz5 hkid c0 c1 c2 c3 c4 hbW5 ih hk hinv hdr hnl hO hO5 hal
        go_wp2_with fail
        refine hcall.mono ?_
        rintro e w6 ⟨rfl, hO6, hb6⟩
        clear hcall k0 k1 k2 k3 k4 hq
        go_wp2_with fail
        go_roundw
        case rel => exact ⟨k + 1, _, by omega, by go_num, hO6, hb5.trans hb6, HV, HL.out⟩
        case measure => simp [intOf]; omega
      · have hltI : ¬ (k : Int) < (f.kids.length : Int) := by omega
        have HV : Hid (acc ++ R = a) := by
          show _ = _
          rw [hinv.out, HN.out, List.take_of_length_le (by omega)]
          simp
        clear hinv HN
        go_wp2_with fail
        go_end0
        exact ⟨rfl, by rw [HV.out]; exact hO, hb⟩
  case true =>
    obtain ⟨⟨A, c, p0, hown⟩, pf, pn, _⟩ := hO
    have hlt5 : ∀ j, (Value.slice A acc.length c).ownBlock = some j → j < w.heap.size := fun j hj => (hown.lt j hj).2
    go_enter Tryz.func45, Tryz.ntmps45
    go_upto_region 1 with fail
    with_reducible refine gen1 (R := fun W => Code.wp Tryz.prog _ _ _ W) ?_
    intro W hbW hszW hc _
    have b0 : W.cell? ⟨w.heap.size, 0, none⟩ = some (.int .i64 f.kind) := hc 0 _ rfl
    have b1 : W.drew.cell? ⟨w.heap.size, 1, none⟩ = some (.string (B f.name)) := hc 1 _ rfl
    have b4 : W.drew.cell? ⟨w.heap.size, 4, none⟩ = some (.slice Ak f.kids.length ck) := hc 4 _ rfl
    have hbd : Below w.heap.size w W.drew := hbW.drew
    have p0d := cell_later hbd p0
    have pfd := frozen_later hbd pf (by omega)
    have pnd := cell_later hbd pn
    have hownd := own_below hown hbd
    have l4 : base ≤ W.drew.heap.size := Nat.le_trans l3 hbd.size
    have hcall := kL W.drew
    clear hc hszW hbW kL p0 pf pn hown
    go_wp2_with fail
    refine (kC W).mono ?_
    rintro e wd ⟨rfl, rfl⟩
    clear kC b0
    go_wp2_with fail
    go_region_law (first
      | (go_simp
         go_at_call 47
         refine hcall.mono ?_
         rintro e w6 ⟨rfl, hb6⟩
         have p06 := cell_later hb6 p0d
         have p06a := cell_later ((Below.refl _ _).alloc (Nat.le_refl _) (.cells #[.string (B ln)] 9)) p06
         have pf6 := frozen_later hb6 pfd (World.block_lt_of_cell? _ _ p0d)
         have hown6 := own_below hownd hb6
         have hs6 : base ≤ w6.heap.size := Nat.le_trans l4 hb6.size
         go_wp2_with fail)
      | (refine step_push rfl _ _ 23 rfl base 9 (.string ⟨#[]⟩) 1 16 Tryz.underlying23 info_str rfl (by decide) _ _ _ hown6 rfl [.string (B ln)] rfl rfl (by intro u hu; simp at hu; subst hu; rfl) (by omega) hs6 ?_ rfl
         intro v7 w7 hown7 hg7 hat7
         obtain ⟨A9, c9, hv9⟩ := own_shape hown7
         subst hv9
         have hb7 : Below base w6 w7 := (Below.refl _ _).grown hg7 hs6 (fun j hj => (hown6.lt j hj).1)
         have st1 := (hb7.cell (p := ⟨p, 0, none⟩) (show p < base by omega)).trans p06
         have st2 := (hb7.frozen (p := ⟨p, 0, none⟩) (show p < base by omega)).trans pf6))
    all_goals
      have hlen : acc.length + 1 = (acc ++ [ln]).length := by rw [List.length_append]; rfl
      have hown8 : w7.ownsRow base 9 1 (.slice A9 (acc ++ [ln]).length c9) (acc ++ [ln]).length ((acc ++ [ln]).map sv) := by rw [← hlen, List.map_append]; exact hown7
      have pn7 := (hb7.cell (p := ⟨q, 0, none⟩) (show q < base by omega)).trans (cell_later hb6 pnd)
      have b47 := grown_cell hg7 (cell_later hb6 b4) (fun e => by have := hlt5 _ e.symm; omega)
      have hput : But p w7 (w7.setCell ⟨p, 0, none⟩ (.slice A9 (acc.length + 1) c9)) := (But.refl _ _).put _
      have b48 := hput.cell b47 (World.block_lt_of_cell? _ _ b47) (by omega)
      have hO : OutAt (w7.setCell ⟨p, 0, none⟩ (.slice A9 (acc.length + 1) c9)) p q base (acc ++ [ln]) (.func (.func 45) #[] #[.pointer (some ⟨p, 0, none⟩), .pointer (some ⟨q, 0, none⟩)]) :=
        ⟨⟨A9, c9, by rw [← hlen]; simp [go_sem, st1], own_but hown8 hput (by omega)⟩, by simp [st2], hput.cell pn7 (World.block_lt_of_cell? _ _ pn7) (by omega), l1, l2, Nat.le_trans hs6 (Nat.le_trans hb7.size hput.size)⟩
      have hb : Below p w (w7.setCell ⟨p, 0, none⟩ (.slice A9 (acc.length + 1) c9)) := (((hbd.mono (by omega)).trans (hb6.mono (by omega))).trans (hb7.mono (by omega))).trans (hput.below (Nat.le_refl _) (Nat.le_of_lt (World.block_lt_of_cell? _ _ st1)))
      clear hown6 hown7 hown8 hownd hg7 hat7 pn7 p0d pfd pnd p06 p06a pf6 hcall b1 b4 b47 hb6 hb7 hbd
      obtain ⟨X, hX⟩ : ∃ X : World, X = w7.setCell ⟨p, 0, none⟩ (.slice A9 (acc.length + 1) c9) := ⟨_, rfl⟩
      rw [← hX] at hO hb b48 ⊢
      clear hX hput st1 st2 hlen
      go_wp2_with fail
      go_loopw [18] (fun i wr => ∃ (k : Nat) (a : List Bs), k ≤ f.kids.length ∧ i = .int .i64 k ∧ OutAt wr p q base a (.func (.func 45) #[] #[.pointer (some ⟨p, 0, none⟩), .pointer (some ⟨q, 0, none⟩)]) ∧ Below p w wr ∧ Hid (a = (acc ++ [ln]) ++ fNameds (f.kids.take k)) ∧ a.length + fSizes (f.kids.drop k) ≤ 2000) (fun i _ => f.kids.length - (intOf i).toNat)
      case atStart => exact ⟨0, acc ++ [ln], Nat.zero_le _, rfl, hO, hb, by show _ = _; simp [fNameds], by have := HZ.out; rw [List.length_append, List.drop_zero]; simp; omega⟩
      case round =>
        obtain ⟨k, a, hk9, rfl, hO, hb, hinv, hal⟩ := hrel
        by_cases hlt : k < f.kids.length
        · obtain ⟨g, off, Ap', cp', Ak', ck', hA, hg, c0, c1, c2, c3, c4, hd, hkid⟩ := FltsV.kid2 (FltsV.keep hk hb) hlt
          subst hA
          have hltI : (k : Int) < (f.kids.length : Int) := by omega
          have hmem := List.getElem_mem hlt
          go_upto_region 6 with fail
          with_reducible refine gen1 (R := fun W => Code.wp Tryz.prog _ _ _ W) ?_
          intro W5 hbW5 hsz5 hc5 _
          have k0 : W5.cell? ⟨wr.heap.size, 0, none⟩ = some (.int .i64 f.kids[k].kind) := hc5 0 _ rfl
          have k1 : W5.cell? ⟨wr.heap.size, 1, none⟩ = some (.string (B f.kids[k].name)) := hc5 1 _ rfl
          have k2 : W5.cell? ⟨wr.heap.size, 2, none⟩ = some (.string (B f.kids[k].value)) := hc5 2 _ rfl
          have k3 : W5.cell? ⟨wr.heap.size, 3, none⟩ = some (.slice Ap' f.kids[k].parts.length cp') := hc5 3 _ rfl
          have k4 : W5.cell? ⟨wr.heap.size, 4, none⟩ = some (.slice Ak' f.kids[k].kids.length ck') := hc5 4 _ rfl
          have hO5 := hO.later hbW5
          have hdr : fSizes (f.kids.drop k) = fSize f.kids[k] + fSizes (f.kids.drop (k + 1)) := by rw [List.drop_eq_getElem_cons hlt, fSizes]
          have hnl := fNamed_len f.kids[k]
          have hb5 : Below p w W5 := hb.trans (hbW5.mono (by have := hb.size; omega))
          have hcall := ih (d - 1) (by omega) _ f.kids[k] p q base a W5 (FltV.keep hkid (hbW5.mono (by have := hb.size; omega))) (hks.mem hmem) hO5 (by omega)
          have hq := hO5.fn
          have HV : Hid (a ++ fNamed f.kids[k] = (acc ++ [ln]) ++ fNameds (f.kids.take (k + 1))) := by
            show _ = _
            rw [hinv.out, List.take_succ_eq_append_getElem hlt, fNameds_eq, fNameds_eq, List.flatMap_append, List.append_assoc]
            simp
          have HL : Hid ((a ++ fNamed f.kids[k]).length + fSizes (f.kids.drop (k + 1)) ≤ 2000) := by
            show _ ≤ _
            rw [List.length_append]; omega
          clear hc5 hsz5 hkid c0 c1 c2 c3 c4 hbW5 ih hk hinv hdr hnl hO hO5 hal
          go_wp2_with fail
          refine hcall.mono ?_
          rintro e w6 ⟨rfl, hO6, hb6⟩
          clear hcall k0 k1 k2 k3 k4 hq
          go_wp2_with fail
          go_roundw
          case rel => exact ⟨k + 1, _, by omega, by go_num, hO6, hb5.trans hb6, HV, HL.out⟩
          case measure => simp [intOf]; omega
        · have hltI : ¬ (k : Int) < (f.kids.length : Int) := by omega
          have HV : Hid (acc ++ R = a) := by
            show _ = _
            rw [hinv.out, HN.out, List.take_of_length_le (by omega)]
            simp
          clear hinv HN
          go_wp2_with fail
          go_end0
          exact ⟨rfl, by rw [HV.out]; exact hO, hb⟩
def RetL (w : World) (l : List Bs) (e : Ending) (w' : World) : Prop := ∃ v, e = .returned v ∧ w'.ownsRow w.heap.size 9 1 v l.length (l.map sv) ∧ Below w.heap.size w w'
theorem fNames_any (d : Nat) (v : Value) (f : Flt) (w : World) (hv : FltV w w.heap.size d v f) (hs : FSm 1000 f) : Calls Tryz.prog 25 #[v] w (RetL w (fNames f)) := by
 have kC := fun W (hW : Below w.heap.size w W) => fCheck_any d _ f W (hv.on hW) hs
 have kV := fun p q base W (hp : w.heap.size ≤ p) (hW : Below w.heap.size w W) hO => visit_any d _ f p q base [] W (FltV.mono (FltV.keep hv hW) hp) hs hO (by have := hs.1; simp; omega)
 have hnl := fNamed_len f
 have hs1 := hs.1
 have HR : Hid (fNames f = if fCheck f != 0 then [] else Lib.compact (sorted (fNamed f))) := by
  show _ = _
  rw [show Lib.compact (sorted (fNamed f)) = Idn.insAll (fNamed f) from Idn.law _]; rfl
 obtain ⟨Ap, cp, Ak, ck, rfl, hp, hk⟩ := hv.shape
 generalize fNames f = R at *
 generalize fCheck f = ec at *
 generalize fNamed f = nm at *
 clear hp hk hv hs
 go_enter Tryz.func25, Tryz.ntmps25
 go_upto_region 1 with fail
 with_reducible refine gen1 (R := fun W => Code.wp Tryz.prog _ _ _ W) ?_
 intro W hbW hszW hc1 _
 have b0 : W.cell? ⟨w.heap.size, 0, none⟩ = some (.int .i64 f.kind) := hc1 0 _ rfl
 have b1 : W.cell? ⟨w.heap.size, 1, none⟩ = some (.string (B f.name)) := hc1 1 _ rfl
 have b2 : W.cell? ⟨w.heap.size, 2, none⟩ = some (.string (B f.value)) := hc1 2 _ rfl
 have b3 : W.cell? ⟨w.heap.size, 3, none⟩ = some (.slice Ap f.parts.length cp) := hc1 3 _ rfl
 have b4 : W.cell? ⟨w.heap.size, 4, none⟩ = some (.slice Ak f.kids.length ck) := hc1 4 _ rfl
 clear hc1 hszW
 go_wp2_with fail
 refine (kC W hbW).mono ?_
 rintro e w1 ⟨rfl, hb1⟩
 replace b0 := cell_later hb1 b0
 replace b1 := cell_later hb1 b1
 replace b2 := cell_later hb1 b2
 replace b3 := cell_later hb1 b3
 replace b4 := cell_later hb1 b4
 have hbw1 := hbW.trans (hb1.mono hbW.size)
 clear kC hb1 hbW
 by_cases hec : ec = 0
 case neg =>
  have hI : (ec != 0) = true := by simpa using hec
  have HF : Hid (R = []) := by show _ = _; rw [HR.out, hI]; rfl
  clear HR kV hec
  go_wp2_with fail
  go_ret
  rw [HF.out]
  exact ⟨_, rfl, World.ownsRow_nil _ _ _ _, hbw1⟩
 have hI : (ec != 0) = false := by simpa using hec
 have HF : Hid (R = Lib.compact (sorted nm)) := by show _ = _; rw [HR.out, hI]; rfl
 clear HR hec
 go_upto_region 5 with fail
 with_reducible refine gen2g (R := fun W => Code.wp Tryz.prog _ _ _ W) ?_
 intro W2 hbW2 hszW2 hc2 hc3 hf2 hf3
 have p0 : W2.cell? ⟨w1.heap.size, 0, none⟩ = some (.slice none 0 0) := hc2 0 _ rfl
 have q0 := hc3 0 _ rfl
 have pf := hf2 0
 have qf := hf3 0
 have b02 := cell_later hbW2 b0
 have b12 := cell_later hbW2 b1
 have b22 := cell_later hbW2 b2
 have b32 := cell_later hbW2 b3
 have b42 := cell_later hbW2 b4
 have hbw2 := hbw1.trans (hbW2.mono hbw1.size)
 have hsw1 := hbw1.size
 clear hc2 hc3 hf2 hf3 b0 b1 b2 b3 b4 hbW2
 go_upto_region 6 with fail
 with_reducible refine genQ (R := fun W => Code.wp Tryz.prog _ _ _ W) qf q0 ?_
 intro W3 hbW3 q3 qf3 hszW3
 have hlt9 : ∀ j, j < w1.heap.size + 1 → j < W2.heap.size := fun j hj => by omega
 have p03 := hbW3.cell p0 (by omega) (by omega)
 have pf3 := hbW3.frozen pf (by omega) (by omega)
 replace b02 := hbW3.cell b02 (World.block_lt_of_cell? _ _ b02) (by omega)
 replace b12 := hbW3.cell b12 (World.block_lt_of_cell? _ _ b12) (by omega)
 replace b22 := hbW3.cell b22 (World.block_lt_of_cell? _ _ b22) (by omega)
 replace b32 := hbW3.cell b32 (World.block_lt_of_cell? _ _ b32) (by omega)
 replace b42 := hbW3.cell b42 (World.block_lt_of_cell? _ _ b42) (by omega)
 have hbw3 := hbw2.trans (hbW3.below (by omega) hbw2.size)
 have hO : OutAt W3 w1.heap.size (w1.heap.size + 1) (w1.heap.size + 2) [] (.func (.func 45) #[] #[.pointer (some ⟨w1.heap.size, 0, none⟩), .pointer (some ⟨w1.heap.size + 1, 0, none⟩)]) :=
  ⟨⟨none, 0, p03, World.ownsRow_nil _ _ _ _⟩, pf3, q3, by omega, by omega, by omega⟩
 have hV := kV w1.heap.size (w1.heap.size + 1) (w1.heap.size + 2) W3 hsw1 hbw3 hO
 clear p0 q0 pf qf hbW3 kV hlt9 p03 pf3 hO qf3
 go_wp2_with fail
 refine hV.mono ?_
 rintro e w4 ⟨rfl, hO4, hb4⟩
 rw [List.nil_append] at hO4
 obtain ⟨⟨A, c, p4, hown4⟩, _, _, _, _, l4⟩ := hO4
 have hbw4 := hbw3.trans (hb4.mono hsw1)
 have hS := sortS_any _ nm (w1.heap.size + 2) w4 hown4 (by omega) l4
 clear hV q3 b02 b12 b22 b32 b42
 go_wp2_with fail
 refine hS.mono ?_
 rintro e w5 ⟨rfl, hown5, hb5⟩
 have hsl : (sorted nm).length = nm.length := by simp [sorted]
 have p5 := (hb5.cell (p := ⟨w1.heap.size, 0, none⟩) (show w1.heap.size < w1.heap.size + 2 by omega)).trans p4
 have hC := compactS_any _ (sorted nm) (w1.heap.size + 2) w5 hown5 (by omega) (Nat.le_trans l4 hb5.size)
 have hbw5 := hbw4.trans (hb5.mono (by omega))
 clear hS p4 hown4 hown5 hsl
 go_wp2_with fail
 refine hC.mono ?_
 rintro e w6 ⟨v6, rfl, hown6, hb6⟩
 go_wp2_with fail
 go_ret
 rw [HF.out]
 exact ⟨_, rfl, own_base hown6 (by omega), hbw5.trans (hb6.mono (by omega))⟩
end Go.Proofs.YtmamnmjfbadiiaaGreatDoor
/- filter: the reader: take, need, until, value. -/
namespace Go.Proofs.YtmamnmjfbadiiaaGreatDoor
open Go.RowKit Go.Sort
open Idn (L B Bs drop_L take_L size_L)
structure RdAt (w : World) (b : Nat) (rest : Bs) : Prop where
 r0 : w.cell? ⟨b, 0, none⟩ = some (.string (B rest))
 r1 : w.cell? ⟨b, 1, none⟩ = some (.int .i64 0)
 f0 : w.frozen? ⟨b, 0, none⟩ = false
 f1 : w.frozen? ⟨b, 1, none⟩ = false
 lt : b < w.heap.size
theorem RdAt.keep {w W : World} {b lo : Nat} {rest : Bs} (h : RdAt w b rest) (hb : Below lo w W) (hp : b < lo) : RdAt W b rest :=
 ⟨(hb.cell (p := ⟨b, 0, none⟩) hp).trans h.r0, (hb.cell (p := ⟨b, 1, none⟩) hp).trans h.r1, (hb.frozen (p := ⟨b, 0, none⟩) hp).trans h.f0, (hb.frozen (p := ⟨b, 1, none⟩) hp).trans h.f1, Nat.lt_of_lt_of_le h.lt hb.size⟩
theorem RdAt.later {w W : World} {b : Nat} {rest : Bs} (h : RdAt w b rest) (hb : Below w.heap.size w W) : RdAt W b rest := h.keep hb h.lt
theorem RdAt.put {w : World} {b : Nat} {rest : Bs} (h : RdAt w b rest) (t : Bs) : RdAt (w.setCell ⟨b, 0, none⟩ (.string (B t))) b t :=
 ⟨by simp [go_sem, h.r0], by simp [go_sem, h.r1], by simp [h.f0], by simp [h.f1], by simpa [World.setCell] using h.lt⟩
theorem RdAt.but {w W : World} {b q : Nat} {rest : Bs} (h : RdAt w b rest) (hb : But q w W) (hne : b ≠ q) : RdAt W b rest :=
 ⟨hb.cell h.r0 h.lt hne, hb.cell h.r1 h.lt hne, hb.frozen h.f0 h.lt hne, hb.frozen h.f1 h.lt hne, Nat.lt_of_lt_of_le h.lt hb.size⟩
def RetR (v : Value) (b : Nat) (rest : Bs) (w : World) (e : Ending) (w' : World) : Prop := e = .returned v ∧ RdAt w' b rest ∧ But b w w'
theorem take_any (b : Nat) (rest pre : Bs) (w : World) (h : RdAt w b rest) : Calls Tryz.prog 75 #[.pointer (some ⟨b, 0, none⟩), .string (B pre)] w (RetR (.bool (pre.isPrefixOf rest)) b (if pre.isPrefixOf rest then rest.drop pre.length else rest) w) := by
 have hC : Calls Tryz.prog 107 #[.string (B rest), .string (B pre)] w fun e w' => e = .returned (.tuple #[.string (B (if pre.isPrefixOf rest then rest.drop pre.length else rest)), .bool (pre.isPrefixOf rest)]) ∧ w' = w := Tryz.strings_CutPrefix (B rest) (B pre) w
 have hp := h.put (if pre.isPrefixOf rest then rest.drop pre.length else rest)
 generalize (if pre.isPrefixOf rest then rest.drop pre.length else rest) = r2 at *
 generalize pre.isPrefixOf rest = ok at *
 obtain ⟨r0, r1, f0, f1, lt⟩ := h
 go_enter Tryz.func75, Tryz.ntmps75
 go_wp2_with fail
 refine hC.mono ?_
 rintro e w1 ⟨rfl, rfl⟩
 go_wp2_with fail
 go_ret
 exact ⟨rfl, hp, (But.refl _ _).put _⟩
theorem take_yes {b : Nat} {rest pre t : Bs} {w : World} (h : RdAt w b rest) (h1 : pre.isPrefixOf rest = true) (h2 : rest.drop pre.length = t) : Calls Tryz.prog 75 #[.pointer (some ⟨b, 0, none⟩), .string (B pre)] w (RetR (.bool true) b t w) := by
 have := take_any b rest pre w h
 rw [h1, if_pos rfl, h2] at this
 exact this
theorem take_no {b : Nat} {rest pre : Bs} {w : World} (h : RdAt w b rest) (h1 : pre.isPrefixOf rest = false) : Calls Tryz.prog 75 #[.pointer (some ⟨b, 0, none⟩), .string (B pre)] w (RetR (.bool false) b rest w) := by
 have := take_any b rest pre w h
 rw [h1, if_neg (by decide)] at this
 exact this
theorem pre_app (p t : Bs) : p.isPrefixOf (p ++ t) = true := List.isPrefixOf_iff_prefix.2 (List.prefix_append p t)
theorem need_any {b : Nat} {pre t : Bs} {w : World} (h : RdAt w b (pre ++ t)) : Calls Tryz.prog 74 #[.pointer (some ⟨b, 0, none⟩), .string (B pre)] w (RetR (.tuple #[]) b t w) := by
 have hT := take_yes h (pre_app pre t) (t := t) (by simp)
 obtain ⟨r0, r1, f0, f1, lt⟩ := h
 go_enter Tryz.func74, Tryz.ntmps74
 go_wp2_with fail
 refine hT.mono ?_
 rintro e w1 ⟨rfl, h1, hb1⟩
 go_wp2_with fail
 go_end0
 exact ⟨rfl, h1, hb1⟩
theorem idxB_neg (c : UInt8) : ∀ l : List UInt8, decide (Lib.indexByte l c < 0) = !l.contains c
  | [] => rfl
  | b :: l => by
    have ih := idxB_neg c l
    rw [Lib.indexByte, List.contains_cons]
    by_cases h : b = c
    · subst h; simp
    · have h1 : (b == c) = false := by simpa using h
      have h2 : (c == b) = false := by rw [beq_eq_false_iff_ne]; exact fun e => h e.symm
      rw [h1, h2, Bool.false_or, if_neg (by decide), ← ih]
      by_cases h3 : Lib.indexByte l c = -1
      · rw [h3]; rfl
      · have h4 : (Lib.indexByte l c == -1) = false := by simpa using h3
        rw [h4, if_neg (by decide)]
        have h5 : -1 ≤ Lib.indexByte l c := by
          clear ih h3 h4
          induction l with
          | nil => exact Int.le_refl (-1)
          | cons d l ih => rw [Lib.indexByte]; split <;> (try split) <;> omega
        rw [decide_eq_decide]; omega
theorem run_step (p : UInt8 → Bool) (l : Bs) (k : Nat) (h : k < l.length) (hi : l.takeWhile p = l.take k ++ (l.drop k).takeWhile p ∧ l.dropWhile p = (l.drop k).dropWhile p) :
  (p l[k] = true → l.takeWhile p = l.take (k + 1) ++ (l.drop (k + 1)).takeWhile p ∧ l.dropWhile p = (l.drop (k + 1)).dropWhile p) ∧ (p l[k] = false → l.takeWhile p = l.take k ∧ l.dropWhile p = l.drop k) := by
 rw [List.drop_eq_getElem_cons h, List.takeWhile_cons, List.dropWhile_cons] at hi
 constructor
 ·intro hp
  rw [hp] at hi
  rw [List.take_succ_eq_append_getElem h]
  exact ⟨by rw [hi.1, if_pos rfl, List.append_assoc]; rfl, by rw [hi.2, if_pos rfl]⟩
 ·intro hp
  rw [hp] at hi
  refine ⟨by rw [hi.1]; simp, ?_⟩
  rw [hi.2, List.drop_eq_getElem_cons h]; simp
theorem until_any (b : Nat) (s : ByteArray) (stop : Bs) (w : World) (h : RdAt w b (L s)) (hs : s.size ≤ 1000000000) :
  Calls Tryz.prog 109 #[.pointer (some ⟨b, 0, none⟩), .string (B stop)] w (RetR (.string (B ((L s).takeWhile fun c => !stop.contains c))) b ((L s).dropWhile fun c => !stop.contains c) w) := by
 have hput := h.put
 obtain ⟨r0, r1, f0, f1, lt⟩ := h
 rw [show B (L s) = s from rfl] at r0
 generalize hr1 : (L s).takeWhile (fun c => !stop.contains c) = T at *
 generalize hr2 : (L s).dropWhile (fun c => !stop.contains c) = D at *
 have HT := Lib.hid hr1
 have HD := Lib.hid hr2
 clear hr1 hr2
 go_enter Tryz.func109, Tryz.ntmps109
 go_wp2_with fail
 go_loop [5] (fun i => ∃ k : Nat, k ≤ s.size ∧ i = .int .i64 k ∧ Hid ((L s).takeWhile (fun c => !stop.contains c) = (L s).take k ++ ((L s).drop k).takeWhile (fun c => !stop.contains c) ∧ (L s).dropWhile (fun c => !stop.contains c) = ((L s).drop k).dropWhile (fun c => !stop.contains c))) (fun i => s.size - (intOf i).toNat)
 case atStart => exact ⟨0, Nat.zero_le _, rfl, by show _ ∧ _; simp⟩
 case round =>
  obtain ⟨k, hk, rfl, hinv⟩ := hrel
  by_cases hlt : k < s.size
  ·have hltI : (k : Int) < (s.size : Int) := by omega
   have hI := Tryz.strings_IndexByte (B stop) (s[k].toNat : Int) w
   rw [show ((s[k].toNat : Int).toNat.toUInt8) = s[k] by simp, show (B stop).data.toList = stop from rfl] at hI
   have hneg := idxB_neg s[k] stop
   have hL : k < (L s).length := by rw [← size_L]; exact hlt
   obtain ⟨g1, g2⟩ := run_step (fun c => !stop.contains c) (L s) k hL hinv.out
   have hget : (L s)[k] = s[k] := rfl
   rw [hget] at g1 g2
   generalize Lib.indexByte stop s[k] = ix at *
   rcases Bool.eq_false_or_eq_true (!stop.contains s[k]) with hc | hc
   rotate_left
   ·have hix : ¬ ix < 0 := of_decide_eq_false (hneg.trans hc)
    have HF : Hid (T = (L s).take k ∧ D = (L s).drop k) := by
     obtain ⟨e1, e2⟩ := g2 hc
     exact ⟨by rw [← HT.out, e1], by rw [← HD.out, e2]⟩
    clear g1 g2 hc hneg hget hinv HT HD
    go_wp2_with fail
    refine hI.mono ?_
    rintro e w1 ⟨rfl, rfl⟩
    clear hI
    go_wp2_with fail
    go_ret
    rw [extract_take, extract_drop, ← HF.out.1, ← HF.out.2]
    exact ⟨rfl, hput D, (But.refl _ _).put _⟩
   ·have hix : ix < 0 := of_decide_eq_true (hneg.trans hc)
    have HV := Lib.hid (g1 hc)
    clear g1 g2 hc hneg hget hinv
    go_wp2_with fail
    refine hI.mono ?_
    rintro e w1 ⟨rfl, rfl⟩
    clear hI
    go_wp2_with fail
    go_round
    case rel => exact ⟨k + 1, by omega, by go_num, HV⟩
    case measure => simp [intOf]; omega
  ·have hltI : ¬ (k : Int) < (s.size : Int) := by omega
   have HF : Hid (T = (L s).take k ∧ D = (L s).drop k) := by
    obtain ⟨e1, e2⟩ := hinv.out
    have hd : (L s).drop k = [] := List.drop_eq_nil_of_le (by rw [← size_L]; omega)
    rw [hd] at e1 e2
    exact ⟨by rw [← HT.out, e1]; simp, by rw [← HD.out, e2, hd]; rfl⟩
   clear hinv HT HD
   go_wp2_with fail
   go_ret
   rw [extract_take, extract_drop, ← HF.out.1, ← HF.out.2]
   exact ⟨rfl, hput D, (But.refl _ _).put _⟩
def lenOf : Value → Nat | .string s => s.size | .slice _ n _ => n | _ => 0
theorem value_any (b : Nat) (v t : Bs) (w : World) (ht : vEnd t) (h : RdAt w b (escF v ++ t)) (hl : v.length ≤ 100000) (hlt : (escF v ++ t).length ≤ 100000000) :
    Calls Tryz.prog 110 #[.pointer (some ⟨b, 0, none⟩)] w (RetR (.string (B v)) b t w) := by
  go_enter Tryz.func110, Tryz.ntmps110
  go_wp2_with fail
  go_loopw [3] (fun u wr => ∃ x y : Bs, u = .string (B x) ∧ RdAt wr b (escF y ++ t) ∧ But b w wr ∧ Hid (v = x ++ y) ∧ Hid ((escF y ++ t).length ≤ 100000000)) (fun u _ => v.length - lenOf u)
  case atStart => exact ⟨[], v, rfl, h, But.refl _ _, rfl, hlt⟩
  case round =>
    obtain ⟨x, y, rfl, hR, hb, hinv, hlen⟩ := hrel
    clear h
    have hlx : x.length + y.length ≤ 100000 := by have := hinv.out; rw [this, List.length_append] at hl; omega
    have hU := until_any b (B (escF y ++ t)) [40, 41, 42, 92] wr hR (by rw [Idn.size_B]; exact Nat.le_trans hlen.out (by decide))
    rw [Idn.L_B] at hU
    obtain ⟨u1, u2⟩ := esc_run t ht y
    rw [show (fun c : UInt8 => !([40, 41, 42, 92] : Bs).contains c) = fun c => !vStop c from rfl, u1, u2] at hU
    have hsp := run_split y
    have hst := fun c z => drop_stop (v := y) (w := z) (c := c)
    have hr1 := hR.r1
    have a1 := fun W => run_add (P := Tryz.prog) (a := x) (b := y.takeWhile fun c => !vStop c) rfl rfl (by have := congrArg List.length hsp; rw [List.length_append] at this; omega) W
    generalize (y.takeWhile fun c => !vStop c) = y1 at *
    generalize hy2 : (y.dropWhile fun c => !vStop c) = y2 at *
    have HY := Lib.hid hsp
    clear hsp u1 u2 hlt
    cases y2 with
    | nil =>
      have HF : Hid (v = x ++ y1) := by show _ = _; rw [hinv.out, HY.out]; simp
      have e28 := end_code ht 50 56
      have e29 := end_code ht 50 57
      have e2a := end_code ht 50 97
      have e5c := end_code ht 53 99
      clear hst hy2 hinv HY hlen hlx hl
      rw [show escF [] ++ t = t from rfl] at hU
      go_wp2_with fail
      refine hU.mono ?_
      rintro e w1 ⟨rfl, hR1, hb1⟩
      replace hb := hb.trans hb1
      have hT : Calls Tryz.prog 75 #[.pointer (some ⟨b, 0, none⟩), .string ⟨#[92, 50, 56]⟩] w1 _ := take_no hR1 e28
      clear hU hR hb1
      go_wp2_with fail
      refine hT.mono ?_
      rintro e w2 ⟨rfl, hR2, hb2⟩
      replace hb := hb.trans hb2
      have hT : Calls Tryz.prog 75 #[.pointer (some ⟨b, 0, none⟩), .string ⟨#[92, 50, 57]⟩] w2 _ := take_no hR2 e29
      clear hR1 hb2
      go_wp2_with fail
      refine hT.mono ?_
      rintro e w3 ⟨rfl, hR3, hb3⟩
      replace hb := hb.trans hb3
      have hT : Calls Tryz.prog 75 #[.pointer (some ⟨b, 0, none⟩), .string ⟨#[92, 50, 97]⟩] w3 _ := take_no hR3 e2a
      clear hR2 hb3
      go_wp2_with fail
      refine hT.mono ?_
      rintro e w4 ⟨rfl, hR4, hb4⟩
      replace hb := hb.trans hb4
      have hT : Calls Tryz.prog 75 #[.pointer (some ⟨b, 0, none⟩), .string ⟨#[92, 53, 99]⟩] w4 _ := take_no hR4 e5c
      clear hR3 hb4
      go_wp2_with fail
      refine hT.mono ?_
      rintro e w5 ⟨rfl, hR5, hb5⟩
      go_wp2_with fail
      go_ret
      exact ⟨ret_str (by rw [HF.out]), hR5, hb.trans hb5⟩
    | cons c y' =>
      have hc := stop_cases (hst c y' rfl)
      have HF : Hid (v = (x ++ y1 ++ [c]) ++ y') := by show _ = _; rw [hinv.out, HY.out]; simp
      have HL : Hid ((escF y' ++ t).length ≤ 100000000) := by
        show _ ≤ _
        have h1 := hlen.out
        rw [HY.out, List.length_append] at h1
        have h2 : (escF (y1 ++ c :: y')).length = (escF y1).length + ((escF1 c).length + (escF y').length) := by unfold escF; simp
        rw [List.length_append]; omega
      have hxl : (x ++ y1 ++ [c]).length ≤ 100000 := by
        have h1 := HY.out
        have h2 := congrArg List.length h1
        simp at h2 ⊢; omega
      have hxl2 : x.length + 1 ≤ (x ++ y1 ++ [c]).length := by rw [List.length_append, List.length_append, List.length_singleton]; omega
      have hvl : (x ++ y1 ++ [c]).length ≤ v.length := by rw [HF.out]; simp
      clear hst hy2 hinv HY hlen hlx hl
      rcases hc with rfl | rfl | rfl | rfl
      · obtain ⟨p0, pd⟩ := code_40 y' t
        go_wp2_with fail
        refine hU.mono ?_
        rintro e v0 ⟨rfl, hR0, hb0⟩
        replace hb := hb.trans hb0
        clear hU hR hb0
        have hT : Calls Tryz.prog 75 #[.pointer (some ⟨b, 0, none⟩), .string ⟨#[92, 50, 56]⟩] v0 _ := take_yes hR0 p0 pd
        have a2 := fun W => run_add (P := Tryz.prog) (a := x ++ y1) (b := [40]) (t := ⟨#[40]⟩) rfl rfl (by rw [List.length_append, List.length_singleton] at hxl; rw [List.length_singleton]; omega) W
        go_wp2_with fail
        refine hT.mono ?_
        rintro e v9 ⟨rfl, hR9, hb9⟩
        clear hT hR0
        go_wp2_with fail
        go_roundw
        case rel => exact ⟨x ++ y1 ++ [40], y', by rw [List.append_assoc], hR9, hb.trans hb9, HF, HL⟩
        case measure => simp [lenOf, Idn.size_B]; simp at hxl2 hvl; omega
      · obtain ⟨p0, p1, pd⟩ := code_41 y' t
        go_wp2_with fail
        refine hU.mono ?_
        rintro e v0 ⟨rfl, hR0, hb0⟩
        replace hb := hb.trans hb0
        clear hU hR hb0
        have hT : Calls Tryz.prog 75 #[.pointer (some ⟨b, 0, none⟩), .string ⟨#[92, 50, 56]⟩] v0 _ := take_no hR0 p0
        go_wp2_with fail
        refine hT.mono ?_
        rintro e v1 ⟨rfl, hR1, hb1⟩
        replace hb := hb.trans hb1
        clear hT hR0 hb1
        have hT : Calls Tryz.prog 75 #[.pointer (some ⟨b, 0, none⟩), .string ⟨#[92, 50, 57]⟩] v1 _ := take_yes hR1 p1 pd
        have a2 := fun W => run_add (P := Tryz.prog) (a := x ++ y1) (b := [41]) (t := ⟨#[41]⟩) rfl rfl (by rw [List.length_append, List.length_singleton] at hxl; rw [List.length_singleton]; omega) W
        go_wp2_with fail
        refine hT.mono ?_
        rintro e v9 ⟨rfl, hR9, hb9⟩
        clear hT hR1
        go_wp2_with fail
        go_roundw
        case rel => exact ⟨x ++ y1 ++ [41], y', by rw [List.append_assoc], hR9, hb.trans hb9, HF, HL⟩
        case measure => simp [lenOf, Idn.size_B]; simp at hxl2 hvl; omega
      · obtain ⟨p0, p1, p2, pd⟩ := code_42 y' t
        go_wp2_with fail
        refine hU.mono ?_
        rintro e v0 ⟨rfl, hR0, hb0⟩
        replace hb := hb.trans hb0
        clear hU hR hb0
        have hT : Calls Tryz.prog 75 #[.pointer (some ⟨b, 0, none⟩), .string ⟨#[92, 50, 56]⟩] v0 _ := take_no hR0 p0
        go_wp2_with fail
        refine hT.mono ?_
        rintro e v1 ⟨rfl, hR1, hb1⟩
        replace hb := hb.trans hb1
        clear hT hR0 hb1
        have hT : Calls Tryz.prog 75 #[.pointer (some ⟨b, 0, none⟩), .string ⟨#[92, 50, 57]⟩] v1 _ := take_no hR1 p1
        go_wp2_with fail
        refine hT.mono ?_
        rintro e v2 ⟨rfl, hR2, hb2⟩
        replace hb := hb.trans hb2
        clear hT hR1 hb2
        have hT : Calls Tryz.prog 75 #[.pointer (some ⟨b, 0, none⟩), .string ⟨#[92, 50, 97]⟩] v2 _ := take_yes hR2 p2 pd
        have a2 := fun W => run_add (P := Tryz.prog) (a := x ++ y1) (b := [42]) (t := ⟨#[42]⟩) rfl rfl (by rw [List.length_append, List.length_singleton] at hxl; rw [List.length_singleton]; omega) W
        go_wp2_with fail
        refine hT.mono ?_
        rintro e v9 ⟨rfl, hR9, hb9⟩
        clear hT hR2
        go_wp2_with fail
        go_roundw
        case rel => exact ⟨x ++ y1 ++ [42], y', by rw [List.append_assoc], hR9, hb.trans hb9, HF, HL⟩
        case measure => simp [lenOf, Idn.size_B]; simp at hxl2 hvl; omega
      · obtain ⟨p0, p1, p2, p3, pd⟩ := code_92 y' t
        go_wp2_with fail
        refine hU.mono ?_
        rintro e v0 ⟨rfl, hR0, hb0⟩
        replace hb := hb.trans hb0
        clear hU hR hb0
        have hT : Calls Tryz.prog 75 #[.pointer (some ⟨b, 0, none⟩), .string ⟨#[92, 50, 56]⟩] v0 _ := take_no hR0 p0
        go_wp2_with fail
        refine hT.mono ?_
        rintro e v1 ⟨rfl, hR1, hb1⟩
        replace hb := hb.trans hb1
        clear hT hR0 hb1
        have hT : Calls Tryz.prog 75 #[.pointer (some ⟨b, 0, none⟩), .string ⟨#[92, 50, 57]⟩] v1 _ := take_no hR1 p1
        go_wp2_with fail
        refine hT.mono ?_
        rintro e v2 ⟨rfl, hR2, hb2⟩
        replace hb := hb.trans hb2
        clear hT hR1 hb2
        have hT : Calls Tryz.prog 75 #[.pointer (some ⟨b, 0, none⟩), .string ⟨#[92, 50, 97]⟩] v2 _ := take_no hR2 p2
        go_wp2_with fail
        refine hT.mono ?_
        rintro e v3 ⟨rfl, hR3, hb3⟩
        replace hb := hb.trans hb3
        clear hT hR2 hb3
        have hT : Calls Tryz.prog 75 #[.pointer (some ⟨b, 0, none⟩), .string ⟨#[92, 53, 99]⟩] v3 _ := take_yes hR3 p3 pd
        have a2 := fun W => run_add (P := Tryz.prog) (a := x ++ y1) (b := [92]) (t := ⟨#[92]⟩) rfl rfl (by rw [List.length_append, List.length_singleton] at hxl; rw [List.length_singleton]; omega) W
        go_wp2_with fail
        refine hT.mono ?_
        rintro e v9 ⟨rfl, hR9, hb9⟩
        clear hT hR3
        go_wp2_with fail
        go_roundw
        case rel => exact ⟨x ++ y1 ++ [92], y', by rw [List.append_assoc], hR9, hb.trans hb9, HF, HL⟩
        case measure => simp [lenOf, Idn.size_B]; simp at hxl2 hvl; omega
end Go.Proofs.YtmamnmjfbadiiaaGreatDoor
/- filter: the reader: comparison, kids, filter. -/
namespace Go.Proofs.YtmamnmjfbadiiaaGreatDoor
open Go.RowKit Go.Sort
open Idn (L B Bs drop_L take_L size_L)
section
variable {X Y : World} {p : Nat} {a b c d e u u' : Value}
theorem gen_put2 {R : World → Prop} (hB : Box5 X p a b c d e) (h : ∀ W, But p X W → Box5 W p a b u d e → W.heap.size = X.heap.size → R W) : R (X.setCell ⟨p, 2, none⟩ u) :=
 h _ ((But.refl p X).put u) ⟨by simp [go_sem, hB.c0], by simp [go_sem, hB.c1], by simp [go_sem, hB.c2], by simp [go_sem, hB.c3], by simp [go_sem, hB.c4], fun i => by simp [hB.fz i], by simpa [World.setCell] using hB.lt⟩ (by simp [World.setCell])
theorem gen_put02 {R : World → Prop} (hB : Box5 X p a b c d e) (h : ∀ W, But p X W → Box5 W p u b u' d e → W.heap.size = X.heap.size → R W) : R ((X.setCell ⟨p, 0, none⟩ u).setCell ⟨p, 2, none⟩ u') :=
 gen_put0 (R := fun Z => R (Z.setCell ⟨p, 2, none⟩ u')) hB fun _ h1 h2 h3 => gen_put2 h2 fun W k1 k2 k3 => h W (h1.trans k1) k2 (k3.trans h3)
theorem gen_drew {R : World → Prop} {a' b' c' d' e' : Value} {Z : World} (h1 : But p X Z) (h2 : Box5 Z p a' b' c' d' e') (h3 : Z.heap.size = X.heap.size) (h : ∀ W, But p X W → Box5 W p a' b' c' d' e' → W.heap.size = X.heap.size → R W) : R Z.drew :=
 h Z.drew ⟨h1.os, h1.tape, h1.output, h1.size, h1.block⟩ ⟨h2.c0, h2.c1, h2.c2, h2.c3, h2.c4, h2.fz, h2.lt⟩ h3
theorem gen_put02d {R : World → Prop} (hB : Box5 X p a b c d e) (h : ∀ W, But p X W → Box5 W p u b u' d e → W.heap.size = X.heap.size → R W) : R ((X.setCell ⟨p, 0, none⟩ u).setCell ⟨p, 2, none⟩ u').drew :=
 gen_put02 (R := fun Z => R Z.drew) hB fun _ h1 h2 h3 => gen_drew h1 h2 h3 h
theorem gen_put03 {R : World → Prop} (hB : Box5 X p a b c d e) (h : ∀ W, But p X W → Box5 W p u b c u' e → W.heap.size = X.heap.size → R W) : R ((X.setCell ⟨p, 0, none⟩ u).setCell ⟨p, 3, none⟩ u') :=
 gen_put0 (R := fun Z => R (Z.setCell ⟨p, 3, none⟩ u')) hB fun _ h1 h2 h3 => gen_put3 h2 fun W k1 k2 k3 => h W (h1.trans k1) k2 (k3.trans h3)
theorem gen_put04 {R : World → Prop} (hB : Box5 X p a b c d e) (h : ∀ W, But p X W → Box5 W p u b c d u' → W.heap.size = X.heap.size → R W) : R ((X.setCell ⟨p, 0, none⟩ u).setCell ⟨p, 4, none⟩ u') :=
 gen_put0 (R := fun Z => R (Z.setCell ⟨p, 4, none⟩ u')) hB fun _ h1 h2 h3 => gen_put4 h2 fun W k1 k2 k3 => h W (h1.trans k1) k2 (k3.trans h3)
theorem gen_put5 {R : World → Prop} {a' b' c' d' e' : Value} (hB : Box5 X p a b c d e) (h : ∀ W, But p X W → Box5 W p a' b' c' d' e' → W.heap.size = X.heap.size → R W) : R (((((X.setCell ⟨p, 0, none⟩ a').setCell ⟨p, 1, none⟩ b').setCell ⟨p, 2, none⟩ c').setCell ⟨p, 3, none⟩ d').setCell ⟨p, 4, none⟩ e') :=
 h _ (put5 p X a' b' c' d' e') ⟨by simp [go_sem, hB.c0], by simp [go_sem, hB.c1], by simp [go_sem, hB.c2], by simp [go_sem, hB.c3], by simp [go_sem, hB.c4], fun i => by simp [hB.fz i], by simpa [World.setCell] using hB.lt⟩ (by simp [World.setCell])
theorem gen_rd {R : World → Prop} {w : World} {b : Nat} {rest t : Bs} (h : RdAt w b rest) (hh : ∀ W, But b w W → RdAt W b t → W.heap.size = w.heap.size → R W) : R (w.setCell ⟨b, 0, none⟩ (.string (B t))) :=
 hh _ ((But.refl _ _).put _) (h.put t) (by simp [World.setCell])
theorem genRow1 {R : World → Prop} {w : World} {x : ByteArray} (h : ∀ W, Below w.heap.size w W → W.heap.size = w.heap.size + 1 → W.ownsRow w.heap.size 9 1 (.slice (some ⟨w.heap.size, 0, none⟩) 1 1) 1 [.string x] → R W) : R (w.alloc (.cells #[.string x] 9)) :=
 h _ ((Below.refl _ _).alloc (Nat.le_refl _) _) (by simp) (World.ownsRow_lit (base := w.heap.size) (e := 9) (size := 1) w #[.string x] 1 (Nat.le_refl _) (by decide) rfl)
end
theorem But.at_ {p lo : Nat} {w W V : World} (h : But p w W) (hb : Below lo W V) (hl : w.heap.size ≤ lo) : But p w V := h.own (hb.mono hl)
def RetQ (b d : Nat) (f : Flt) (rest : Bs) (w : World) (e : Ending) (w' : World) : Prop := ∃ r, e = .returned r ∧ FltN (fun k => k < w.heap.size) w' d r f ∧ RdAt w' b rest ∧ But b w w'
theorem escF_ge (v : Bs) : v.length ≤ (escF v).length := by
  induction v with
  | nil => simp
  | cons c v ih =>
    have e : escF (c :: v) = escF1 c ++ escF v := by unfold escF; rw [List.flatMap_cons]
    have h : 1 ≤ (escF1 c).length := by unfold escF1; split <;> (try split) <;> (try split) <;> (try split) <;> simp
    rw [e, List.length_append, List.length_cons]; omega
theorem tail_stop (k : Int) (v : Bs) (ps : List Bs) (t : Bs) : ∃ c r, tailF k v ps ++ 41 :: t = c :: r ∧ nStop c = true := by
 unfold tailF
 split
 ·exact ⟨61, _, rfl, rfl⟩
 ·split
  ·exact ⟨62, _, rfl, rfl⟩
  ·split
   ·exact ⟨60, _, rfl, rfl⟩
   ·split
    ·exact ⟨61, _, rfl, rfl⟩
    ·exact ⟨61, _, rfl, rfl⟩
theorem rcomp_any (b d : Nat) (k : Int) (n v : Bs) (ps : List Bs) (t : Bs) (w : World) (hn : rdName n = true) (hk : ((k = 4 ∨ k = 5 ∨ k = 6) ∧ ps = []) ∨ (k = 7 ∧ v = [] ∧ ps = []) ∨ (k = 8 ∧ v = [] ∧ 2 ≤ ps.length ∧ ps ≠ [[], []]))
    (h : RdAt w b (n ++ (tailF k v ps ++ 41 :: t))) (hlen : (n ++ (tailF k v ps ++ 41 :: t)).length ≤ 100000) :
    Calls Tryz.prog 77 #[.pointer (some ⟨b, 0, none⟩)] w (RetQ b d (.mk k n v ps []) (41 :: t) w) := by
  have hna : n.all (fun c => !nStop c) = true := by unfold rdName at hn; rw [Bool.and_eq_true] at hn; exact hn.1
  obtain ⟨c0, rest0, hc0, hs0⟩ := tail_stop k v ps t
  obtain ⟨hr1, hr2⟩ := name_run hna c0 rest0 hs0
  rw [← hc0] at hr1 hr2
  have hbl := h.lt
  have hlen2 : (tailF k v ps ++ 41 :: t).length ≤ 100000 := by rw [List.length_append] at hlen; omega
  clear hc0 hs0 hna hn
  go_enter Tryz.func77, Tryz.ntmps77
  go_upto_region 1 with fail
  with_reducible refine gen1 (R := fun W => Code.wp Tryz.prog _ _ _ W) ?_
  intro W hbW hszW hc hf
  have B2 : Box5 W w.heap.size (.int .i64 0) (.string ⟨#[]⟩) (.string ⟨#[]⟩) (.slice none 0 0) (.slice none 0 0) := ⟨hc 0 _ rfl, hc 1 _ rfl, hc 2 _ rfl, hc 3 _ rfl, hc 4 _ rfl, hf, by omega⟩
  have hU := until_any b (B (n ++ (tailF k v ps ++ 41 :: t))) [40, 41, 42, 92, 61, 60, 62] W (h.later hbW) (by rw [Idn.size_B]; exact Nat.le_trans hlen (by decide))
  rw [Idn.L_B] at hU
  rw [show (fun c : UInt8 => !([40, 41, 42, 92, 61, 60, 62] : Bs).contains c) = fun c => !nStop c from rfl, hr1, hr2] at hU
  have hbt := But.of_below hbW b
  clear hc hf hr1 hr2 h hbW
  go_wp2_with fail
  refine hU.mono ?_
  rintro e w1 ⟨rfl, hR, hb1⟩
  replace B2 := B2.but hb1 (by omega)
  replace hbt := hbt.trans hb1
  have hs1 : w.heap.size + 1 ≤ w1.heap.size := by have := hb1.size; omega
  clear hU hb1 hszW
  go_upto_block 0 with fail
  with_reducible refine gen1 (R := fun W => Code.wp Tryz.prog _ _ _ W) ?_
  intro W2 hbW2 hszW2 hc2 hf2
  have G : Box5 W2 w1.heap.size (.int .i64 0) (.string (B n)) (.string ⟨#[]⟩) (.slice none 0 0) (.slice none 0 0) := ⟨hc2 0 _ rfl, hc2 1 _ rfl, hc2 2 _ rfl, hc2 3 _ rfl, hc2 4 _ rfl, hf2, by omega⟩
  replace B2 := B2.later hbW2
  replace hR := hR.later hbW2
  replace hbt := hbt.at_ hbW2 (by omega)
  have hs2 : w1.heap.size + 1 ≤ W2.heap.size := by omega
  clear hc2 hf2 hbW2 hszW2
  rcases hk with ⟨rfl | rfl | rfl, rfl⟩ | ⟨rfl, rfl, rfl⟩ | ⟨rfl, rfl, hp2, hpn⟩
  · rw [show tailF 4 v [] ++ 41 :: t = 61 :: (escF v ++ (partsT [] ++ 41 :: t)) from rfl] at hR hlen2
    have hno : [61, 42, 41].isPrefixOf (61 :: (escF v ++ (partsT [] ++ 41 :: t))) = false := by
      cases v with
      | nil => rfl
      | cons c v =>
        have h1 := esc_no_end (c :: v) (41 :: t) ⟨41, t, rfl, .inl rfl⟩ (.inl (by simp))
        show [42, 41].isPrefixOf (escF (c :: v) ++ (41 :: t)) = false
        cases hx : escF (c :: v) ++ (41 :: t) with
        | nil => rfl
        | cons y ys =>
          rw [hx] at h1
          simp [List.isPrefixOf] at h1 ⊢
          intro e
          exact absurd e h1
    have hT : Calls Tryz.prog 75 #[.pointer (some ⟨b, 0, none⟩), .string ⟨#[62, 61]⟩] W2 _ := take_no hR rfl
    go_wp2_with fail
    refine hT.mono ?_
    rintro e v0 ⟨rfl, hRv0, hbq⟩
    replace B2 := B2.but hbq (by omega)
    replace G := G.but hbq (by omega)
    replace hbt := hbt.trans hbq
    replace hs2 : w1.heap.size + 1 ≤ v0.heap.size := Nat.le_trans hs2 hbq.size
    clear hT hbq
    have hT : Calls Tryz.prog 75 #[.pointer (some ⟨b, 0, none⟩), .string ⟨#[60, 61]⟩] v0 _ := take_no hRv0 rfl
    go_wp2_with fail
    refine hT.mono ?_
    rintro e v1 ⟨rfl, hRv1, hbq⟩
    replace B2 := B2.but hbq (by omega)
    replace G := G.but hbq (by omega)
    replace hbt := hbt.trans hbq
    replace hs2 : w1.heap.size + 1 ≤ v1.heap.size := Nat.le_trans hs2 hbq.size
    clear hT hbq
    have hT : Calls Tryz.prog 75 #[.pointer (some ⟨b, 0, none⟩), .string ⟨#[61, 42, 41]⟩] v1 _ := take_no hRv1 hno
    go_wp2_with fail
    refine hT.mono ?_
    rintro e v2 ⟨rfl, hRv2, hbq⟩
    replace B2 := B2.but hbq (by omega)
    replace G := G.but hbq (by omega)
    replace hbt := hbt.trans hbq
    replace hs2 : w1.heap.size + 1 ≤ v2.heap.size := Nat.le_trans hs2 hbq.size
    clear hT hbq
    have hN : Calls Tryz.prog 74 #[.pointer (some ⟨b, 0, none⟩), .string ⟨#[61]⟩] v2 _ := need_any (pre := [61]) (t := escF v ++ (partsT ([] : List Bs) ++ 41 :: t)) hRv2
    go_wp2_with fail
    refine hN.mono ?_
    rintro e v3 ⟨rfl, hRv3, hbq⟩
    replace B2 := B2.but hbq (by omega)
    replace G := G.but hbq (by omega)
    replace hbt := hbt.trans hbq
    replace hs2 : w1.heap.size + 1 ≤ v3.heap.size := Nat.le_trans hs2 hbq.size
    clear hN hbq hR hRv0 hRv1 hRv2 hno
    have hl3 : (escF v ++ (partsT ([] : List Bs) ++ 41 :: t)).length ≤ 100000 := by simp at hlen2 ⊢; omega
    have hV := value_any b v (partsT ([] : List Bs) ++ 41 :: t) v3 (partsT_end ([] : List Bs) t) hRv3 (by have := escF_ge v; rw [List.length_append] at hl3; omega) (Nat.le_trans hl3 (by decide))
    go_wp2_with fail
    refine hV.mono ?_
    rintro e v4 ⟨rfl, hRv4, hbq⟩
    replace B2 := B2.but hbq (by omega)
    replace G := G.but hbq (by omega)
    replace hbt := hbt.trans hbq
    replace hs2 : w1.heap.size + 1 ≤ v4.heap.size := Nat.le_trans hs2 hbq.size
    clear hV hbq hRv3
    go_upto_block 1 with fail
    with_reducible refine genRow1 (R := fun W => Code.wp Tryz.prog _ _ _ W) ?_
    intro W5 hbW5 hszW5 hown5
    have hRv5 := hRv4.later hbW5
    have hbt5 := But.of_below hbW5 b
    have hl5 : (partsT ([] : List Bs) ++ 41 :: t).length ≤ 100000 := by rw [List.length_append] at hl3; omega
    have hql : ([] : List Bs).length ≤ 100000 := by
      have : ([] : List Bs).length ≤ (partsT ([] : List Bs)).length := by
        have : ∀ l : List Bs, l.length ≤ (partsT l).length := fun l => by
          induction l with
          | nil => exact Nat.zero_le _
          | cons x l ih => rw [partsT_cons, List.length_cons, List.length_cons, List.length_append]; omega
        exact this ([] : List Bs)
      rw [List.length_append] at hl5; omega
    clear hbW5 hszW5 hRv4 hlen2 hlen
    go_wp2_with fail
    go_loopw [4] (fun u wr => ∃ (xs ys : List Bs), wr.ownsRow v4.heap.size 9 1 u xs.length (xs.map sv) ∧ RdAt wr b (partsT ys ++ 41 :: t) ∧ But b v4 wr ∧ Hid (v :: ([] : List Bs) = xs ++ ys) ∧ Hid (0 < xs.length) ∧ Hid ((partsT ys ++ 41 :: t).length ≤ 100000)) (fun u _ => (v :: ([] : List Bs)).length - lenOf u)
    case atStart => exact ⟨[v], ([] : List Bs), hown5, hRv5, hbt5, rfl, Nat.one_pos, hl5⟩
    case round =>
      obtain ⟨xs, ys, hown, hRr, hbr, hxy, hx0, hll⟩ := hrel
      clear hown5 hRv5 hbt5
      obtain ⟨A, c, rfl⟩ := own_shape hown
      obtain ⟨wz, hwz⟩ : ∃ wz : World, wz = wr := ⟨_, rfl⟩
      subst hwz
      have r1 := hRr.r1
      cases ys with
      | cons q ys =>
        have hxl : xs.length ≤ 100000 := by have := congrArg List.length hxy.out; simp at this; omega
        have hrest : partsT (q :: ys) ++ 41 :: t = 42 :: (escF q ++ (partsT ys ++ 41 :: t)) := by rw [partsT_cons, List.cons_append, List.append_assoc]
        rw [hrest] at hRr hll
        have hl7 : (escF q ++ (partsT ys ++ 41 :: t)).length ≤ 100000 := by have := hll.out; rw [List.length_cons] at this; omega
        have hT : Calls Tryz.prog 75 #[.pointer (some ⟨b, 0, none⟩), .string ⟨#[42]⟩] wz _ := take_yes hRr rfl (t := escF q ++ (partsT ys ++ 41 :: t)) rfl
        go_wp2_with fail
        refine hT.mono ?_
        rintro e w6 ⟨rfl, hR6, hb6⟩
        have hown6 := own_but hown hb6 (by omega)
        replace hbr := hbr.trans hb6
        clear hT hRr r1 hown hb6 hrest
        have hV := value_any b q (partsT ys ++ 41 :: t) w6 (partsT_end ys t) hR6 (by have := escF_ge q; rw [List.length_append] at hl7; omega) (Nat.le_trans hl7 (by decide))
        go_wp2_with fail
        refine hV.mono ?_
        rintro e w7 ⟨rfl, hR7, hb7⟩
        have hown7 := own_but hown6 hb7 (by omega)
        replace hbr := hbr.trans hb7
        have hs7 : v4.heap.size ≤ w7.heap.size := hbr.size
        clear hV hR6 hown6 hb7
        go_wp2_with (at_builtin; refine wpList_push w7 rfl _ _ 23 rfl v4.heap.size 9 (.string ⟨#[]⟩) 1 16 Tryz.underlying23 info_str rfl (by decide) _ _ _ hown7 rfl [.string (B q)] rfl rfl (by intro u hu; simp at hu; subst hu; rfl) (by omega) hs7 ?_ rfl)
        intro v8 w8 hown8 hg8 _ hb8 _
        have hR8 := hR7.keep hb8 (by omega)
        have hbr8 := hbr.at_ hb8 (Nat.le_refl _)
        have HX : Hid (v :: ([] : List Bs) = (xs ++ [q]) ++ ys) := by show _ = _; rw [hxy.out, List.append_assoc]; rfl
        have HL : Hid ((partsT ys ++ 41 :: t).length ≤ 100000) := by show _ ≤ _; rw [List.length_append] at hl7; omega
        have h0w : v8.ownBlock = v8.ownBlock := rfl
        obtain ⟨A8, c8, rfl⟩ := own_shape hown8
        have hmz : xs.length + 1 ≤ (v :: ([] : List Bs)).length := by rw [HX.out]; simp
        clear hown7 hg8 hb8 hR7 hbr hxy h0w
        go_wp2_with fail
        go_roundw
        case rel => exact ⟨xs ++ [q], ys, by rw [List.length_append, List.map_append]; exact hown8, hR8, hbr8, HX, by show 0 < _; simp, HL⟩
        case measure => simp only [lenOf]; omega
      | nil =>
        have hT : Calls Tryz.prog 75 #[.pointer (some ⟨b, 0, none⟩), .string ⟨#[42]⟩] wz _ := take_no (rest := 41 :: t) hRr rfl
        have hxe : xs = v :: ([] : List Bs) := by have := hxy.out; rw [List.append_nil] at this; exact this.symm
        subst hxe
        replace B2 := B2.but hbr (by omega)
        replace G := G.but hbr (by omega)
        replace hbt := hbt.trans hbr
        have hsz : v4.heap.size ≤ wz.heap.size := hbr.size
        clear hxy hx0 hll hRr
        go_wp2_with fail
        refine hT.mono ?_
        rintro e w6 ⟨rfl, hR6, hb6⟩
        have hown6 := own_but hown hb6 (by omega)
        replace B2 := B2.but hb6 (by omega)
        replace G := G.but hb6 (by omega)
        replace hbt := hbt.trans hb6
        have hsz6 : v4.heap.size ≤ w6.heap.size := Nat.le_trans hsz hb6.size
        clear hT hown hb6 hbr r1 hsz
        obtain ⟨g, hA, hgc⟩ := own_open hown6 Nat.one_pos
        subst hA
        have e0 : w6.cell? ⟨g, 0, none⟩ = some (.string (B v)) := hgc 0 _ rfl
        have hgb := (hown6.lt g rfl).1
        have hgn1 : ¬ g = w1.heap.size := by omega
        have hgn2 : ¬ w1.heap.size = g := by omega
        clear hgb
        have e0d : w6.drew.cell? ⟨g, 0, none⟩ = some (.string (B v)) := e0
        have g00 := G.c0
        have g02 := G.c2
        have gf0 := G.fz 0
        have gf2 := G.fz 2
        have g00d : w6.drew.cell? ⟨w1.heap.size, 0, none⟩ = some (.int .i64 0) := g00
        have g02d : w6.drew.cell? ⟨w1.heap.size, 2, none⟩ = some (.string ⟨#[]⟩) := g02
        clear hgc hown6
        go_wp2_with fail
        go_region_law (fail)
        all_goals
          have hZ := gen_put02d (R := fun Z => But w1.heap.size w6 Z ∧ Box5 Z w1.heap.size (.int .i64 4) (.string (B n)) (.string (B v)) (.slice none 0 0) (.slice none 0 0) ∧ Z.heap.size = w6.heap.size) (u := .int .i64 4) (u' := .string (B v)) G fun _ h1 h2 h3 => ⟨h1, h2, h3⟩
          obtain ⟨W9, hW9⟩ : ∃ Z : World, Z = ((w6.setCell ⟨w1.heap.size, 0, none⟩ (.int .i64 4)).setCell ⟨w1.heap.size, 2, none⟩ (.string (B v))).drew := ⟨_, rfl⟩
          rw [← hW9] at hZ ⊢
          clear hW9
          obtain ⟨hB9, G9, hs9⟩ := hZ
          replace B2 := B2.but hB9 (by omega)
          have hRf := hR6.but hB9 (by omega)
          replace hbt := hbt.own (hB9.below (show w.heap.size ≤ w1.heap.size by omega) (by omega))
          have hfin := FltN.mk (X := fun j => j < w.heap.size + 1) (w := W9) (d := d) (f := .mk 4 n v [] []) (StrsN.nil _ _) (FltsN.nil _ _ _)
          clear g00 g02 gf0 gf2 g00d g02d G hB9 e0 e0d hR6
          have G := G9
          clear G9
          obtain ⟨d0, d1, d2, d3, d4, df, dl⟩ := G
          obtain ⟨z0, z1, z2, z3, z4, zf, zl⟩ := B2
          have g0 := zf 0
          have g1 := zf 1
          have g2 := zf 2
          have g3 := zf 3
          have g4 := zf 4
          clear zf df
          go_wp2_with fail
          exact bodyPost_ret (v := .agg #[.int .i64 4, .string (B n), .string (B v), .slice none 0 0, .slice none 0 0]) (by simp [results, Tryz.results77, go_sem, z0, z1, z2, z3, z4, g0, g1, g2, g3, g4]) rfl ⟨_, rfl, (hfin.on (Agr.but (put5 w.heap.size _ _ _ _ _ _) (by omega))).sub (fun j _ hj => by omega), hRf.but (put5 w.heap.size _ _ _ _ _ _) (by omega), hbt.own ((put5 w.heap.size _ _ _ _ _ _).below (Nat.le_refl _) (by omega))⟩
  · rw [show tailF 5 v [] ++ 41 :: t = 62 :: 61 :: (escF v ++ 41 :: t) from rfl] at hR hlen2
    have hT : Calls Tryz.prog 75 #[.pointer (some ⟨b, 0, none⟩), .string ⟨#[62, 61]⟩] W2 _ := take_yes hR rfl (t := escF v ++ 41 :: t) rfl
    go_wp2_with fail
    refine hT.mono ?_
    rintro e v1 ⟨rfl, hRv1, hbq⟩
    replace B2 := B2.but hbq (by omega)
    replace G := G.but hbq (by omega)
    replace hbt := hbt.trans hbq
    replace hs2 : w1.heap.size + 1 ≤ v1.heap.size := Nat.le_trans hs2 hbq.size
    clear hT hbq
    have hV := value_any b v (41 :: t) v1 ⟨41, _, rfl, .inl rfl⟩ hRv1 (by have := escF_ge v; simp at hlen2; omega) (by simp at hlen2 ⊢; omega)
    go_wp2_with fail
    refine hV.mono ?_
    rintro e v2 ⟨rfl, hRv2, hbq⟩
    replace B2 := B2.but hbq (by omega)
    replace G := G.but hbq (by omega)
    replace hbt := hbt.trans hbq
    replace hs2 : w1.heap.size + 1 ≤ v2.heap.size := Nat.le_trans hs2 hbq.size
    clear hV hbq
    have g00 := G.c0
    have g02 := G.c2
    have gf0 := G.fz 0
    have gf2 := G.fz 2
    go_upto_region 16 with fail
    with_reducible refine gen_put02 (R := fun W => Code.wp Tryz.prog _ _ _ W) G ?_
    intro W9 hB9 G9 hs9
    replace B2 := B2.but hB9 (by omega)
    have hRf := hRv2.but hB9 (by omega)
    replace hbt := hbt.own (hB9.below (show w.heap.size ≤ w1.heap.size by omega) (by omega))
    have hfin := FltN.mk (X := fun j => j < w.heap.size + 1) (w := W9) (d := d) (f := .mk 5 n v [] []) (StrsN.nil _ _) (FltsN.nil _ _ _)
    clear g00 g02 gf0 gf2 G hB9
    have G := G9
    clear G9
    obtain ⟨d0, d1, d2, d3, d4, df, dl⟩ := G
    obtain ⟨z0, z1, z2, z3, z4, zf, zl⟩ := B2
    have g0 := zf 0
    have g1 := zf 1
    have g2 := zf 2
    have g3 := zf 3
    have g4 := zf 4
    clear zf df
    go_wp2_with fail
    exact bodyPost_ret (v := .agg #[.int .i64 5, .string (B n), .string (B v), .slice none 0 0, .slice none 0 0]) (by simp [results, Tryz.results77, go_sem, z0, z1, z2, z3, z4, g0, g1, g2, g3, g4]) rfl ⟨_, rfl, (hfin.on (Agr.but (put5 w.heap.size _ _ _ _ _ _) (by omega))).sub (fun j _ hj => by omega), hRf.but (put5 w.heap.size _ _ _ _ _ _) (by omega), hbt.own ((put5 w.heap.size _ _ _ _ _ _).below (Nat.le_refl _) (by omega))⟩
  · rw [show tailF 6 v [] ++ 41 :: t = 60 :: 61 :: (escF v ++ 41 :: t) from rfl] at hR hlen2
    have hT : Calls Tryz.prog 75 #[.pointer (some ⟨b, 0, none⟩), .string ⟨#[62, 61]⟩] W2 _ := take_no hR rfl
    go_wp2_with fail
    refine hT.mono ?_
    rintro e v0 ⟨rfl, hRv0, hbq⟩
    replace B2 := B2.but hbq (by omega)
    replace G := G.but hbq (by omega)
    replace hbt := hbt.trans hbq
    replace hs2 : w1.heap.size + 1 ≤ v0.heap.size := Nat.le_trans hs2 hbq.size
    clear hT hbq
    have hT : Calls Tryz.prog 75 #[.pointer (some ⟨b, 0, none⟩), .string ⟨#[60, 61]⟩] v0 _ := take_yes hRv0 rfl (t := escF v ++ 41 :: t) rfl
    go_wp2_with fail
    refine hT.mono ?_
    rintro e v1 ⟨rfl, hRv1, hbq⟩
    replace B2 := B2.but hbq (by omega)
    replace G := G.but hbq (by omega)
    replace hbt := hbt.trans hbq
    replace hs2 : w1.heap.size + 1 ≤ v1.heap.size := Nat.le_trans hs2 hbq.size
    clear hT hbq
    have hV := value_any b v (41 :: t) v1 ⟨41, _, rfl, .inl rfl⟩ hRv1 (by have := escF_ge v; simp at hlen2; omega) (by simp at hlen2 ⊢; omega)
    go_wp2_with fail
    refine hV.mono ?_
    rintro e v2 ⟨rfl, hRv2, hbq⟩
    replace B2 := B2.but hbq (by omega)
    replace G := G.but hbq (by omega)
    replace hbt := hbt.trans hbq
    replace hs2 : w1.heap.size + 1 ≤ v2.heap.size := Nat.le_trans hs2 hbq.size
    clear hV hbq
    have g00 := G.c0
    have g02 := G.c2
    have gf0 := G.fz 0
    have gf2 := G.fz 2
    go_upto_region 16 with fail
    with_reducible refine gen_put02 (R := fun W => Code.wp Tryz.prog _ _ _ W) G ?_
    intro W9 hB9 G9 hs9
    replace B2 := B2.but hB9 (by omega)
    have hRf := hRv2.but hB9 (by omega)
    replace hbt := hbt.own (hB9.below (show w.heap.size ≤ w1.heap.size by omega) (by omega))
    have hfin := FltN.mk (X := fun j => j < w.heap.size + 1) (w := W9) (d := d) (f := .mk 6 n v [] []) (StrsN.nil _ _) (FltsN.nil _ _ _)
    clear g00 g02 gf0 gf2 G hB9
    have G := G9
    clear G9
    obtain ⟨d0, d1, d2, d3, d4, df, dl⟩ := G
    obtain ⟨z0, z1, z2, z3, z4, zf, zl⟩ := B2
    have g0 := zf 0
    have g1 := zf 1
    have g2 := zf 2
    have g3 := zf 3
    have g4 := zf 4
    clear zf df
    go_wp2_with fail
    exact bodyPost_ret (v := .agg #[.int .i64 6, .string (B n), .string (B v), .slice none 0 0, .slice none 0 0]) (by simp [results, Tryz.results77, go_sem, z0, z1, z2, z3, z4, g0, g1, g2, g3, g4]) rfl ⟨_, rfl, (hfin.on (Agr.but (put5 w.heap.size _ _ _ _ _ _) (by omega))).sub (fun j _ hj => by omega), hRf.but (put5 w.heap.size _ _ _ _ _ _) (by omega), hbt.own ((put5 w.heap.size _ _ _ _ _ _).below (Nat.le_refl _) (by omega))⟩
  · rw [show tailF 7 [] [] ++ 41 :: t = 61 :: 42 :: 41 :: t from rfl] at hR hlen2
    have hT : Calls Tryz.prog 75 #[.pointer (some ⟨b, 0, none⟩), .string ⟨#[62, 61]⟩] W2 _ := take_no hR rfl
    go_wp2_with fail
    refine hT.mono ?_
    rintro e v0 ⟨rfl, hRv0, hbq⟩
    replace B2 := B2.but hbq (by omega)
    replace G := G.but hbq (by omega)
    replace hbt := hbt.trans hbq
    replace hs2 : w1.heap.size + 1 ≤ v0.heap.size := Nat.le_trans hs2 hbq.size
    clear hT hbq
    have hT : Calls Tryz.prog 75 #[.pointer (some ⟨b, 0, none⟩), .string ⟨#[60, 61]⟩] v0 _ := take_no hRv0 rfl
    go_wp2_with fail
    refine hT.mono ?_
    rintro e v1 ⟨rfl, hRv1, hbq⟩
    replace B2 := B2.but hbq (by omega)
    replace G := G.but hbq (by omega)
    replace hbt := hbt.trans hbq
    replace hs2 : w1.heap.size + 1 ≤ v1.heap.size := Nat.le_trans hs2 hbq.size
    clear hT hbq
    have hT : Calls Tryz.prog 75 #[.pointer (some ⟨b, 0, none⟩), .string ⟨#[61, 42, 41]⟩] v1 _ := take_yes hRv1 rfl (t := t) rfl
    go_wp2_with fail
    refine hT.mono ?_
    rintro e v2 ⟨rfl, hRv2, hbq⟩
    replace B2 := B2.but hbq (by omega)
    replace G := G.but hbq (by omega)
    replace hbt := hbt.trans hbq
    replace hs2 : w1.heap.size + 1 ≤ v2.heap.size := Nat.le_trans hs2 hbq.size
    clear hT hbq
    have g00 := G.c0
    have gf0 := G.fz 0
    go_upto_region 15 with fail
    with_reducible refine gen_put0 (R := fun W => Code.wp Tryz.prog _ _ _ W) G ?_
    intro W8 hB8 G8 hs8
    replace B2 := B2.but hB8 (by omega)
    have hR8 := hRv2.but hB8 (by omega)
    replace hbt := hbt.own (hB8.below (show w.heap.size ≤ w1.heap.size by omega) (by omega))
    have a1 := fun W => run_add (P := Tryz.prog) (s := ⟨#[41]⟩) (a := [41]) (b := t) rfl rfl (by simp at hlen2 ⊢; omega) W
    have r0 := hR8.r0
    have f0 := hR8.f0
    clear g00 gf0 G hB8
    go_upto_region 16 with fail
    with_reducible refine gen_rd (R := fun W => Code.wp Tryz.prog _ _ _ W) hR8 ?_
    intro W9 hB9 hRf hs9
    replace B2 := B2.but hB9 (by omega)
    have G := G8.but hB9 (by omega)
    replace hbt := hbt.trans hB9
    have hfin := FltN.mk (X := fun j => j < w.heap.size + 1) (w := W9) (d := d) (f := .mk 7 n [] [] []) (StrsN.nil _ _) (FltsN.nil _ _ _)
    clear r0 f0 hR8 hRv2 G8 hB9
    obtain ⟨d0, d1, d2, d3, d4, df, dl⟩ := G
    obtain ⟨z0, z1, z2, z3, z4, zf, zl⟩ := B2
    have g0 := zf 0
    have g1 := zf 1
    have g2 := zf 2
    have g3 := zf 3
    have g4 := zf 4
    clear zf df
    go_wp2_with fail
    exact bodyPost_ret (v := .agg #[.int .i64 7, .string (B n), .string ⟨#[]⟩, .slice none 0 0, .slice none 0 0]) (by simp [results, Tryz.results77, go_sem, z0, z1, z2, z3, z4, g0, g1, g2, g3, g4]) rfl ⟨_, rfl, (hfin.on (Agr.but (put5 w.heap.size _ _ _ _ _ _) (by omega))).sub (fun j _ hj => by omega), hRf.but (put5 w.heap.size _ _ _ _ _ _) (by omega), hbt.own ((put5 w.heap.size _ _ _ _ _ _).below (Nat.le_refl _) (by omega))⟩
  · obtain ⟨q0, qs, rfl⟩ : ∃ q qs, ps = q :: qs := by
      cases ps with
      | nil => simp at hp2
      | cons q qs => exact ⟨q, qs, rfl⟩
    have hq1 : qs ≠ [] := by rintro rfl; simp at hp2
    have hq2 : ¬ qs.length = 0 := fun e => hq1 (List.eq_nil_of_length_eq_zero e)
    have htf : tailF 8 [] (q0 :: qs) ++ 41 :: t = 61 :: (escF q0 ++ (partsT qs ++ 41 :: t)) := by
      show 61 :: ((escF q0 ++ partsT qs) ++ 41 :: t) = _
      rw [List.append_assoc]
    rw [htf] at hR hlen2
    have hno : [61, 42, 41].isPrefixOf (61 :: (escF q0 ++ (partsT qs ++ 41 :: t))) = false := parts_not hq1 hpn t
    have hpl : ∀ x ∈ qs, True := fun _ _ => trivial
    have hT : Calls Tryz.prog 75 #[.pointer (some ⟨b, 0, none⟩), .string ⟨#[62, 61]⟩] W2 _ := take_no hR rfl
    go_wp2_with fail
    refine hT.mono ?_
    rintro e v0 ⟨rfl, hRv0, hbq⟩
    replace B2 := B2.but hbq (by omega)
    replace G := G.but hbq (by omega)
    replace hbt := hbt.trans hbq
    replace hs2 : w1.heap.size + 1 ≤ v0.heap.size := Nat.le_trans hs2 hbq.size
    clear hT hbq
    have hT : Calls Tryz.prog 75 #[.pointer (some ⟨b, 0, none⟩), .string ⟨#[60, 61]⟩] v0 _ := take_no hRv0 rfl
    go_wp2_with fail
    refine hT.mono ?_
    rintro e v1 ⟨rfl, hRv1, hbq⟩
    replace B2 := B2.but hbq (by omega)
    replace G := G.but hbq (by omega)
    replace hbt := hbt.trans hbq
    replace hs2 : w1.heap.size + 1 ≤ v1.heap.size := Nat.le_trans hs2 hbq.size
    clear hT hbq
    have hT : Calls Tryz.prog 75 #[.pointer (some ⟨b, 0, none⟩), .string ⟨#[61, 42, 41]⟩] v1 _ := take_no hRv1 hno
    go_wp2_with fail
    refine hT.mono ?_
    rintro e v2 ⟨rfl, hRv2, hbq⟩
    replace B2 := B2.but hbq (by omega)
    replace G := G.but hbq (by omega)
    replace hbt := hbt.trans hbq
    replace hs2 : w1.heap.size + 1 ≤ v2.heap.size := Nat.le_trans hs2 hbq.size
    clear hT hbq
    have hN : Calls Tryz.prog 74 #[.pointer (some ⟨b, 0, none⟩), .string ⟨#[61]⟩] v2 _ := need_any (pre := [61]) (t := escF q0 ++ (partsT qs ++ 41 :: t)) hRv2
    go_wp2_with fail
    refine hN.mono ?_
    rintro e v3 ⟨rfl, hRv3, hbq⟩
    replace B2 := B2.but hbq (by omega)
    replace G := G.but hbq (by omega)
    replace hbt := hbt.trans hbq
    replace hs2 : w1.heap.size + 1 ≤ v3.heap.size := Nat.le_trans hs2 hbq.size
    clear hN hbq hR hRv0 hRv1 hRv2 hno
    have hl3 : (escF q0 ++ (partsT qs ++ 41 :: t)).length ≤ 100000 := by simp at hlen2 ⊢; omega
    have hV := value_any b q0 (partsT qs ++ 41 :: t) v3 (partsT_end qs t) hRv3 (by have := escF_ge q0; rw [List.length_append] at hl3; omega) (Nat.le_trans hl3 (by decide))
    go_wp2_with fail
    refine hV.mono ?_
    rintro e v4 ⟨rfl, hRv4, hbq⟩
    replace B2 := B2.but hbq (by omega)
    replace G := G.but hbq (by omega)
    replace hbt := hbt.trans hbq
    replace hs2 : w1.heap.size + 1 ≤ v4.heap.size := Nat.le_trans hs2 hbq.size
    clear hV hbq hRv3
    go_upto_block 1 with fail
    with_reducible refine genRow1 (R := fun W => Code.wp Tryz.prog _ _ _ W) ?_
    intro W5 hbW5 hszW5 hown5
    have hRv5 := hRv4.later hbW5
    have hbt5 := But.of_below hbW5 b
    have hl5 : (partsT qs ++ 41 :: t).length ≤ 100000 := by rw [List.length_append] at hl3; omega
    have hql : qs.length ≤ 100000 := by
      have : qs.length ≤ (partsT qs).length := by
        have : ∀ l : List Bs, l.length ≤ (partsT l).length := fun l => by
          induction l with
          | nil => exact Nat.zero_le _
          | cons x l ih => rw [partsT_cons, List.length_cons, List.length_cons, List.length_append]; omega
        exact this qs
      rw [List.length_append] at hl5; omega
    clear hbW5 hszW5 hRv4 hlen2 hlen
    go_wp2_with fail
    go_loopw [4] (fun u wr => ∃ (xs ys : List Bs), wr.ownsRow v4.heap.size 9 1 u xs.length (xs.map sv) ∧ RdAt wr b (partsT ys ++ 41 :: t) ∧ But b v4 wr ∧ Hid (q0 :: qs = xs ++ ys) ∧ Hid (0 < xs.length) ∧ Hid ((partsT ys ++ 41 :: t).length ≤ 100000)) (fun u _ => (q0 :: qs).length - lenOf u)
    case atStart => exact ⟨[q0], qs, hown5, hRv5, hbt5, rfl, Nat.one_pos, hl5⟩
    case round =>
      obtain ⟨xs, ys, hown, hRr, hbr, hxy, hx0, hll⟩ := hrel
      clear hown5 hRv5 hbt5
      obtain ⟨A, c, rfl⟩ := own_shape hown
      obtain ⟨wz, hwz⟩ : ∃ wz : World, wz = wr := ⟨_, rfl⟩
      subst hwz
      have r1 := hRr.r1
      cases ys with
      | cons q ys =>
        have hxl : xs.length ≤ 100000 := by have := congrArg List.length hxy.out; simp at this; omega
        have hrest : partsT (q :: ys) ++ 41 :: t = 42 :: (escF q ++ (partsT ys ++ 41 :: t)) := by rw [partsT_cons, List.cons_append, List.append_assoc]
        rw [hrest] at hRr hll
        have hl7 : (escF q ++ (partsT ys ++ 41 :: t)).length ≤ 100000 := by have := hll.out; rw [List.length_cons] at this; omega
        have hT : Calls Tryz.prog 75 #[.pointer (some ⟨b, 0, none⟩), .string ⟨#[42]⟩] wz _ := take_yes hRr rfl (t := escF q ++ (partsT ys ++ 41 :: t)) rfl
        go_wp2_with fail
        refine hT.mono ?_
        rintro e w6 ⟨rfl, hR6, hb6⟩
        have hown6 := own_but hown hb6 (by omega)
        replace hbr := hbr.trans hb6
        clear hT hRr r1 hown hb6 hrest
        have hV := value_any b q (partsT ys ++ 41 :: t) w6 (partsT_end ys t) hR6 (by have := escF_ge q; rw [List.length_append] at hl7; omega) (Nat.le_trans hl7 (by decide))
        go_wp2_with fail
        refine hV.mono ?_
        rintro e w7 ⟨rfl, hR7, hb7⟩
        have hown7 := own_but hown6 hb7 (by omega)
        replace hbr := hbr.trans hb7
        have hs7 : v4.heap.size ≤ w7.heap.size := hbr.size
        clear hV hR6 hown6 hb7
        go_wp2_with (at_builtin; refine wpList_push w7 rfl _ _ 23 rfl v4.heap.size 9 (.string ⟨#[]⟩) 1 16 Tryz.underlying23 info_str rfl (by decide) _ _ _ hown7 rfl [.string (B q)] rfl rfl (by intro u hu; simp at hu; subst hu; rfl) (by omega) hs7 ?_ rfl)
        intro v8 w8 hown8 hg8 _ hb8 _
        have hR8 := hR7.keep hb8 (by omega)
        have hbr8 := hbr.at_ hb8 (Nat.le_refl _)
        have HX : Hid (q0 :: qs = (xs ++ [q]) ++ ys) := by show _ = _; rw [hxy.out, List.append_assoc]; rfl
        have HL : Hid ((partsT ys ++ 41 :: t).length ≤ 100000) := by show _ ≤ _; rw [List.length_append] at hl7; omega
        have h0w : v8.ownBlock = v8.ownBlock := rfl
        obtain ⟨A8, c8, rfl⟩ := own_shape hown8
        have hmz : xs.length + 1 ≤ (q0 :: qs).length := by rw [HX.out]; simp
        clear hown7 hg8 hb8 hR7 hbr hxy h0w
        go_wp2_with fail
        go_roundw
        case rel => exact ⟨xs ++ [q], ys, by rw [List.length_append, List.map_append]; exact hown8, hR8, hbr8, HX, by show 0 < _; simp, HL⟩
        case measure => simp only [lenOf]; omega
      | nil =>
        have hT : Calls Tryz.prog 75 #[.pointer (some ⟨b, 0, none⟩), .string ⟨#[42]⟩] wz _ := take_no (rest := 41 :: t) hRr rfl
        have hxe : xs = q0 :: qs := by have := hxy.out; rw [List.append_nil] at this; exact this.symm
        subst hxe
        replace B2 := B2.but hbr (by omega)
        replace G := G.but hbr (by omega)
        replace hbt := hbt.trans hbr
        have hsz : v4.heap.size ≤ wz.heap.size := hbr.size
        clear hxy hx0 hll hRr
        go_wp2_with fail
        refine hT.mono ?_
        rintro e w6 ⟨rfl, hR6, hb6⟩
        have hown6 := own_but hown hb6 (by omega)
        replace B2 := B2.but hb6 (by omega)
        replace G := G.but hb6 (by omega)
        replace hbt := hbt.trans hb6
        have hsz6 : v4.heap.size ≤ w6.heap.size := Nat.le_trans hsz hb6.size
        clear hT hown hb6 hbr r1 hsz
        have hlI : (((q0 :: qs).length : Int) == 1) = false := by rw [beq_eq_false_iff_ne, List.length_cons]; omega
        have hlI2 : (((qs.length + 1 : Nat) : Int) == 1) = false := by rw [beq_eq_false_iff_ne]; omega
        have hS := StrsN.own (X := fun j => j < v4.heap.size) hown6 (fun j _ hj => hj)
        have g00 := G.c0
        have g03 := G.c3
        have gf0 := G.fz 0
        have gf3 := G.fz 3
        generalize hnl : (q0 :: qs).length = nl at *
        clear hown6 hnl hq2 hq1
        go_upto_region 16 with fail
        with_reducible refine gen_put03 (R := fun W => Code.wp Tryz.prog _ _ _ W) G ?_
        intro W9 hB9 G9 hs9
        replace B2 := B2.but hB9 (by omega)
        have hRf := hR6.but hB9 (by omega)
        replace hbt := hbt.own (hB9.below (show w.heap.size ≤ w1.heap.size by omega) (by omega))
        have hfin := (FltN.mk (d := d) (f := .mk 8 n [] (q0 :: qs) []) (hS.on (Agr.but hB9 (show w1.heap.size < v4.heap.size by omega))) (FltsN.nil _ _ _)).sub (Y := fun j => j < w.heap.size + 1) (fun j _ hj => by omega)
        clear g00 g03 gf0 gf3 G hB9 hS hR6
        have G := G9
        clear G9
        obtain ⟨d0, d1, d2, d3, d4, df, dl⟩ := G
        obtain ⟨z0, z1, z2, z3, z4, zf, zl⟩ := B2
        have g0 := zf 0
        have g1 := zf 1
        have g2 := zf 2
        have g3 := zf 3
        have g4 := zf 4
        clear zf df
        go_wp2_with fail
        exact bodyPost_ret (v := .agg #[.int .i64 8, .string (B n), .string ⟨#[]⟩, .slice A nl c, .slice none 0 0]) (by simp [results, Tryz.results77, go_sem, z0, z1, z2, z3, z4, g0, g1, g2, g3, g4]) rfl ⟨_, rfl, (hfin.on (Agr.but (put5 w.heap.size _ _ _ _ _ _) (by omega))).sub (fun j _ hj => by omega), hRf.but (put5 w.heap.size _ _ _ _ _ _) (by omega), hbt.own ((put5 w.heap.size _ _ _ _ _ _).below (Nat.le_refl _) (by omega))⟩
end Go.Proofs.YtmamnmjfbadiiaaGreatDoor
/- filter: the reader: kids, filter; Parse of a text that is read back. -/
namespace Go.Proofs.YtmamnmjfbadiiaaGreatDoor
open Go.RowKit Go.Sort
open Idn (L B Bs drop_L take_L size_L)
theorem fTxt_head (f : Flt) : ∃ r, fTxt f = 40 :: r := by
 rw [fTxt_unf]
 unfold txtF
 split
 ·exact ⟨_, rfl⟩
 ·split
  ·exact ⟨_, rfl⟩
  ·split
   ·exact ⟨_, rfl⟩
   ·split
    ·exact ⟨_, rfl⟩
    ·split
     ·exact ⟨_, rfl⟩
     ·split
      ·exact ⟨_, rfl⟩
      ·split <;> exact ⟨_, rfl⟩
theorem lead_no {n : Bs} (hn : rdName n = true) {x : UInt8} (hx : x = 38 ∨ x = 124 ∨ x = 33) (k : Int) (v : Bs) (ps : List Bs) (t : Bs) : [x].isPrefixOf (n ++ (tailF k v ps ++ 41 :: t)) = false := by
  unfold rdName at hn
  rw [Bool.and_eq_true] at hn
  cases n with
  | nil =>
    obtain ⟨c, r, hc, hs⟩ := tail_stop k v ps t
    rw [List.nil_append, hc]
    have : x ≠ c := by
      rintro rfl
      rcases hx with rfl | rfl | rfl <;> revert hs <;> decide
    simp [List.isPrefixOf]
    exact this
  | cons c n =>
    have h2 := hn.2
    have : x ≠ c := by
      rintro rfl
      rcases hx with rfl | rfl | rfl <;> revert h2 <;> simp
    rw [List.cons_append]
    simp [List.isPrefixOf]
    exact this
def RetK (b d : Nat) (ks : List Flt) (rest : Bs) (w : World) (e : Ending) (w' : World) : Prop := ∃ A c, e = .returned (.slice A ks.length c) ∧ FltsN (fun k => k < w.heap.size) w' d (.slice A ks.length c) ks ∧ RdAt w' b rest ∧ But b w w'
theorem rkids_any (b d : Nat) (ks : List Flt) (t : Bs) (w : World) (hd : 0 < d) (hkl : ks.length ≤ 100000) (h : RdAt w b (fTxts ks ++ 41 :: t)) (hlen : (fTxts ks ++ 41 :: t).length ≤ 100000)
  (ih : ∀ g ∈ ks, ∀ (t : Bs) (w : World), RdAt w b (fTxt g ++ t) → (fTxt g ++ t).length ≤ 100000 → Calls Tryz.prog 41 #[.pointer (some ⟨b, 0, none⟩)] w (RetQ b (d - 1) g t w)) :
  Calls Tryz.prog 76 #[.pointer (some ⟨b, 0, none⟩)] w (RetK b d ks (41 :: t) w) := by
 have hbl := h.lt
 go_enter Tryz.func76, Tryz.ntmps76
 go_wp2_with fail
 go_loopw [3] (fun u wr => ∃ (j : Nat) (A : Option Addr) (c : Nat), j ≤ ks.length ∧ u = .slice A j c ∧ RowF (fun k => k < w.heap.size) wr w.heap.size d (.slice A j c) (ks.take j) ∧ RdAt wr b (fTxts (ks.drop j) ++ 41 :: t) ∧ But b w wr ∧ Hid ((fTxts (ks.drop j) ++ 41 :: t).length ≤ 100000)) (fun u _ => ks.length - lenOf u)
 case atStart => exact ⟨0, none, 0, Nat.zero_le _, rfl, RowF.nil _ _ _ _, h, But.refl _ _, hlen⟩
 case round =>
  obtain ⟨j, A, c, hj9, rfl, hrow, hR, hbt, hll⟩ := hrel
  clear h
  have hlk : (ks.take j).length = j := by rw [List.length_take]; omega
  have r0 := hR.r0
  have r1 := hR.r1
  by_cases hlt : j < ks.length
  ·have hdr : fTxts (ks.drop j) ++ 41 :: t = fTxt ks[j] ++ (fTxts (ks.drop (j + 1)) ++ 41 :: t) := by rw [List.drop_eq_getElem_cons hlt, fTxts, List.append_assoc]
   rw [hdr] at hR hll r0
   have hpre : [40].isPrefixOf (fTxt ks[j] ++ (fTxts (ks.drop (j + 1)) ++ 41 :: t)) = true := by
    obtain ⟨r, hr⟩ := fTxt_head ks[j]
    rw [hr]; rfl
   have hH : Calls Tryz.prog 108 #[.string (B (fTxt ks[j] ++ (fTxts (ks.drop (j + 1)) ++ 41 :: t))), .string ⟨#[40]⟩] wr fun e w' => e = .returned (.bool true) ∧ w' = wr := by
    have := Tryz.strings_HasPrefix (B (fTxt ks[j] ++ (fTxts (ks.drop (j + 1)) ++ 41 :: t))) ⟨#[40]⟩ wr
    rw [show Lib.hasPrefix (B (fTxt ks[j] ++ (fTxts (ks.drop (j + 1)) ++ 41 :: t))).data.toList (⟨#[40]⟩ : ByteArray).data.toList = [40].isPrefixOf (fTxt ks[j] ++ (fTxts (ks.drop (j + 1)) ++ 41 :: t)) from rfl, hpre] at this
    exact this
   have hcall := ih ks[j] (List.getElem_mem hlt) (fTxts (ks.drop (j + 1)) ++ 41 :: t) wr hR hll.out
   have hl2 : Hid ((fTxts (ks.drop (j + 1)) ++ 41 :: t).length ≤ 100000) := by
    have := hll.out
    rw [List.length_append] at this
    show _ ≤ _; omega
   have hlt5 := fun i hi => (hrow.lt i hi).2
   have hdd : d - 1 + 1 = d := by omega
   have hsw := hbt.size
   generalize hrt : fTxts (ks.drop (j + 1)) ++ 41 :: t = rt at *
   have HRT := Lib.hid hrt
   clear hdr hpre hll hR ih hrt
   go_wp2_with fail
   refine hH.mono ?_
   rintro e wd ⟨rfl, rfl⟩
   clear hH r0 r1
   go_wp2_with fail
   refine hcall.mono ?_
   rintro e w6 ⟨r6, rfl, hn6, hR6, hb6⟩
   obtain ⟨Ap6, cp6, Ak6, ck6, hr6⟩ := hn6.shape
   subst hr6
   obtain ⟨xs, x1, x2, x3, x4, x5⟩ := hrow.on (Agr.but hb6 hbl)
   rw [hlk] at x3
   have hF6 := FCN.of hn6
   rw [hdd] at hF6
   have hbt6 := hbt.trans hb6
   have hs6 : w.heap.size ≤ w6.heap.size := hbt6.size
   clear hcall hrow hn6
   go_wp2_with (at_builtin; refine wpList_push w6 rfl _ _ 24 rfl w.heap.size 26 (.agg #[.int .i64 0, .string ⟨#[]⟩, .string ⟨#[]⟩, .slice none 0 0, .slice none 0 0]) 5 88 Tryz.underlying24 info_flt rfl (by decide) _ _ _ x3 rfl [.int .i64 ks[j].kind, .string (B ks[j].name), .string (B ks[j].value), .slice Ap6 ks[j].parts.length cp6, .slice Ak6 ks[j].kids.length ck6] rfl rfl (by intro u hu; simp at hu; rcases hu with rfl | rfl | rfl | rfl | rfl <;> rfl) (by omega) hs6 ?_ rfl)
   intro v7 w7 hown7 hg7 hat7 hb7 _
   have hrow7 := RowF.push (Y := fun k => k < wd.heap.size) hlk x1 x2 x4 x5 rfl hF6 (fun i _ hi => by
    rcases hi with hi | hi
    ·exact Nat.lt_of_lt_of_le hi hsw
    ·exact hlt5 i hi) (fun i hi => Nat.lt_of_lt_of_le hi hs6) hown7 hg7 hat7
   rw [← List.take_succ_eq_append_getElem hlt] at hrow7
   obtain ⟨A7, c7, rfl⟩ := own_shape hown7
   have hR7 := hR6.keep hb7 hbl
   have hbt7 := hbt6.at_ hb7 (Nat.le_refl _)
   clear hown7 hg7 hat7 x1 x2 x3 x4 x5 hF6 hlt5 hb7 hR6
   go_wp2_with fail
   go_roundw
   case rel => exact ⟨j + 1, A7, c7, by omega, rfl, hrow7, by rw [HRT.out]; exact hR7, hbt7, by rw [HRT.out]; exact hl2⟩
   case measure => simp only [lenOf]; omega
  ·have hjj : j = ks.length := by omega
   subst hjj
   rw [List.drop_eq_nil_of_le (Nat.le_refl _)] at hR r0
   rw [List.take_of_length_le (Nat.le_refl _)] at hrow
   have hH : Calls Tryz.prog 108 #[.string (B (fTxts [] ++ 41 :: t)), .string ⟨#[40]⟩] wr fun e w' => e = .returned (.bool false) ∧ w' = wr := by
    have := Tryz.strings_HasPrefix (B (fTxts [] ++ 41 :: t)) ⟨#[40]⟩ wr
    rw [show Lib.hasPrefix (B (fTxts [] ++ 41 :: t)).data.toList (⟨#[40]⟩ : ByteArray).data.toList = false from rfl] at this
    exact this
   clear ih hll
   go_wp2_with fail
   refine hH.mono ?_
   rintro e wd ⟨rfl, rfl⟩
   go_wp2_with fail
   go_ret
   exact ⟨_, _, rfl, hrow.read, hR, hbt⟩
theorem rfilter_any : ∀ (f : Flt), rdOk f → ∀ (d : Nat), fDep f ≤ d → ∀ (t : Bs) (b : Nat) (w : World), RdAt w b (fTxt f ++ t) → (fTxt f ++ t).length ≤ 100000 →
    Calls Tryz.prog 41 #[.pointer (some ⟨b, 0, none⟩)] w (RetQ b d f t w) := by
  intro f
  induction f using Flt.ind with
  | h k n v ps ks ih =>
  intro hok d hd t b w h hlen
  have hbl := h.lt
  rw [fDep] at hd
  have hd0 : 0 < d := by omega
  have ihk : ∀ g ∈ ks, ∀ (t : Bs) (w : World), rdOk g → RdAt w b (fTxt g ++ t) → (fTxt g ++ t).length ≤ 100000 → Calls Tryz.prog 41 #[.pointer (some ⟨b, 0, none⟩)] w (RetQ b (d - 1) g t w) := fun g hg t w ho hr hl =>
    ih g hg ho (d - 1) (by have := (fDeps_le (l := ks) (n := fDeps ks)).1 (Nat.le_refl _) g hg; omega) t b w hr hl
  rw [rdOk] at hok
  have hksl : ks.length ≤ (fTxts ks).length := by
    have : ∀ l : List Flt, l.length ≤ (fTxts l).length := fun l => by
      induction l with
      | nil => exact Nat.zero_le _
      | cons g l ihl =>
        obtain ⟨r, hr⟩ := fTxt_head g
        rw [fTxts, hr, List.length_append, List.length_cons, List.length_cons]; omega
    exact this ks
  clear ih hd
  rcases hok with ⟨hk, rfl, rfl, rfl, hks⟩ | ⟨hn, rfl, hkk⟩
  · rcases hk with rfl | rfl | ⟨rfl, hk1⟩
    · have htx : fTxt (.mk 1 [] [] [] ks) ++ t = 40 :: (38 :: (fTxts ks ++ 41 :: t)) := by
        rw [fTxt]
        show 40 :: 38 :: ((fTxts ks ++ [41]) ++ t) = _
        rw [List.append_assoc]; rfl
      rw [htx] at h hlen
      have hl1 : (fTxts ks ++ 41 :: t).length ≤ 100000 := by rw [List.length_cons, List.length_cons] at hlen; omega
      go_enter Tryz.func41, Tryz.ntmps41
      go_upto_region 2 with fail
      with_reducible refine gen2g (R := fun W => Code.wp Tryz.prog _ _ _ W) ?_
      intro W hbW hszW hc1 hc2 hf1 hf2
      have B2 : Box5 W w.heap.size (.int .i64 0) (.string ⟨#[]⟩) (.string ⟨#[]⟩) (.slice none 0 0) (.slice none 0 0) := ⟨hc1 0 _ rfl, hc1 1 _ rfl, hc1 2 _ rfl, hc1 3 _ rfl, hc1 4 _ rfl, hf1, by omega⟩
      have G : Box5 W (w.heap.size + 1) (.int .i64 0) (.string ⟨#[]⟩) (.string ⟨#[]⟩) (.slice none 0 0) (.slice none 0 0) := ⟨hc2 0 _ rfl, hc2 1 _ rfl, hc2 2 _ rfl, hc2 3 _ rfl, hc2 4 _ rfl, hf2, by omega⟩
      have hR := h.later hbW
      have hbt := But.of_below hbW b
      have hs2 : w.heap.size + 2 ≤ W.heap.size := by omega
      clear hc1 hc2 hf1 hf2 hszW hbW h
      have hN : Calls Tryz.prog 74 #[.pointer (some ⟨b, 0, none⟩), .string ⟨#[40]⟩] W _ := need_any (pre := [40]) (t := 38 :: (fTxts ks ++ 41 :: t)) hR
      go_wp2_with fail
      refine hN.mono ?_
      rintro e v0 ⟨rfl, hRv0, hbq⟩
      replace B2 := B2.but hbq (by omega)
      replace G := G.but hbq (by omega)
      replace hbt := hbt.trans hbq
      replace hs2 : w.heap.size + 2 ≤ v0.heap.size := Nat.le_trans hs2 hbq.size
      clear hN hbq hR
      have hT : Calls Tryz.prog 75 #[.pointer (some ⟨b, 0, none⟩), .string ⟨#[38]⟩] v0 _ := take_yes hRv0 rfl (t := fTxts ks ++ 41 :: t) rfl
      go_wp2_with fail
      refine hT.mono ?_
      rintro e v1 ⟨rfl, hRv1, hbq⟩
      replace B2 := B2.but hbq (by omega)
      replace G := G.but hbq (by omega)
      replace hbt := hbt.trans hbq
      replace hs2 : w.heap.size + 2 ≤ v1.heap.size := Nat.le_trans hs2 hbq.size
      clear hT hbq hRv0
      have hK := rkids_any b d ks t v1 hd0 (by rw [List.length_append] at hl1; omega) hRv1 hl1 (fun g hg t w hr hl => ihk g hg t w (rdOks_all.1 hks g hg) hr hl)
      clear ihk
      go_wp2_with fail
      refine hK.mono ?_
      rintro e v5 ⟨A5, c5, rfl, hF5, hR5, hbq⟩
      replace B2 := B2.but hbq (by omega)
      replace G := G.but hbq (by omega)
      replace hbt := hbt.trans hbq
      have hs3 : w.heap.size + 2 ≤ v5.heap.size := Nat.le_trans hs2 hbq.size
      have hF6 := hF5.sub (Y := fun j => j < w.heap.size + 2) (fun j _ hj => by omega)
      clear hK hbq hRv1 hF5
      have g00 := G.c0
      have g04 := G.c4
      have gf0 := G.fz 0
      have gf4 := G.fz 4
      go_upto_region 10 with fail
      with_reducible refine gen_put04 (R := fun W => Code.wp Tryz.prog _ _ _ W) G ?_
      intro W9 hB9 G9 hs9
      replace B2 := B2.but hB9 (by omega)
      have hR9 := hR5.but hB9 (by omega)
      replace hbt := hbt.own (hB9.below (Nat.le_succ _) (by omega))
      have hfin := FltN.mk (f := .mk 1 [] [] [] ks) (StrsN.nil _ _) (hF6.on (Agr.but hB9 (by omega)))
      clear g00 g04 gf0 gf4 G hB9 hR5 hF6
      have G := G9
      clear G9
      have hN : Calls Tryz.prog 74 #[.pointer (some ⟨b, 0, none⟩), .string ⟨#[41]⟩] W9 _ := need_any (pre := [41]) (t := t) hR9
      go_wp2_with fail
      refine hN.mono ?_
      rintro e w10 ⟨rfl, hRf, hbq⟩
      replace B2 := B2.but hbq (by omega)
      replace G := G.but hbq (by omega)
      replace hbt := hbt.trans hbq
      replace hfin := hfin.on (Agr.but hbq (show b < w.heap.size + 2 by omega))
      clear hN hbq hR9
      obtain ⟨d0, d1, d2, d3, d4, df, dl⟩ := G
      obtain ⟨z0, z1, z2, z3, z4, zf, zl⟩ := B2
      have g0 := zf 0
      have g1 := zf 1
      have g2 := zf 2
      have g3 := zf 3
      have g4 := zf 4
      clear zf df
      go_wp2_with fail
      exact bodyPost_ret (v := .agg #[.int .i64 1, .string ⟨#[]⟩, .string ⟨#[]⟩, .slice none 0 0, .slice A5 ks.length c5]) (by simp [results, Tryz.results41, go_sem, z0, z1, z2, z3, z4, g0, g1, g2, g3, g4]) rfl ⟨_, rfl, (hfin.on (Agr.but (put5 w.heap.size _ _ _ _ _ _) (by omega))).sub (fun j _ hj => by omega), hRf.but (put5 w.heap.size _ _ _ _ _ _) (by omega), hbt.own ((put5 w.heap.size _ _ _ _ _ _).below (Nat.le_refl _) hbt.size)⟩
    · have htx : fTxt (.mk 2 [] [] [] ks) ++ t = 40 :: (124 :: (fTxts ks ++ 41 :: t)) := by
        rw [fTxt]
        show 40 :: 124 :: ((fTxts ks ++ [41]) ++ t) = _
        rw [List.append_assoc]; rfl
      rw [htx] at h hlen
      have hl1 : (fTxts ks ++ 41 :: t).length ≤ 100000 := by rw [List.length_cons, List.length_cons] at hlen; omega
      go_enter Tryz.func41, Tryz.ntmps41
      go_upto_region 2 with fail
      with_reducible refine gen2g (R := fun W => Code.wp Tryz.prog _ _ _ W) ?_
      intro W hbW hszW hc1 hc2 hf1 hf2
      have B2 : Box5 W w.heap.size (.int .i64 0) (.string ⟨#[]⟩) (.string ⟨#[]⟩) (.slice none 0 0) (.slice none 0 0) := ⟨hc1 0 _ rfl, hc1 1 _ rfl, hc1 2 _ rfl, hc1 3 _ rfl, hc1 4 _ rfl, hf1, by omega⟩
      have G : Box5 W (w.heap.size + 1) (.int .i64 0) (.string ⟨#[]⟩) (.string ⟨#[]⟩) (.slice none 0 0) (.slice none 0 0) := ⟨hc2 0 _ rfl, hc2 1 _ rfl, hc2 2 _ rfl, hc2 3 _ rfl, hc2 4 _ rfl, hf2, by omega⟩
      have hR := h.later hbW
      have hbt := But.of_below hbW b
      have hs2 : w.heap.size + 2 ≤ W.heap.size := by omega
      clear hc1 hc2 hf1 hf2 hszW hbW h
      have hN : Calls Tryz.prog 74 #[.pointer (some ⟨b, 0, none⟩), .string ⟨#[40]⟩] W _ := need_any (pre := [40]) (t := 124 :: (fTxts ks ++ 41 :: t)) hR
      go_wp2_with fail
      refine hN.mono ?_
      rintro e v0 ⟨rfl, hRv0, hbq⟩
      replace B2 := B2.but hbq (by omega)
      replace G := G.but hbq (by omega)
      replace hbt := hbt.trans hbq
      replace hs2 : w.heap.size + 2 ≤ v0.heap.size := Nat.le_trans hs2 hbq.size
      clear hN hbq hR
      have hT : Calls Tryz.prog 75 #[.pointer (some ⟨b, 0, none⟩), .string ⟨#[38]⟩] v0 _ := take_no hRv0 rfl
      go_wp2_with fail
      refine hT.mono ?_
      rintro e v1 ⟨rfl, hRv1, hbq⟩
      replace B2 := B2.but hbq (by omega)
      replace G := G.but hbq (by omega)
      replace hbt := hbt.trans hbq
      replace hs2 : w.heap.size + 2 ≤ v1.heap.size := Nat.le_trans hs2 hbq.size
      clear hT hbq hRv0
      have hT : Calls Tryz.prog 75 #[.pointer (some ⟨b, 0, none⟩), .string ⟨#[124]⟩] v1 _ := take_yes hRv1 rfl (t := fTxts ks ++ 41 :: t) rfl
      go_wp2_with fail
      refine hT.mono ?_
      rintro e v2 ⟨rfl, hRv2, hbq⟩
      replace B2 := B2.but hbq (by omega)
      replace G := G.but hbq (by omega)
      replace hbt := hbt.trans hbq
      replace hs2 : w.heap.size + 2 ≤ v2.heap.size := Nat.le_trans hs2 hbq.size
      clear hT hbq hRv1
      have hK := rkids_any b d ks t v2 hd0 (by rw [List.length_append] at hl1; omega) hRv2 hl1 (fun g hg t w hr hl => ihk g hg t w (rdOks_all.1 hks g hg) hr hl)
      clear ihk
      go_wp2_with fail
      refine hK.mono ?_
      rintro e v5 ⟨A5, c5, rfl, hF5, hR5, hbq⟩
      replace B2 := B2.but hbq (by omega)
      replace G := G.but hbq (by omega)
      replace hbt := hbt.trans hbq
      have hs3 : w.heap.size + 2 ≤ v5.heap.size := Nat.le_trans hs2 hbq.size
      have hF6 := hF5.sub (Y := fun j => j < w.heap.size + 2) (fun j _ hj => by omega)
      clear hK hbq hRv2 hF5
      have g00 := G.c0
      have g04 := G.c4
      have gf0 := G.fz 0
      have gf4 := G.fz 4
      go_upto_region 10 with fail
      with_reducible refine gen_put04 (R := fun W => Code.wp Tryz.prog _ _ _ W) G ?_
      intro W9 hB9 G9 hs9
      replace B2 := B2.but hB9 (by omega)
      have hR9 := hR5.but hB9 (by omega)
      replace hbt := hbt.own (hB9.below (Nat.le_succ _) (by omega))
      have hfin := FltN.mk (f := .mk 2 [] [] [] ks) (StrsN.nil _ _) (hF6.on (Agr.but hB9 (by omega)))
      clear g00 g04 gf0 gf4 G hB9 hR5 hF6
      have G := G9
      clear G9
      have hN : Calls Tryz.prog 74 #[.pointer (some ⟨b, 0, none⟩), .string ⟨#[41]⟩] W9 _ := need_any (pre := [41]) (t := t) hR9
      go_wp2_with fail
      refine hN.mono ?_
      rintro e w10 ⟨rfl, hRf, hbq⟩
      replace B2 := B2.but hbq (by omega)
      replace G := G.but hbq (by omega)
      replace hbt := hbt.trans hbq
      replace hfin := hfin.on (Agr.but hbq (show b < w.heap.size + 2 by omega))
      clear hN hbq hR9
      obtain ⟨d0, d1, d2, d3, d4, df, dl⟩ := G
      obtain ⟨z0, z1, z2, z3, z4, zf, zl⟩ := B2
      have g0 := zf 0
      have g1 := zf 1
      have g2 := zf 2
      have g3 := zf 3
      have g4 := zf 4
      clear zf df
      go_wp2_with fail
      exact bodyPost_ret (v := .agg #[.int .i64 2, .string ⟨#[]⟩, .string ⟨#[]⟩, .slice none 0 0, .slice A5 ks.length c5]) (by simp [results, Tryz.results41, go_sem, z0, z1, z2, z3, z4, g0, g1, g2, g3, g4]) rfl ⟨_, rfl, (hfin.on (Agr.but (put5 w.heap.size _ _ _ _ _ _) (by omega))).sub (fun j _ hj => by omega), hRf.but (put5 w.heap.size _ _ _ _ _ _) (by omega), hbt.own ((put5 w.heap.size _ _ _ _ _ _).below (Nat.le_refl _) hbt.size)⟩
    · obtain ⟨g, rfl⟩ := one_kid hk1
      have htx : fTxt (.mk 3 [] [] [] [g]) ++ t = 40 :: (33 :: (fTxt g ++ 41 :: t)) := by
        rw [fTxt, fTxts, fTxts, List.append_nil]
        show 40 :: 33 :: ((fTxt g ++ [41]) ++ t) = _
        rw [List.append_assoc]; rfl
      rw [htx] at h hlen
      have hl1 : (fTxt g ++ 41 :: t).length ≤ 100000 := by rw [List.length_cons, List.length_cons] at hlen; omega
      go_enter Tryz.func41, Tryz.ntmps41
      go_upto_region 2 with fail
      with_reducible refine gen2g (R := fun W => Code.wp Tryz.prog _ _ _ W) ?_
      intro W hbW hszW hc1 hc2 hf1 hf2
      have B2 : Box5 W w.heap.size (.int .i64 0) (.string ⟨#[]⟩) (.string ⟨#[]⟩) (.slice none 0 0) (.slice none 0 0) := ⟨hc1 0 _ rfl, hc1 1 _ rfl, hc1 2 _ rfl, hc1 3 _ rfl, hc1 4 _ rfl, hf1, by omega⟩
      have G : Box5 W (w.heap.size + 1) (.int .i64 0) (.string ⟨#[]⟩) (.string ⟨#[]⟩) (.slice none 0 0) (.slice none 0 0) := ⟨hc2 0 _ rfl, hc2 1 _ rfl, hc2 2 _ rfl, hc2 3 _ rfl, hc2 4 _ rfl, hf2, by omega⟩
      have hR := h.later hbW
      have hbt := But.of_below hbW b
      have hs2 : w.heap.size + 2 ≤ W.heap.size := by omega
      clear hc1 hc2 hf1 hf2 hszW hbW h
      have hN : Calls Tryz.prog 74 #[.pointer (some ⟨b, 0, none⟩), .string ⟨#[40]⟩] W _ := need_any (pre := [40]) (t := 33 :: (fTxt g ++ 41 :: t)) hR
      go_wp2_with fail
      refine hN.mono ?_
      rintro e v0 ⟨rfl, hRv0, hbq⟩
      replace B2 := B2.but hbq (by omega)
      replace G := G.but hbq (by omega)
      replace hbt := hbt.trans hbq
      replace hs2 : w.heap.size + 2 ≤ v0.heap.size := Nat.le_trans hs2 hbq.size
      clear hN hbq hR
      have hT : Calls Tryz.prog 75 #[.pointer (some ⟨b, 0, none⟩), .string ⟨#[38]⟩] v0 _ := take_no hRv0 rfl
      go_wp2_with fail
      refine hT.mono ?_
      rintro e v1 ⟨rfl, hRv1, hbq⟩
      replace B2 := B2.but hbq (by omega)
      replace G := G.but hbq (by omega)
      replace hbt := hbt.trans hbq
      replace hs2 : w.heap.size + 2 ≤ v1.heap.size := Nat.le_trans hs2 hbq.size
      clear hT hbq hRv0
      have hT : Calls Tryz.prog 75 #[.pointer (some ⟨b, 0, none⟩), .string ⟨#[124]⟩] v1 _ := take_no hRv1 rfl
      go_wp2_with fail
      refine hT.mono ?_
      rintro e v2 ⟨rfl, hRv2, hbq⟩
      replace B2 := B2.but hbq (by omega)
      replace G := G.but hbq (by omega)
      replace hbt := hbt.trans hbq
      replace hs2 : w.heap.size + 2 ≤ v2.heap.size := Nat.le_trans hs2 hbq.size
      clear hT hbq hRv1
      have hT : Calls Tryz.prog 75 #[.pointer (some ⟨b, 0, none⟩), .string ⟨#[33]⟩] v2 _ := take_yes hRv2 rfl (t := fTxt g ++ 41 :: t) rfl
      go_wp2_with fail
      refine hT.mono ?_
      rintro e v3 ⟨rfl, hRv3, hbq⟩
      replace B2 := B2.but hbq (by omega)
      replace G := G.but hbq (by omega)
      replace hbt := hbt.trans hbq
      replace hs2 : w.heap.size + 2 ≤ v3.heap.size := Nat.le_trans hs2 hbq.size
      clear hT hbq hRv2
      have hK := ihk g List.mem_cons_self (41 :: t) v3 (rdOks_all.1 hks g List.mem_cons_self) hRv3 hl1
      clear ihk
      go_wp2_with fail
      refine hK.mono ?_
      rintro e v5 ⟨r5, rfl, hn5, hR5, hbq⟩
      obtain ⟨Ap5, cp5, Ak5, ck5, hr5⟩ := hn5.shape
      subst hr5
      replace B2 := B2.but hbq (by omega)
      replace G := G.but hbq (by omega)
      replace hbt := hbt.trans hbq
      have hs3 : w.heap.size + 2 ≤ v5.heap.size := Nat.le_trans hs2 hbq.size
      have hdd : d - 1 + 1 = d := by omega
      have hF5 := FCN.of (hn5.sub (Y := fun j => j < w.heap.size + 2) (fun j _ hj => by omega))
      rw [hdd] at hF5
      have hF6 := FltsN.one hF5 (fun j hj => by omega)
      have hal : Below v5.heap.size v5 (v5.alloc (.cells #[.int .i64 g.kind, .string (B g.name), .string (B g.value), .slice Ap5 g.parts.length cp5, .slice Ak5 g.kids.length ck5] 26)) := (Below.refl _ _).alloc (Nat.le_refl _) _
      replace B2 := B2.later hal
      replace G := G.later hal
      replace hR5 := hR5.later hal
      replace hbt := hbt.at_ hal hbt.size
      have hs4 := Nat.le_trans hs3 hal.size
      clear hK hbq hRv3 hn5 hF5 hal
      have g00 := G.c0
      have g04 := G.c4
      have gf0 := G.fz 0
      have gf4 := G.fz 4
      go_upto_region 10 with fail
      with_reducible refine gen_put04 (R := fun W => Code.wp Tryz.prog _ _ _ W) G ?_
      intro W9 hB9 G9 hs9
      replace B2 := B2.but hB9 (by omega)
      have hR9 := hR5.but hB9 (by omega)
      replace hbt := hbt.own (hB9.below (Nat.le_succ _) (by omega))
      have hfin := FltN.mk (f := .mk 3 [] [] [] [g]) (StrsN.nil _ _) (hF6.on (Agr.but hB9 (by omega)))
      clear g00 g04 gf0 gf4 G hB9 hR5 hF6
      have G := G9
      clear G9
      have hN : Calls Tryz.prog 74 #[.pointer (some ⟨b, 0, none⟩), .string ⟨#[41]⟩] W9 _ := need_any (pre := [41]) (t := t) hR9
      go_wp2_with fail
      refine hN.mono ?_
      rintro e w10 ⟨rfl, hRf, hbq⟩
      replace B2 := B2.but hbq (by omega)
      replace G := G.but hbq (by omega)
      replace hbt := hbt.trans hbq
      replace hfin := hfin.on (Agr.but hbq (show b < w.heap.size + 2 by omega))
      clear hN hbq hR9
      obtain ⟨d0, d1, d2, d3, d4, df, dl⟩ := G
      obtain ⟨z0, z1, z2, z3, z4, zf, zl⟩ := B2
      have g0 := zf 0
      have g1 := zf 1
      have g2 := zf 2
      have g3 := zf 3
      have g4 := zf 4
      clear zf df
      go_wp2_with fail
      exact bodyPost_ret (v := .agg #[.int .i64 3, .string ⟨#[]⟩, .string ⟨#[]⟩, .slice none 0 0, .slice (some ⟨v5.heap.size, 0, none⟩) 1 1]) (by simp [results, Tryz.results41, go_sem, z0, z1, z2, z3, z4, g0, g1, g2, g3, g4]) rfl ⟨_, rfl, (hfin.on (Agr.but (put5 w.heap.size _ _ _ _ _ _) (by omega))).sub (fun j _ hj => by omega), hRf.but (put5 w.heap.size _ _ _ _ _ _) (by omega), hbt.own ((put5 w.heap.size _ _ _ _ _ _).below (Nat.le_refl _) hbt.size)⟩
  · have hcmp : isCmp k = true := by unfold isCmp; rw [Bool.and_eq_true, decide_eq_true_eq, decide_eq_true_eq]; omega
    have htx : fTxt (.mk k n v ps []) ++ t = 40 :: (n ++ (tailF k v ps ++ 41 :: t)) := by
      rw [txt_cmp hcmp]
      show 40 :: ((n ++ (tailF k v ps ++ [41])) ++ t) = _
      rw [List.append_assoc, List.append_assoc]; rfl
    rw [htx] at h hlen
    have hl1 : (n ++ (tailF k v ps ++ 41 :: t)).length ≤ 100000 := by rw [List.length_cons] at hlen; omega
    have n1 := lead_no hn (.inl rfl) k v ps t
    have n2 := lead_no hn (.inr (.inl rfl)) k v ps t
    have n3 := lead_no hn (.inr (.inr rfl)) k v ps t
    go_enter Tryz.func41, Tryz.ntmps41
    go_upto_region 2 with fail
    with_reducible refine gen2g (R := fun W => Code.wp Tryz.prog _ _ _ W) ?_
    intro W hbW hszW hc1 hc2 hf1 hf2
    have B2 : Box5 W w.heap.size (.int .i64 0) (.string ⟨#[]⟩) (.string ⟨#[]⟩) (.slice none 0 0) (.slice none 0 0) := ⟨hc1 0 _ rfl, hc1 1 _ rfl, hc1 2 _ rfl, hc1 3 _ rfl, hc1 4 _ rfl, hf1, by omega⟩
    have G : Box5 W (w.heap.size + 1) (.int .i64 0) (.string ⟨#[]⟩) (.string ⟨#[]⟩) (.slice none 0 0) (.slice none 0 0) := ⟨hc2 0 _ rfl, hc2 1 _ rfl, hc2 2 _ rfl, hc2 3 _ rfl, hc2 4 _ rfl, hf2, by omega⟩
    have hR := h.later hbW
    have hbt := But.of_below hbW b
    have hs2 : w.heap.size + 2 ≤ W.heap.size := by omega
    clear hc1 hc2 hf1 hf2 hszW hbW h
    have hN : Calls Tryz.prog 74 #[.pointer (some ⟨b, 0, none⟩), .string ⟨#[40]⟩] W _ := need_any (pre := [40]) (t := n ++ (tailF k v ps ++ 41 :: t)) hR
    go_wp2_with fail
    refine hN.mono ?_
    rintro e v0 ⟨rfl, hRv0, hbq⟩
    replace B2 := B2.but hbq (by omega)
    replace G := G.but hbq (by omega)
    replace hbt := hbt.trans hbq
    replace hs2 : w.heap.size + 2 ≤ v0.heap.size := Nat.le_trans hs2 hbq.size
    clear hN hbq hR
    have hT : Calls Tryz.prog 75 #[.pointer (some ⟨b, 0, none⟩), .string ⟨#[38]⟩] v0 _ := take_no hRv0 n1
    go_wp2_with fail
    refine hT.mono ?_
    rintro e v1 ⟨rfl, hRv1, hbq⟩
    replace B2 := B2.but hbq (by omega)
    replace G := G.but hbq (by omega)
    replace hbt := hbt.trans hbq
    replace hs2 : w.heap.size + 2 ≤ v1.heap.size := Nat.le_trans hs2 hbq.size
    clear hT hbq hRv0
    have hT : Calls Tryz.prog 75 #[.pointer (some ⟨b, 0, none⟩), .string ⟨#[124]⟩] v1 _ := take_no hRv1 n2
    go_wp2_with fail
    refine hT.mono ?_
    rintro e v2 ⟨rfl, hRv2, hbq⟩
    replace B2 := B2.but hbq (by omega)
    replace G := G.but hbq (by omega)
    replace hbt := hbt.trans hbq
    replace hs2 : w.heap.size + 2 ≤ v2.heap.size := Nat.le_trans hs2 hbq.size
    clear hT hbq hRv1
    have hT : Calls Tryz.prog 75 #[.pointer (some ⟨b, 0, none⟩), .string ⟨#[33]⟩] v2 _ := take_no hRv2 n3
    go_wp2_with fail
    refine hT.mono ?_
    rintro e v3 ⟨rfl, hRv3, hbq⟩
    replace B2 := B2.but hbq (by omega)
    replace G := G.but hbq (by omega)
    replace hbt := hbt.trans hbq
    replace hs2 : w.heap.size + 2 ≤ v3.heap.size := Nat.le_trans hs2 hbq.size
    clear hT hbq hRv2
    have hK := rcomp_any b d k n v ps t v3 hn hkk hRv3 hl1
    clear ihk n1 n2 n3
    go_wp2_with fail
    refine hK.mono ?_
    rintro e v5 ⟨r5, rfl, hn5, hR5, hbq⟩
    obtain ⟨Ap5, cp5, Ak5, ck5, hr5⟩ := hn5.shape
    subst hr5
    replace B2 := B2.but hbq (by omega)
    replace G := G.but hbq (by omega)
    replace hbt := hbt.trans hbq
    have hs3 : w.heap.size + 2 ≤ v5.heap.size := Nat.le_trans hs2 hbq.size
    have hF6 := hn5.sub (Y := fun j => j < w.heap.size + 2) (fun j _ hj => by omega)
    clear hK hbq hRv3 hn5
    have q0 := G.c0
    have q1 := G.c1
    have q2 := G.c2
    have q3 := G.c3
    have q4 := G.c4
    have f0 := G.fz 0
    have f1 := G.fz 1
    have f2 := G.fz 2
    have f3 := G.fz 3
    have f4 := G.fz 4
    go_upto_region 10 with fail
    with_reducible refine gen_put5 (R := fun W => Code.wp Tryz.prog _ _ _ W) G ?_
    intro W9 hB9 G9 hs9
    replace B2 := B2.but hB9 (by omega)
    have hR9 := hR5.but hB9 (by omega)
    replace hbt := hbt.own (hB9.below (Nat.le_succ _) (by omega))
    have hfin := hF6.on (Agr.but hB9 (by omega))
    clear q0 q1 q2 q3 q4 f0 f1 f2 f3 f4 G hB9 hR5 hF6
    have G := G9
    clear G9
    have hN : Calls Tryz.prog 74 #[.pointer (some ⟨b, 0, none⟩), .string ⟨#[41]⟩] W9 _ := need_any (pre := [41]) (t := t) hR9
    go_wp2_with fail
    refine hN.mono ?_
    rintro e w10 ⟨rfl, hRf, hbq⟩
    replace B2 := B2.but hbq (by omega)
    replace G := G.but hbq (by omega)
    replace hbt := hbt.trans hbq
    replace hfin := hfin.on (Agr.but hbq (show b < w.heap.size + 2 by omega))
    clear hN hbq hR9
    obtain ⟨d0, d1, d2, d3, d4, df, dl⟩ := G
    obtain ⟨z0, z1, z2, z3, z4, zf, zl⟩ := B2
    have g0 := zf 0
    have g1 := zf 1
    have g2 := zf 2
    have g3 := zf 3
    have g4 := zf 4
    clear zf df
    go_wp2_with fail
    exact bodyPost_ret (v := .agg #[.int .i64 (Flt.mk k n v ps []).kind, .string (B (Flt.mk k n v ps []).name), .string (B (Flt.mk k n v ps []).value), .slice Ap5 (Flt.mk k n v ps []).parts.length cp5, .slice Ak5 (Flt.mk k n v ps []).kids.length ck5]) (by simp [results, Tryz.results41, go_sem, z0, z1, z2, z3, z4, g0, g1, g2, g3, g4]) rfl ⟨_, rfl, (hfin.on (Agr.but (put5 w.heap.size _ _ _ _ _ _) (by omega))).sub (fun j _ hj => by omega), hRf.but (put5 w.heap.size _ _ _ _ _ _) (by omega), hbt.own ((put5 w.heap.size _ _ _ _ _ _).below (Nat.le_refl _) hbt.size)⟩
end Go.Proofs.YtmamnmjfbadiiaaGreatDoor
/- filter: Parse of a text that is read back. -/
namespace Go.Proofs.YtmamnmjfbadiiaaGreatDoor
open Go.RowKit Go.Sort
open Idn (L B Bs drop_L take_L size_L)
def F00 : Flt := .mk 0 [] [] [] []
def RetPF (w : World) (d : Nat) (f : Flt) (e : Ending) (w' : World) : Prop := ∃ r, e = .returned (.tuple #[r, .int .i64 (fCheck f)]) ∧ FltN (fun k => k < w.heap.size) w' d r (if fCheck f = 0 then f else F00) ∧ Below w.heap.size w w'
theorem fParse_any (f : Flt) (s : ByteArray) (w : World) (hs : s = B (fTxt f)) (hok : rdOk f) (hsm : FSm 1000 f) (hl : (fTxt f).length ≤ 4096) :
    Calls Tryz.prog 18 #[.string s] w (RetPF w (fDep f) f) := by
  subst hs
  have kF := fun (b : Nat) (w : World) (h : RdAt w b (fTxt f ++ [])) => rfilter_any f hok (fDep f) (Nat.le_refl _) [] b w h (by rw [List.append_nil]; omega)
  have kC := fun (d : Nat) (v : Value) (w : World) (h : FltV w w.heap.size d v f) => fCheck_any d v f w h hsm
  have hz := Idn.size_B (fTxt f)
  have hlI : ¬ (4096 : Int) < ((B (fTxt f)).size : Int) := by omega
  rw [List.append_nil] at kF
  generalize fTxt f = tx at *
  generalize fDep f = D at *
  clear hz hl
  have HQ : Hid (RetPF w D f = fun e w' => ∃ r, e = .returned (.tuple #[r, .int .i64 (fCheck f)]) ∧ FltN (fun k => k < w.heap.size) w' D r (if fCheck f = 0 then f else F00) ∧ Below w.heap.size w w') := rfl
  generalize RetPF w D f = Q at *
  generalize fCheck f = ec at *
  go_enter Tryz.func18, Tryz.ntmps18
  go_upto_region 1 with fail
  with_reducible refine gen1 (R := fun W => Code.wp Tryz.prog _ _ _ W) ?_
  intro W hbW hszW hc hf
  have B2 : Box5 W w.heap.size (.int .i64 0) (.string ⟨#[]⟩) (.string ⟨#[]⟩) (.slice none 0 0) (.slice none 0 0) := ⟨hc 0 _ rfl, hc 1 _ rfl, hc 2 _ rfl, hc 3 _ rfl, hc 4 _ rfl, hf, by omega⟩
  have HW := Lib.hid hszW
  clear hc hf hszW
  go_upto_region 4 with fail
  with_reducible refine gen1 (R := fun W => Code.wp Tryz.prog _ _ _ W) ?_
  intro W1 hbW1 hszW1 hc1 hf1
  have hR : RdAt W1 W.heap.size tx := ⟨hc1 0 _ rfl, hc1 1 _ rfl, hf1 0, hf1 1, by omega⟩
  replace B2 := B2.later hbW1
  have hb := hbW.trans (hbW1.mono hbW.size)
  have hcall := kF W.heap.size W1 hR
  have hs1 : w.heap.size + 2 ≤ W1.heap.size := by have := HW.out; omega
  clear hc1 hf1 hszW1 hbW hbW1 kF hR
  go_wp2_with fail
  refine hcall.mono ?_
  rintro e w2 ⟨r2, rfl, hn2, hR2, hbq⟩
  obtain ⟨A3, k3, A4, k4, hr2⟩ := hn2.shape
  subst hr2
  have hW2 := HW.out
  replace B2 := B2.but hbq (by omega)
  replace hb : Below w.heap.size w w2 := hb.trans (hbq.below (by omega) (by omega))
  have hs2 : w.heap.size + 2 ≤ w2.heap.size := Nat.le_trans hs1 hbq.size
  clear hcall hbq hW2
  go_upto_region 5 with fail
  with_reducible refine gen1 (R := fun W => Code.wp Tryz.prog _ _ _ W) ?_
  intro W3 hbW3 hszW3 hc3 _
  have y0 : W3.cell? ⟨w2.heap.size, 0, none⟩ = some (.int .i64 f.kind) := hc3 0 _ rfl
  have y1 : W3.cell? ⟨w2.heap.size, 1, none⟩ = some (.string (B f.name)) := hc3 1 _ rfl
  have y2 : W3.cell? ⟨w2.heap.size, 2, none⟩ = some (.string (B f.value)) := hc3 2 _ rfl
  have y3 : W3.cell? ⟨w2.heap.size, 3, none⟩ = some (.slice A3 f.parts.length k3) := hc3 3 _ rfl
  have y4 : W3.cell? ⟨w2.heap.size, 4, none⟩ = some (.slice A4 f.kids.length k4) := hc3 4 _ rfl
  replace B2 := B2.later hbW3
  have hR3 := hR2.later hbW3
  have r0 := hR3.r0
  have r1 := hR3.r1
  replace hb := hb.trans (hbW3.mono hb.size)
  have hn3 := (hn2.sub (Y := fun k => k < w.heap.size + 1) (fun j _ hj => by omega)).on (Agr.later hbW3)
  have hC := kC D _ W3 hn3.now
  have hs3 : w.heap.size + 2 ≤ W3.heap.size := Nat.le_trans hs2 hbW3.size
  have e0 : (B []).toList.isEmpty = true := by rw [toList_L]; rfl
  have e1 : (B []) = ⟨#[]⟩ := rfl
  rw [e1] at r0
  clear hc3 hszW3 hbW3 hR2 hn2 kC hR3 e0 e1
  go_wp2_with fail
  refine hC.mono ?_
  rintro e w4 ⟨rfl, hb4⟩
  replace y0 := cell_later hb4 y0
  replace y1 := cell_later hb4 y1
  replace y2 := cell_later hb4 y2
  replace y3 := cell_later hb4 y3
  replace y4 := cell_later hb4 y4
  replace B2 := B2.later hb4
  have hfin := hn3.on (Agr.later hb4)
  replace hb := hb.trans (hb4.mono hb.size)
  clear hC hn3 hb4 r0 r1
  obtain ⟨z0, z1, z2, z3, z4, zf, zl⟩ := B2
  have g0 := zf 0
  have g1 := zf 1
  have g2 := zf 2
  have g3 := zf 3
  have g4 := zf 4
  clear zf
  by_cases hec : ec = 0
  · subst hec
    go_wp2_with fail
    exact bodyPost_ret (v := .tuple #[.agg #[.int .i64 f.kind, .string (B f.name), .string (B f.value), .slice A3 f.parts.length k3, .slice A4 f.kids.length k4], .int .i64 0]) (by simp [results, Tryz.results18, go_sem, z0, z1, z2, z3, z4, g0, g1, g2, g3, g4]) rfl (by
      rw [HQ.out]
      exact ⟨_, rfl, by (first | rw [if_pos rfl] | rw [if_pos trivial]); exact (hfin.on (Agr.but (put5 w.heap.size _ _ _ _ _ _) (by omega))).sub (fun j _ hj => by omega), hb.trans ((put5 w.heap.size _ _ _ _ _ _).below (Nat.le_refl _) hb.size)⟩)
  · have hI : (ec != 0) = true := by simpa using hec
    have HE := Lib.hid hec
    clear hec
    go_wp2_with fail
    exact bodyPost_ret (v := .tuple #[.agg #[.int .i64 0, .string ⟨#[]⟩, .string ⟨#[]⟩, .slice none 0 0, .slice none 0 0], .int .i64 ec]) (by simp [results, Tryz.results18, go_sem, z0, z1, z2, z3, z4, g0, g1, g2, g3, g4]) rfl (by
      rw [HQ.out]
      exact ⟨_, rfl, by rw [if_neg HE.out]; exact FltN.mk (f := F00) (StrsN.nil _ _) (FltsN.nil _ _ _), hb.trans ((put5 w.heap.size _ _ _ _ _ _).below (Nat.le_refl _) hb.size)⟩)
end Go.Proofs.YtmamnmjfbadiiaaGreatDoor
