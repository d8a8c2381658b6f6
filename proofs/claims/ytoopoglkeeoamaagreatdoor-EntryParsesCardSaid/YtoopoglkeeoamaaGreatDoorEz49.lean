/- Part 49 of the proof that identitylaw08.EntryParses and EntryReturns return true: the package variables hold what the program lays; nothing else is asked. -/
import Derived.Test.YtoopoglkeeoamaaGreatDoorEz24
import Derived.Test.YtoopoglkeeoamaaGreatDoorEz37
import Derived.Test.YtoopoglkeeoamaaGreatDoorEz39
import Derived.Test.YtoopoglkeeoamaaGreatDoorEz41
import Derived.Test.YtoopoglkeeoamaaGreatDoorEz42
import Derived.Test.YtoopoglkeeoamaaGreatDoorEz44
import Derived.Test.YtoopoglkeeoamaaGreatDoorEz47
import Derived.Test.YtoopoglkeeoamaaGreatDoorEz48
set_option linter.unusedVariables false
set_option linter.unusedSimpArgs false
/- identityref08: has, minus, normals. -/
namespace Go.Proofs.YtoopoglkeeoamaaGreatDoor
open Go.RowKit Go.Sort
open Idn (L B Bs drop_L take_L size_L)
end Go.Proofs.YtoopoglkeeoamaaGreatDoor
/- identityref08: Normal. -/
namespace Go.Proofs.YtoopoglkeeoamaaGreatDoor
open Go.RowKit Go.Sort
open Idn (L B Bs drop_L take_L size_L)
/-- an entry that reads, and an error -/
def RetEv (w : World) (r : En × Int) (e : Ending) (w' : World) : Prop :=
  ∃ a ps, e = .returned (.tuple #[.agg #[.string (B r.1.1), a], .int .i64 r.2]) ∧ AttRow w' w.heap.size a ps ∧ ps.map (·.1) = r.1.2 ∧ Below w.heap.size w w'
end Go.Proofs.YtoopoglkeeoamaaGreatDoor
/- identityref08: Parse. -/
namespace Go.Proofs.YtoopoglkeeoamaaGreatDoor
open Go.RowKit Go.Sort
open Idn (L B Bs drop_L take_L size_L)
theorem AttOwn.put8 {w w' : World} {base : Nat} {g n cap : Nat} {ps : List (Idn.Att × Value)} {i : Nat} {p : Idn.Att × Value} {u' : Value} {vals : List Bs} (h : AttOwn w base (.slice (some ⟨g, 0, none⟩) n cap) ps) (hi : ps[i]? = some p)
    (hown : w'.ownsRow base 9 1 u' vals.length (vals.map sv)) (hg : w.grownBy w' p.2.ownBlock) (hat : u'.ownBlock = p.2.ownBlock ∨ ∃ m, u'.ownBlock = some m ∧ w.heap.size ≤ m) :
    w'.cell? ⟨g, i * 2 + 1, none⟩ = some p.2 ∧ w'.frozen? ⟨g, i * 2 + 1, none⟩ = false ∧ AttOwn (w'.setCell ⟨g, i * 2 + 1, none⟩ u') base (.slice (some ⟨g, 0, none⟩) n cap) (ps.set i (⟨p.1.name, vals⟩, u')) := by
  have hil := (List.getElem?_eq_some_iff.1 hi).1
  have hpm := List.mem_of_getElem? hi
  have hnn : n = ps.length := by
    rcases h.1.2 with ⟨hn, _⟩ | ⟨g', cap', cur, hv, _⟩
    · cases hn
    · injection hv
  subst hnn
  have h1 := own_kept h.1 hg fun k hk hk' => own_apart h.1 (h.2.1 p hpm) (by decide) k hk hk'
  have e : ∀ j, ((⟨g, 0, none⟩ : Addr).add j) = ⟨g, j, none⟩ := fun j => by unfold Addr.add; split <;> simp_all
  have hc := fun j u hj => (e j) ▸ h1.cells (g := g) rfl j u hj
  have hblk : ∀ k, (Value.slice (some ⟨g, 0, none⟩) ps.length cap).ownBlock = some k → k = g := fun k hk => by simp [Value.ownBlock] at hk; exact hk.symm
  have hsep : ∀ q ∈ ps, q.2.ownBlock ≠ some g := fun q hq hx => own_apart h.1 (h.2.1 q hq) (by decide) g rfl hx
  have hu'g : u'.ownBlock ≠ some g := fun hx => own_apart h1 hown (by decide) g rfl hx
  refine ⟨hc _ _ (rowA_at ps i p hi).2, ?_, ?_, ?_, ?_⟩
  · rcases h1.2 with ⟨hn, _⟩ | ⟨g', cap', cur, hv, _, hgg, _⟩
    · cases hn
    · injection hv with hv1
      injection hv1 with hv1
      injection hv1 with hv1
      subst hv1
      exact Lib.frozen_of_heap hgg _
  · rw [List.length_set, rowA_set ps i p ⟨p.1.name, vals⟩ u' hi rfl]
    exact own_set h1 (i * 2 + 1) (by omega) u'
  · intro q hq
    obtain ⟨j, hj, rfl⟩ := List.getElem_of_mem hq
    rw [List.length_set] at hj
    rw [List.getElem_set]
    by_cases hij : i = j
    · rw [if_pos hij]
      exact ownsRow_setCell_other hown (a := ⟨g, i * 2 + 1, none⟩) hu'g u'
    · rw [if_neg hij]
      have hq' := List.getElem_mem hj
      refine ownsRow_setCell_other (own_kept (h.2.1 _ hq') hg fun k hk hk' => ?_) (a := ⟨g, i * 2 + 1, none⟩) (hsep _ hq') u'
      have := AttOwn.apart h.2.2 hil hj hij
      rw [(List.getElem?_eq_some_iff.1 hi).2] at this
      exact this k hk' hk
  · rw [List.pairwise_iff_getElem]
    intro a b ha hb hab
    rw [List.length_set] at ha hb
    have key : ∀ j (hj : j < ps.length), i ≠ j → Apart (⟨p.1.name, vals⟩, u') ps[j] := fun j hj hij k hk => by
      rcases hat with hat | ⟨m, hat, hmm⟩
      · have := AttOwn.apart h.2.2 hil hj hij
        rw [(List.getElem?_eq_some_iff.1 hi).2] at this
        exact this k (by rw [← hat]; exact hk)
      · have hk' : m = k := by have := hat.symm.trans hk; injection this
        intro hx
        have := own_lt (h.2.1 _ (List.getElem_mem hj)) hx
        omega
    rw [List.getElem_set, List.getElem_set]
    by_cases ia : i = a
    · rw [if_pos ia, if_neg (by omega)]
      exact key b hb (by omega)
    · rw [if_neg ia]
      by_cases ib : i = b
      · rw [if_pos ib]
        exact Apart.symm (key a ha (by omega))
      · rw [if_neg ib]
        exact AttOwn.apart h.2.2 ha hb (by omega)
theorem fld_none {l : Bs} (h : (fldV l).2.2 = false) : rField l = none := by
  unfold fldV at h
  unfold rField
  cases hf : Idn.fstC 32 l with
  | none => rfl
  | some i => rw [hf] at h; cases h
theorem fld_some {l : Bs} (h : (fldV l).2.2 = true) : rField l = (unesc (fldV l).2.1).map fun v => ((fldV l).1, v) := by
  unfold fldV at h ⊢
  unfold rField
  cases hf : Idn.fstC 32 l with
  | none => rw [hf] at h; cases h
  | some i => rfl
theorem optE_ok {o : Option Bs} (h : (optE o).2 = 0) : o = some (optE o).1 := by
  cases o with
  | none => simp [optE] at h
  | some v => rfl
theorem optE_bad {o : Option Bs} (h : (optE o).2 ≠ 0) : o = none := by
  cases o with
  | none => rfl
  | some v => simp [optE] at h
theorem fld_len (l : Bs) : (fldV l).1.length ≤ l.length ∧ (fldV l).2.1.length ≤ l.length := by
  unfold fldV
  cases Idn.fstC 32 l with
  | none => simp
  | some i => refine ⟨?_, ?_⟩ <;> simp; omega
/-- what is still to be read, with what has been -/
def rdFrom (nm : Bs) (acc : List Idn.Att) (ls : List Bs) : Option En := (rAttsK acc ls).map fun x => (nm, x)
theorem rd_none' {nm : Bs} {acc : List Idn.Att} {l : Bs} {ls : List Bs} (h : rField l = none) : rdFrom nm acc (l :: ls) = none := by unfold rdFrom; rw [rAttsK, h]; rfl
theorem rd_some' {nm : Bs} {acc : List Idn.Att} {l : Bs} {ls : List Bs} {a v : Bs} (h : rField l = some (a, v)) : rdFrom nm acc (l :: ls) = rdFrom nm (rPut acc a v) ls := by unfold rdFrom; rw [rAttsK, h]
theorem rRead_none {l : Bs} {ls : List Bs} (h : rField l = none) : rRead (l :: ls) = none := by rw [rRead, h]
theorem rRead_some {l : Bs} {ls : List Bs} {a v : Bs} (h : rField l = some (a, v)) : rRead (l :: ls) = rdFrom v [] ls := by rw [rRead, h]; rfl
theorem rPut_same {l : List Idn.Att} {a : Idn.Att} (h : l.getLast? = some a) (n v : Bs) (hn : a.name = n) : rPut l n v = l.dropLast ++ [⟨a.name, a.vals ++ [v]⟩] := by unfold rPut; rw [h]; exact if_pos hn
theorem rPut_other {l : List Idn.Att} {a : Idn.Att} (h : l.getLast? = some a) (n v : Bs) (hn : a.name ≠ n) : rPut l n v = l ++ [⟨n, [v]⟩] := by unfold rPut; rw [h]; exact if_neg hn
theorem rEParse_unf (s : Bs) : rEParse s = match rRead (Idn.cutC 10 s).dropLast with
  | none => (([], []), 4)
  | some e => if rEText e.1 e.2 = (s, 0) then (e, 0) else (([], []), 4) := rfl
theorem set_last {α : Type} : ∀ (l : List α) (m : Nat) (b : α), l.length = m + 1 → l.set m b = l.dropLast ++ [b]
  | [], m, b, h => by simp at h
  | [_], 0, b, _ => rfl
  | [_], m + 1, b, h => by simp at h
  | _ :: _ :: _, 0, b, h => by simp at h
  | x :: y :: l, m + 1, b, h => by
    have := set_last (y :: l) m b (by simpa using h)
    show x :: (y :: l).set m b = x :: ((y :: l).dropLast ++ [b])
    rw [this]
theorem map_last {α β : Type} (xs : List (α × β)) (m : Nat) (h : xs.length = m + 1) (hm : m < xs.length) : (xs.map (·.1)).getLast? = some xs[m].1 := by
  rw [List.getLast?_eq_getElem?, List.length_map, h]
  simp [hm]
set_option maxHeartbeats 4000000 in
set_option maxRecDepth 100000 in
theorem r8_Parse_any (x : ByteArray) (w : World) (hx : x.size ≤ 100000000) :
    Calls Tryz.prog 33 #[.string x] w (RetEv w (rEParse (L x))) := by
  have hCu := fun W => r8_cut_any x W (by omega)
  have HR := Lib.hid (rEParse_unf (L x))
  have hqa : ∀ l ∈ (Idn.cutC 10 (L x)).dropLast, l.length ≤ x.size := fun l hl => by
    have := (Idn.cutC_len 10 (L x)).2 l (List.dropLast_subset _ hl)
    rw [size_L]; exact this
  have hqn : (Idn.cutC 10 (L x)).dropLast.length ≤ x.size := by
    have := (Idn.cutC_len 10 (L x)).1
    rw [List.length_dropLast, size_L]; omega
  generalize rEParse (L x) = r at *
  generalize (Idn.cutC 10 (L x)).dropLast = q at *
  have HQL := Lib.hid hqa
  clear hqa
  go_enter Tryz.func33, Tryz.ntmps33
  go_upto_region 2 with fail
  with_reducible refine gen2g (R := fun W => Code.wp Tryz.prog _ _ _ W) ?_
  intro W hbW hszW hc1 hc2 hf1 hf2
  have z0 : W.cell? ⟨w.heap.size, 0, none⟩ = some (.string ⟨#[]⟩) := hc1 0 _ rfl
  have z1 : W.cell? ⟨w.heap.size, 1, none⟩ = some (.slice none 0 0) := hc1 1 _ rfl
  have e0 : W.cell? ⟨w.heap.size + 1, 0, none⟩ = some (.string (B [])) := hc2 0 _ rfl
  have e1 : W.cell? ⟨w.heap.size + 1, 1, none⟩ = some (.slice none 0 0) := hc2 1 _ rfl
  have g0 := hf1 0
  have g1 := hf1 1
  have k0 := hf2 0
  have k1 := hf2 1
  have hzW : w.heap.size < W.heap.size := by omega
  have heW : w.heap.size + 1 < W.heap.size := by omega
  clear hc1 hc2 hf1 hf2 hszW
  go_wp2_with fail
  refine (hCu W).mono ?_
  rintro e w1 ⟨v1, rfl, hqr, hb1⟩
  obtain ⟨Aq, cq, hv1⟩ := own_shape hqr
  subst hv1
  have hws1 := hb1.size
  replace z0 := cell_later hb1 z0
  replace z1 := cell_later hb1 z1
  replace e0 := cell_later hb1 e0
  replace e1 := cell_later hb1 e1
  replace g0 := (hb1.frozen (p := ⟨w.heap.size, 0, none⟩) hzW).trans g0
  replace g1 := (hb1.frozen (p := ⟨w.heap.size, 1, none⟩) hzW).trans g1
  replace k0 := (hb1.frozen (p := ⟨w.heap.size + 1, 0, none⟩) heW).trans k0
  replace k1 := (hb1.frozen (p := ⟨w.heap.size + 1, 1, none⟩) heW).trans k1
  have hbw1 := hbW.trans (hb1.mono hbW.size)
  have he1w : w.heap.size + 1 < w1.heap.size := by omega
  have hz1w : w.heap.size < w1.heap.size := by omega
  have HQLT : Hid (∀ g, (Value.slice Aq q.length cq).ownBlock = some g → g < w1.heap.size) := fun g e => own_lt hqr e
  clear hCu hbW hb1
  go_wp2_with fail
  go_loopw [6] (fun i wr => ∃ (k : Nat) (av : Value) (xs : List (Idn.Att × Value)) (nm : Bs), k ≤ q.length ∧ i = .int .i64 k ∧ AttOwn wr w1.heap.size av xs ∧ wr.ownsRow W.heap.size 9 1 (.slice Aq q.length cq) q.length (q.map sv) ∧ Below (w.heap.size + 1) w1 wr ∧ wr.cell? ⟨w.heap.size + 1, 0, none⟩ = some (.string (B nm)) ∧ wr.cell? ⟨w.heap.size + 1, 1, none⟩ = some av ∧ wr.frozen? ⟨w.heap.size + 1, 0, none⟩ = false ∧ wr.frozen? ⟨w.heap.size + 1, 1, none⟩ = false ∧ Hid (k = 0 → xs = [] ∧ nm = []) ∧ Hid (0 < k → rRead q = rdFrom nm (xs.map (·.1)) (q.drop k)) ∧ Hid (∀ a ∈ xs.map (·.1), a.name.length ≤ x.size ∧ a.vals.length ≤ k ∧ ∀ y ∈ a.vals, y.length ≤ x.size) ∧ Hid (nm.length ≤ x.size) ∧ xs.length ≤ k) (fun i _ => q.length - (intOf i).toNat)
  case atStart => exact ⟨0, .slice none 0 0, [], [], Nat.zero_le _, rfl, AttOwn.nil _ _, hqr, Below.refl _ _, e0, e1, k0, k1, fun _ => ⟨rfl, rfl⟩, fun h => absurd h (Nat.lt_irrefl 0), fun a ha => (by cases ha), Nat.zero_le _, Nat.le_refl _⟩
  case round =>
    obtain ⟨k, av, xs, nm, hk, rfl, hA, hQ, hb, p0, p1, f0, f1, H0, HD, HS, HNL, hxl⟩ := hrel
    obtain ⟨Ax, cx, hav⟩ := own_shape hA.1
    subst hav
    have hwr := hb.size
    have hbw := hbw1.trans (hb.mono (Nat.le_succ _))
    replace z0 := (hb.cell (p := ⟨w.heap.size, 0, none⟩) (Nat.lt_succ_self _)).trans z0
    replace z1 := (hb.cell (p := ⟨w.heap.size, 1, none⟩) (Nat.lt_succ_self _)).trans z1
    replace g0 := (hb.frozen (p := ⟨w.heap.size, 0, none⟩) (Nat.lt_succ_self _)).trans g0
    replace g1 := (hb.frozen (p := ⟨w.heap.size, 1, none⟩) (Nat.lt_succ_self _)).trans g1
    obtain ⟨wo, hwo⟩ : ∃ wo : World, wo = wr := ⟨_, rfl⟩
    subst hwo
    have hWo : W.heap.size ≤ wo.heap.size := by omega
    have hzo : w.heap.size < wo.heap.size := by omega
    have heo : w.heap.size + 1 < wo.heap.size := by omega
    clear e0 e1 k0 k1 hqr
    by_cases hlt : k < q.length
    · have hltI : (k : Int) < (q.length : Int) := by omega
      obtain ⟨gq, hAq, hcq⟩ := own_open hQ (by omega)
      have n0 : wo.cell? ⟨gq, k, none⟩ = some (.string (B q[k])) := hcq k _ (by rw [List.getElem?_map, List.getElem?_eq_getElem hlt]; rfl)
      subst hAq
      have hqk := HQL.out q[k] (List.getElem_mem hlt)
      have hF := r8_fields_any (B q[k]) wo (by rw [Idn.size_B]; omega)
      rw [Idn.L_B] at hF
      obtain ⟨hl1, hl2⟩ := fld_len q[k]
      have HN : Hid ((fldV q[k]).2.2 = false → rField q[k] = none) := fld_none
      have HSm : Hid ((fldV q[k]).2.2 = true → rField q[k] = (unesc (fldV q[k]).2.1).map fun v => ((fldV q[k]).1, v)) := fld_some
      have hdk : q.drop k = q[k] :: q.drop (k + 1) := List.drop_eq_getElem_cons hlt
      have HNo : Hid (rField q[k] = none → rRead q = none) := fun h => by
        by_cases h0 : k = 0
        · have e : q = q[k] :: q.drop (k + 1) := by rw [← hdk, h0]; rfl
          rw [e]; exact rRead_none h
        · rw [HD.out (by omega), hdk]; exact rd_none' h
      have HYes : Hid (∀ a v, rField q[k] = some (a, v) → (k = 0 → rRead q = rdFrom v (xs.map (·.1)) (q.drop (k + 1))) ∧ (k ≠ 0 → rRead q = rdFrom nm (rPut (xs.map (·.1)) a v) (q.drop (k + 1)))) := fun a v h => ⟨fun h0 => by
        have e : q = q[k] :: q.drop (k + 1) := by rw [← hdk, h0]; rfl
        rw [(H0.out h0).1]
        have h2 := rRead_some (ls := q.drop (k + 1)) h
        rw [← e] at h2; exact h2, fun h0 => by rw [HD.out (by omega), hdk]; exact rd_some' h⟩
      clear hdk hcq HD
      generalize fldV q[k] = fv at *
      obtain ⟨a, b, ok⟩ := fv
      dsimp only at hF hl1 hl2
      have hU := fun W' => r2_unescape_any (B b) W' (by rw [Idn.size_B]; omega)
      rw [Idn.L_B] at hU
      have hvl := optE_len b
      have HO : Hid ((optE (unesc b)).2 = 0 → unesc b = some (optE (unesc b)).1) := optE_ok
      have HB : Hid ((optE (unesc b)).2 ≠ 0 → unesc b = none) := optE_bad
      generalize optE (unesc b) = ov at *
      obtain ⟨val, er⟩ := ov
      dsimp only at hU hvl
      have HVL : Hid (val.length ≤ x.size) := by show _ ≤ _; omega
      have HAL : Hid (a.length ≤ x.size) := by show _ ≤ _; omega
      generalize rField q[k] = rf at *
      generalize B q[k] = ql at *
      clear hl1 hl2 hvl hqk
      go_wp2_with fail
      refine hF.mono ?_
      rintro e w2 ⟨rfl, hb2⟩
      have hU2 := hU w2
      clear hF hU n0
      go_wp2_with fail
      refine hU2.mono ?_
      rintro e w3 ⟨rfl, hb3⟩
      have hb23 := hb2.trans (hb3.mono hb2.size)
      replace p0 := cell_later hb23 p0
      replace p1 := cell_later hb23 p1
      replace z0 := cell_later hb23 z0
      replace z1 := cell_later hb23 z1
      replace f0 := (hb23.frozen (p := ⟨w.heap.size + 1, 0, none⟩) heo).trans f0
      replace f1 := (hb23.frozen (p := ⟨w.heap.size + 1, 1, none⟩) heo).trans f1
      replace g0 := (hb23.frozen (p := ⟨w.heap.size, 0, none⟩) hzo).trans g0
      replace g1 := (hb23.frozen (p := ⟨w.heap.size, 1, none⟩) hzo).trans g1
      replace hA := hA.keep hb23
      replace hQ := own_below hQ hb23
      replace hb := hb.trans (hb23.mono (by omega))
      have hbw3 := hbw.trans (hb23.mono hbw.size)
      have hw23 := hb23.size
      clear hU2 hb2 hb3 hb23 hbw
      cases ok
      case false =>
        have HF : Hid (r = (([], []), 4)) := by show _ = _; rw [HR.out, HNo.out (HN.out rfl)]
        clear HR HN HSm HNo HYes HO HB hA hQ
        go_wp2_with fail
        exact bodyPost_ret (v := .tuple #[.agg #[.string ⟨#[]⟩, .slice none 0 0], .int .i64 4]) (by simp [results, Tryz.results33, go_sem, z0, z1, g0, g1]) rfl ⟨_, [], by rw [HF.out] <;> rfl, AttRow.nil _ _, by rw [HF.out] <;> rfl, (hbw3.setCell (p := ⟨w.heap.size, 0, none⟩) (Nat.le_refl _) _).setCell (p := ⟨w.heap.size, 1, none⟩) (Nat.le_refl _) _⟩
      by_cases her : er = 0
      case neg =>
        have hI : (er != 0) = true := by simpa using her
        have HF : Hid (r = (([], []), 4)) := by show _ = _; rw [HR.out, HNo.out (by rw [HSm.out rfl, HB.out her]; rfl)]
        clear HR HN HSm HNo HYes HO HB hA hQ her
        go_wp2_with fail
        exact bodyPost_ret (v := .tuple #[.agg #[.string ⟨#[]⟩, .slice none 0 0], .int .i64 4]) (by simp [results, Tryz.results33, go_sem, z0, z1, g0, g1]) rfl ⟨_, [], by rw [HF.out] <;> rfl, AttRow.nil _ _, by rw [HF.out] <;> rfl, (hbw3.setCell (p := ⟨w.heap.size, 0, none⟩) (Nat.le_refl _) _).setCell (p := ⟨w.heap.size, 1, none⟩) (Nat.le_refl _) _⟩
      subst her
      have HY2 := Lib.hid (HYes.out a val (by rw [HSm.out rfl, HO.out rfl]; rfl))
      clear HN HSm HNo HYes HO HB z0 z1 g0 g1
      by_cases hk0 : k = 0
      · have hkI : ((k : Int) == 0) = true := by rw [beq_iff_eq]; omega
        have hA4 := hA.apart_box (w.heap.size + 1) 0 (.string (B val)) he1w
        have hQ4 := ownsRow_setCell_below (a := ⟨w.heap.size + 1, 0, none⟩) hQ heW (.string (B val))
        have hb4 := hb.setCell (p := ⟨w.heap.size + 1, 0, none⟩) (Nat.le_refl _) (.string (B val))
        have s0 : (w3.setCell ⟨w.heap.size + 1, 0, none⟩ (.string (B val))).cell? ⟨w.heap.size + 1, 0, none⟩ = some (.string (B val)) := World.cell?_setCell_same _ _ _ p0
        have s1 : (w3.setCell ⟨w.heap.size + 1, 0, none⟩ (.string (B val))).cell? ⟨w.heap.size + 1, 1, none⟩ = some (.slice Ax xs.length cx) := by
          rw [World.cell?_setCell_other _ _ _ _ (by intro e; injection e with e1 e2; omega)]; exact p1
        have t0 : (w3.setCell ⟨w.heap.size + 1, 0, none⟩ (.string (B val))).frozen? ⟨w.heap.size + 1, 0, none⟩ = false := by simpa using f0
        have t1 : (w3.setCell ⟨w.heap.size + 1, 0, none⟩ (.string (B val))).frozen? ⟨w.heap.size + 1, 1, none⟩ = false := by simpa using f1
        have HD2 : Hid (0 < k + 1 → rRead q = rdFrom val (xs.map (·.1)) (q.drop (k + 1))) := fun _ => HY2.out.1 hk0
        have HS2 : Hid (∀ a ∈ xs.map (·.1), a.name.length ≤ x.size ∧ a.vals.length ≤ k + 1 ∧ ∀ y ∈ a.vals, y.length ≤ x.size) := fun c hc => by
          obtain ⟨h1, h2, h3⟩ := HS.out c hc
          exact ⟨h1, by omega, h3⟩
        have HALL := Lib.hid (And.intro hA4 hQ4)
        have HB4 := Lib.hid hb4
        have HSS := Lib.hid (And.intro s0 (And.intro s1 (And.intro t0 t1)))
        clear hk0 hA4 hQ4 hb4 s0 s1 t0 t1 hA hQ hb HY2 H0 HS HR
        go_wp2_with fail
        go_roundw
        case rel => exact ⟨k + 1, _, xs, val, by omega, by go_num, HALL.out.1, HALL.out.2, HB4.out, HSS.out.1, HSS.out.2.1, HSS.out.2.2.1, HSS.out.2.2.2, fun h => by omega, HD2, HS2, HVL, by omega⟩
        case measure => simp [intOf]; omega
      have hkI : ((k : Int) == 0) = false := by rw [beq_eq_false_iff_ne]; omega
      have HD1 : Hid (rRead q = rdFrom nm (rPut (xs.map (·.1)) a val) (q.drop (k + 1))) := HY2.out.2 hk0
      by_cases hx0 : xs.length = 0
      · have hx0I : ¬ (0 : Int) < (xs.length : Int) := by omega
        have HRP : Hid (rPut (xs.map (·.1)) a val = xs.map (·.1) ++ [⟨a, [val]⟩]) := by
          show _ = _
          rw [List.eq_nil_of_length_eq_zero hx0]; rfl
        have hbA : Below w3.heap.size w3 (w3.alloc (.cells #[.string (B val)] 9)) := (Below.refl _ _).alloc (Nat.le_refl _) _
        have hW3 : w1.heap.size ≤ w3.heap.size := by omega
        have hUr : (w3.alloc (.cells #[.string (B val)] 9)).ownsRow w1.heap.size 9 1 (.slice (some ⟨w3.heap.size, 0, none⟩) 1 1) 1 [.string (B val)] := World.ownsRow_lit w3 #[.string (B val)] 1 hW3 (by decide) rfl
        have hAa := hA.keep hbA
        have hQa := own_below hQ hbA
        have hap : ∀ p ∈ xs, ∀ g, (Value.slice (some ⟨w3.heap.size, 0, none⟩) 1 1).ownBlock = some g → p.2.ownBlock ≠ some g := fun p hp g hg hg2 => by
          have h1 := ((hA.2.1 p hp).lt g hg2).2
          have h2 : w3.heap.size = g := by injection hg
          omega
        have hszA : (w3.alloc (.cells #[.string (B val)] 9)).heap.size = w3.heap.size + 1 := by simp
        have HSA := Lib.hid hszA
        have a0 := cell_later hbA p0
        have a1 := cell_later hbA p1
        have he3 : w.heap.size + 1 < w3.heap.size := by omega
        have b0 := (hbA.frozen (p := ⟨w.heap.size + 1, 0, none⟩) he3).trans f0
        have b1 := (hbA.frozen (p := ⟨w.heap.size + 1, 1, none⟩) he3).trans f1
        have hbw4 := hb.trans (hbA.mono (by omega))
        have hWa : w1.heap.size ≤ (w3.alloc (.cells #[.string (B val)] 9)).heap.size := by rw [hszA]; omega
        have hS9 : ∀ c ∈ xs.map (·.1) ++ [(⟨a, [val]⟩ : Idn.Att)], c.name.length ≤ x.size ∧ c.vals.length ≤ k + 1 ∧ ∀ y ∈ c.vals, y.length ≤ x.size := fun c hc => by
          rcases List.mem_append.1 hc with hc | hc
          · obtain ⟨h1, h2, h3⟩ := HS.out c hc
            exact ⟨h1, by omega, h3⟩
          · rw [List.mem_singleton] at hc; subst hc
            exact ⟨HAL.out, by simp, fun y hy => by
              have hy' : y ∈ [val] := hy
              rw [List.mem_singleton] at hy'; subst hy'; exact HVL.out⟩
        have HS9 := Lib.hid hS9
        clear hA hQ hszA HR HY2 H0 HS hS9 hk0 hx0
        go_wp2_with (at_builtin; refine wpList_push (w3.alloc (.cells #[.string (B val)] 9)) rfl _ _ 22 rfl w1.heap.size 48 (.agg #[.string ⟨#[]⟩, .slice none 0 0]) 2 40 Tryz.underlying22 info_attr rfl (by decide) _ xs.length _ hAa.1 rfl [.string (B a), .slice (some ⟨w3.heap.size, 0, none⟩) 1 1] (by rw [HSA.out]; rfl) rfl (by intro u hu; simp at hu; rcases hu with rfl | rfl <;> rfl) (by omega) hWa ?_ rfl)
        intro v8 w8 hown8 hg8 _ hb8 _
        have hA8 := hAa.add (n := a) (vals := [val]) (u := .slice (some ⟨w3.heap.size, 0, none⟩) 1 1) hown8 hg8 hUr hap
        have hQ8 := own_kept hQa hg8 fun g h1 h2 => own_apart (own_base hAa.1 hws1) hQa (by decide) g h2 h1
        have c0 := (hb8.cell (p := ⟨w.heap.size + 1, 0, none⟩) he1w).trans a0
        have c1 := (hb8.cell (p := ⟨w.heap.size + 1, 1, none⟩) he1w).trans a1
        have d0 := (hb8.frozen (p := ⟨w.heap.size + 1, 0, none⟩) he1w).trans b0
        have d1 := (hb8.frozen (p := ⟨w.heap.size + 1, 1, none⟩) he1w).trans b1
        have hbw8 := hbw4.trans (hb8.mono (by omega))
        obtain ⟨ys, hy1, hy2, hA8'⟩ : ∃ ys : List (Idn.Att × Value), ys.map (·.1) = xs.map (·.1) ++ [⟨a, [val]⟩] ∧ ys.length = xs.length + 1 ∧ AttOwn w8 w1.heap.size v8 ys := ⟨_, by simp, by simp, hA8⟩
        clear hA8 hown8
        obtain ⟨A8, c8, hv8⟩ := own_shape hA8'.1
        subst hv8
        have hA9 := hA8'.apart_box (w.heap.size + 1) 1 (.slice A8 ys.length c8) he1w
        have hQ9 := ownsRow_setCell_below (a := ⟨w.heap.size + 1, 1, none⟩) hQ8 heW (.slice A8 ys.length c8)
        have hb9 := hbw8.setCell (p := ⟨w.heap.size + 1, 1, none⟩) (Nat.le_refl _) (.slice A8 ys.length c8)
        have s0 : (w8.setCell ⟨w.heap.size + 1, 1, none⟩ (.slice A8 ys.length c8)).cell? ⟨w.heap.size + 1, 0, none⟩ = some (.string (B nm)) := by
          rw [World.cell?_setCell_other _ _ _ _ (by intro e; injection e with e1 e2; omega)]; exact c0
        have s1 : (w8.setCell ⟨w.heap.size + 1, 1, none⟩ (.slice A8 ys.length c8)).cell? ⟨w.heap.size + 1, 1, none⟩ = some (.slice A8 ys.length c8) := World.cell?_setCell_same _ _ _ c1
        have t0 : (w8.setCell ⟨w.heap.size + 1, 1, none⟩ (.slice A8 ys.length c8)).frozen? ⟨w.heap.size + 1, 0, none⟩ = false := by simpa using d0
        have t1 : (w8.setCell ⟨w.heap.size + 1, 1, none⟩ (.slice A8 ys.length c8)).frozen? ⟨w.heap.size + 1, 1, none⟩ = false := by simpa using d1
        have HALL := Lib.hid (And.intro hA9 hQ9)
        have HB9 := Lib.hid hb9
        have HSS := Lib.hid (And.intro s0 (And.intro s1 (And.intro t0 t1)))
        have HD9 : Hid (0 < k + 1 → rRead q = rdFrom nm (ys.map (·.1)) (q.drop (k + 1))) := fun _ => by rw [HD1.out, HRP.out, hy1]
        have HS8 : Hid (∀ c ∈ ys.map (·.1), c.name.length ≤ x.size ∧ c.vals.length ≤ k + 1 ∧ ∀ y ∈ c.vals, y.length ≤ x.size) := by rw [hy1]; exact HS9
        have HY9 := Lib.hid hy2
        clear hA9 hQ9 hb9 s0 s1 t0 t1 hy1 hy2 hA8' hQ8 hbw8 hQa hAa hUr hap a0 a1 b0 b1 HS9 hbw4 hb HD1 HRP
        go_wp2_with fail
        go_roundw
        case rel => exact ⟨k + 1, _, ys, nm, by omega, by go_num, HALL.out.1, HALL.out.2, HB9.out, HSS.out.1, HSS.out.2.1, HSS.out.2.2.1, HSS.out.2.2.2, fun h => by omega, HD9, HS8, HNL, by rw [HY9.out]; omega⟩
        case measure => simp [intOf]; omega
      have hx0I : (0 : Int) < (xs.length : Int) := by omega
      obtain ⟨m, hm⟩ : ∃ m, xs.length = m + 1 := ⟨xs.length - 1, by omega⟩
      have hml : m < xs.length := by omega
      obtain ⟨gx, hAx, _⟩ := own_open hA.1 (by omega)
      subst hAx
      have hi : xs[m]? = some xs[m] := List.getElem?_eq_getElem hml
      obtain ⟨d0, d1, df, _⟩ := hA.cell hi
      have hlast := map_last xs m hm hml
      unfold sv at d0
      have hup := hA.2.1 _ (List.getElem_mem hml)
      have hSm := HS.out xs[m].1 (List.mem_map_of_mem (List.getElem_mem hml))
      have HI := Lib.hid hi
      have hsub : (xs.length : Int) - 1 = (m : Int) := by omega
      have hwrp : IntKind.i64.wrap ((xs.length : Int) - 1) = (m : Int) := by rw [hsub]; exact IntWalk.i64_in _ (by omega)
      have hwrm : IntKind.i64.wrap (m : Int) = (m : Int) := IntWalk.i64_in _ (by omega)
      have hmI : (m : Int) < (xs.length : Int) := by omega
      have hmI2 : m < xs.length := hml
      have HM := Lib.hid hm
      generalize xs[m] = pm at *
      obtain ⟨⟨pn, pv⟩, pu⟩ := pm
      obtain ⟨Ap, cp, hpu⟩ := own_shape hup
      dsimp only at d0 d1 hup hlast hSm hpu
      subst hpu
      have hem : ((B pn).toList == (B a).toList) = decide (pn = a) := by rw [str_beq, Idn.L_B, Idn.L_B]
      have HLAST := Lib.hid hlast
      clear hi hlast hm hx0 df
      by_cases hpn : pn = a
      · rw [decide_eq_true hpn] at hem
        have HRP : Hid (rPut (xs.map (·.1)) a val = (xs.map (·.1)).dropLast ++ [⟨pn, pv ++ [val]⟩]) := rPut_same HLAST.out a val hpn
        have hupd : w3.drew.ownsRow w1.heap.size 9 1 (.slice Ap pv.length cp) pv.length (pv.map sv) := hup
        have hAd : AttOwn w3.drew w1.heap.size (.slice (some ⟨gx, 0, none⟩) xs.length cx) xs := hA
        have hQd : w3.drew.ownsRow W.heap.size 9 1 (.slice (some ⟨gq, 0, none⟩) q.length cq) q.length (q.map sv) := hQ
        have hbA : Below w3.heap.size w3 (w3.alloc (.cells #[.string (B val)] 9)) := (Below.refl _ _).alloc (Nat.le_refl _) _
        have p1d : w3.drew.cell? ⟨w.heap.size + 1, 1, none⟩ = some (.slice (some ⟨gx, 0, none⟩) xs.length cx) := p1
        have p0d : w3.drew.cell? ⟨w.heap.size + 1, 0, none⟩ = some (.string (B nm)) := p0
        have f0d : w3.drew.frozen? ⟨w.heap.size + 1, 0, none⟩ = false := f0
        have f1d : w3.drew.frozen? ⟨w.heap.size + 1, 1, none⟩ = false := f1
        have d1d : w3.drew.cell? ⟨gx, m * 2 + 1, none⟩ = some (.slice Ap pv.length cp) := d1
        have p1a := cell_later hbA p1
        have d1a := cell_later hbA d1
        have hWd : w1.heap.size ≤ w3.drew.heap.size := by show _ ≤ w3.heap.size; omega
        have hbd : Below (w.heap.size + 1) w1 w3.drew := hb.drew
        have hpvk : pv.length ≤ k := hSm.2.1
        have HSM := Lib.hid hSm
        clear hup hA hQ hbA p0 f0 f1 hb hSm hpn H0 HR
        go_wp2_with fail
        clear p1 d1
        go_region_law (refine step_push rfl _ _ 45 rfl w1.heap.size 9 (.string ⟨#[]⟩) 1 16 Tryz.underlying45 info_str rfl (by decide) _ pv.length _ hupd rfl [.string (B val)] rfl rfl (by intro u hu; simp at hu; subst hu; rfl) (by omega) hWd ?_ rfl; intro v7 w7 hown7 hg7 hat7; obtain ⟨st1, st2, hnew⟩ := hAd.put8 (vals := pv ++ [val]) HI.out (by rw [List.length_append, List.map_append]; exact hown7) hg7 (hat7.imp id fun h => ⟨_, h, by omega⟩); have p1z : w7.cell? ⟨w.heap.size + 1, 1, none⟩ = some (.slice (some ⟨gx, 0, none⟩) xs.length cx) := (World.cell?_of_block (w := w3.drew) (hg7.block (w.heap.size + 1) (World.block_lt_of_cell? _ _ p1d) (fun e => by have := (hupd.lt _ e.symm).1; omega))).trans p1d; obtain ⟨A7, c7, hv7⟩ := own_shape hown7; subst hv7)
        all_goals
          have hgx := (hAd.1.lt gx rfl).1
          have hbz : Below w1.heap.size w3.drew w7 := (Below.refl _ _).grown hg7 hWd (fun g' hg' => (hupd.lt g' hg').1)
          have hQ7 := own_kept hQd hg7 fun g h1 h2 => by
            have e1 := HQLT.out g h1
            have e2 := (hupd.lt g h2).1
            omega
          have hQ9 := ownsRow_setCell_other hQ7 (a := ⟨gx, m * 2 + 1, none⟩) (fun e => by have := HQLT.out gx e; omega) (.slice A7 (pv.length + 1) c7)
          have hb9 := (hbd.trans (hbz.mono (Nat.le_of_lt he1w))).setCell (p := ⟨gx, m * 2 + 1, none⟩) (by show w.heap.size + 1 ≤ gx; omega) (.slice A7 (pv.length + 1) c7)
          have c0 := (hbz.cell (p := ⟨w.heap.size + 1, 0, none⟩) he1w).trans p0d
          have x0 := (hbz.frozen (p := ⟨w.heap.size + 1, 0, none⟩) he1w).trans f0d
          have x1 := (hbz.frozen (p := ⟨w.heap.size + 1, 1, none⟩) he1w).trans f1d
          have s0 : (w7.setCell ⟨gx, m * 2 + 1, none⟩ (.slice A7 (pv.length + 1) c7)).cell? ⟨w.heap.size + 1, 0, none⟩ = some (.string (B nm)) := by
            rw [World.cell?_setCell_other _ _ _ _ (by intro e; injection e with e1; omega)]; exact c0
          have s1 : (w7.setCell ⟨gx, m * 2 + 1, none⟩ (.slice A7 (pv.length + 1) c7)).cell? ⟨w.heap.size + 1, 1, none⟩ = some (.slice (some ⟨gx, 0, none⟩) xs.length cx) := by
            rw [World.cell?_setCell_other _ _ _ _ (by intro e; injection e with e1; omega)]; exact p1z
          have t0 : (w7.setCell ⟨gx, m * 2 + 1, none⟩ (.slice A7 (pv.length + 1) c7)).frozen? ⟨w.heap.size + 1, 0, none⟩ = false := by simpa using x0
          have t1 : (w7.setCell ⟨gx, m * 2 + 1, none⟩ (.slice A7 (pv.length + 1) c7)).frozen? ⟨w.heap.size + 1, 1, none⟩ = false := by simpa using x1
          have hmap : (xs.set m (⟨pn, pv ++ [val]⟩, .slice A7 (pv.length + 1) c7)).map (·.1) = (xs.map (·.1)).dropLast ++ [⟨pn, pv ++ [val]⟩] := by
            rw [List.map_set]; exact set_last _ _ _ (by rw [List.length_map]; exact HM.out)
          have HD9 : Hid (0 < k + 1 → rRead q = rdFrom nm ((xs.set m (⟨pn, pv ++ [val]⟩, .slice A7 (pv.length + 1) c7)).map (·.1)) (q.drop (k + 1))) := fun _ => by rw [HD1.out, HRP.out, hmap]
          have HS8 : Hid (∀ c ∈ (xs.set m (⟨pn, pv ++ [val]⟩, .slice A7 (pv.length + 1) c7)).map (·.1), c.name.length ≤ x.size ∧ c.vals.length ≤ k + 1 ∧ ∀ y ∈ c.vals, y.length ≤ x.size) := by
            rw [hmap]
            intro c hc
            rcases List.mem_append.1 hc with hc | hc
            · obtain ⟨h1, h2, h3⟩ := HS.out c (List.dropLast_subset _ hc)
              exact ⟨h1, by omega, h3⟩
            · rw [List.mem_singleton] at hc; subst hc
              refine ⟨HSM.out.1, by show (pv ++ [val]).length ≤ _; rw [List.length_append]; simp; omega, fun y hy => ?_⟩
              rcases List.mem_append.1 (show y ∈ pv ++ [val] from hy) with hy | hy
              · exact HSM.out.2.2 y hy
              · rw [List.mem_singleton] at hy; subst hy; exact HVL.out
          have HALL := Lib.hid (And.intro hnew hQ9)
          have HB9 := Lib.hid hb9
          have HSS := Lib.hid (And.intro s0 (And.intro s1 (And.intro t0 t1)))
          have HXL : Hid ((xs.set m ((⟨pn, pv ++ [val]⟩ : Idn.Att), Value.slice A7 (pv.length + 1) c7)).length ≤ k + 1) := by show _ ≤ _; rw [List.length_set]; omega
          clear hnew hQ7 hQ9 hb9 s0 s1 t0 t1 hmap hbz hQd hAd hupd c0 x0 x1 HD1 HRP HS HSM hown7 hg7 hat7
          go_wp2_with fail
          go_roundw
          case rel => exact ⟨k + 1, _, _, nm, by omega, by go_num, HALL.out.1, HALL.out.2, HB9.out, HSS.out.1, HSS.out.2.1, HSS.out.2.2.1, HSS.out.2.2.2, fun h => by omega, HD9, HS8, HNL, HXL.out⟩
          case measure => simp [intOf]; omega
      · rw [decide_eq_false hpn] at hem
        have HRP : Hid (rPut (xs.map (·.1)) a val = xs.map (·.1) ++ [⟨a, [val]⟩]) := rPut_other HLAST.out a val hpn
        have hbA : Below w3.heap.size w3 (w3.alloc (.cells #[.string (B val)] 9)) := (Below.refl _ _).alloc (Nat.le_refl _) _
        have hW3 : w1.heap.size ≤ w3.heap.size := by omega
        have hUr : (w3.alloc (.cells #[.string (B val)] 9)).ownsRow w1.heap.size 9 1 (.slice (some ⟨w3.heap.size, 0, none⟩) 1 1) 1 [.string (B val)] := World.ownsRow_lit w3 #[.string (B val)] 1 hW3 (by decide) rfl
        have hAa := hA.keep hbA
        have hQa := own_below hQ hbA
        have hap : ∀ p ∈ xs, ∀ g, (Value.slice (some ⟨w3.heap.size, 0, none⟩) 1 1).ownBlock = some g → p.2.ownBlock ≠ some g := fun p hp g hg hg2 => by
          have h1 := ((hA.2.1 p hp).lt g hg2).2
          have h2 : w3.heap.size = g := by injection hg
          omega
        have hszA : (w3.alloc (.cells #[.string (B val)] 9)).heap.size = w3.heap.size + 1 := by simp
        have HSA := Lib.hid hszA
        have a0 := cell_later hbA p0
        have a1 := cell_later hbA p1
        have he3 : w.heap.size + 1 < w3.heap.size := by omega
        have b0 := (hbA.frozen (p := ⟨w.heap.size + 1, 0, none⟩) he3).trans f0
        have b1 := (hbA.frozen (p := ⟨w.heap.size + 1, 1, none⟩) he3).trans f1
        have hbw4 := hb.trans (hbA.mono (by omega))
        have hWa : w1.heap.size ≤ (w3.alloc (.cells #[.string (B val)] 9)).heap.size := by rw [hszA]; omega
        have hS9 : ∀ c ∈ xs.map (·.1) ++ [(⟨a, [val]⟩ : Idn.Att)], c.name.length ≤ x.size ∧ c.vals.length ≤ k + 1 ∧ ∀ y ∈ c.vals, y.length ≤ x.size := fun c hc => by
          rcases List.mem_append.1 hc with hc | hc
          · obtain ⟨h1, h2, h3⟩ := HS.out c hc
            exact ⟨h1, by omega, h3⟩
          · rw [List.mem_singleton] at hc; subst hc
            exact ⟨HAL.out, by simp, fun y hy => by
              have hy' : y ∈ [val] := hy
              rw [List.mem_singleton] at hy'; subst hy'; exact HVL.out⟩
        have HS9 := Lib.hid hS9
        clear hA hQ hszA HR HY2 H0 HS hS9 hk0 hpn HLAST hup hSm d1 HI
        go_wp2_with (at_builtin; refine wpList_push (w3.alloc (.cells #[.string (B val)] 9)) rfl _ _ 22 rfl w1.heap.size 48 (.agg #[.string ⟨#[]⟩, .slice none 0 0]) 2 40 Tryz.underlying22 info_attr rfl (by decide) _ xs.length _ hAa.1 rfl [.string (B a), .slice (some ⟨w3.heap.size, 0, none⟩) 1 1] (by rw [HSA.out]; rfl) rfl (by intro u hu; simp at hu; rcases hu with rfl | rfl <;> rfl) (by omega) hWa ?_ rfl)
        intro v8 w8 hown8 hg8 _ hb8 _
        have hA8 := hAa.add (n := a) (vals := [val]) (u := .slice (some ⟨w3.heap.size, 0, none⟩) 1 1) hown8 hg8 hUr hap
        have hQ8 := own_kept hQa hg8 fun g h1 h2 => own_apart (own_base hAa.1 hws1) hQa (by decide) g h2 h1
        have c0 := (hb8.cell (p := ⟨w.heap.size + 1, 0, none⟩) he1w).trans a0
        have c1 := (hb8.cell (p := ⟨w.heap.size + 1, 1, none⟩) he1w).trans a1
        have d0 := (hb8.frozen (p := ⟨w.heap.size + 1, 0, none⟩) he1w).trans b0
        have d1 := (hb8.frozen (p := ⟨w.heap.size + 1, 1, none⟩) he1w).trans b1
        have hbw8 := hbw4.trans (hb8.mono (by omega))
        obtain ⟨ys, hy1, hy2, hA8'⟩ : ∃ ys : List (Idn.Att × Value), ys.map (·.1) = xs.map (·.1) ++ [⟨a, [val]⟩] ∧ ys.length = xs.length + 1 ∧ AttOwn w8 w1.heap.size v8 ys := ⟨_, by simp, by simp, hA8⟩
        clear hA8 hown8
        obtain ⟨A8, c8, hv8⟩ := own_shape hA8'.1
        subst hv8
        have hA9 := hA8'.apart_box (w.heap.size + 1) 1 (.slice A8 ys.length c8) he1w
        have hQ9 := ownsRow_setCell_below (a := ⟨w.heap.size + 1, 1, none⟩) hQ8 heW (.slice A8 ys.length c8)
        have hb9 := hbw8.setCell (p := ⟨w.heap.size + 1, 1, none⟩) (Nat.le_refl _) (.slice A8 ys.length c8)
        have s0 : (w8.setCell ⟨w.heap.size + 1, 1, none⟩ (.slice A8 ys.length c8)).cell? ⟨w.heap.size + 1, 0, none⟩ = some (.string (B nm)) := by
          rw [World.cell?_setCell_other _ _ _ _ (by intro e; injection e with e1 e2; omega)]; exact c0
        have s1 : (w8.setCell ⟨w.heap.size + 1, 1, none⟩ (.slice A8 ys.length c8)).cell? ⟨w.heap.size + 1, 1, none⟩ = some (.slice A8 ys.length c8) := World.cell?_setCell_same _ _ _ c1
        have t0 : (w8.setCell ⟨w.heap.size + 1, 1, none⟩ (.slice A8 ys.length c8)).frozen? ⟨w.heap.size + 1, 0, none⟩ = false := by simpa using d0
        have t1 : (w8.setCell ⟨w.heap.size + 1, 1, none⟩ (.slice A8 ys.length c8)).frozen? ⟨w.heap.size + 1, 1, none⟩ = false := by simpa using d1
        have HALL := Lib.hid (And.intro hA9 hQ9)
        have HB9 := Lib.hid hb9
        have HSS := Lib.hid (And.intro s0 (And.intro s1 (And.intro t0 t1)))
        have HD9 : Hid (0 < k + 1 → rRead q = rdFrom nm (ys.map (·.1)) (q.drop (k + 1))) := fun _ => by rw [HD1.out, HRP.out, hy1]
        have HS8 : Hid (∀ c ∈ ys.map (·.1), c.name.length ≤ x.size ∧ c.vals.length ≤ k + 1 ∧ ∀ y ∈ c.vals, y.length ≤ x.size) := by rw [hy1]; exact HS9
        have HY9 := Lib.hid hy2
        clear hA9 hQ9 hb9 s0 s1 t0 t1 hy1 hy2 hA8' hQ8 hbw8 hQa hAa hUr hap a0 a1 b0 b1 HS9 hbw4 hb HD1 HRP
        go_wp2_with fail
        go_roundw
        case rel => exact ⟨k + 1, _, ys, nm, by omega, by go_num, HALL.out.1, HALL.out.2, HB9.out, HSS.out.1, HSS.out.2.1, HSS.out.2.2.1, HSS.out.2.2.2, fun h => by omega, HD9, HS8, HNL, by rw [HY9.out]; omega⟩
        case measure => simp [intOf]; omega
    · have hltI : ¬ (k : Int) < (q.length : Int) := by omega
      have hend : rRead q = some (nm, xs.map (·.1)) := by
        by_cases h0 : k = 0
        · have hq0 : q = [] := List.eq_nil_of_length_eq_zero (by omega)
          obtain ⟨h1, h2⟩ := H0.out h0
          rw [hq0, h1, h2]; rfl
        · rw [HD.out (by omega), List.drop_eq_nil_of_le (by omega)]; rfl
      have hasm : ASm (xs.map (·.1)) := ⟨by rw [List.length_map]; omega, fun c hc => by
        obtain ⟨h1, h2, h3⟩ := HS.out c hc
        exact ⟨by omega, by omega, fun y hy => by have := h3 y hy; omega⟩⟩
      have hT := r8_Text_any (B nm) _ (xs.map (·.1)) wo (hA.atts rfl) (by rw [Idn.size_B]; have := HNL.out; omega) hasm
      rw [Idn.L_B] at hT
      replace HR : Hid (r = if eText nm (xs.map (·.1)) = (L x, 0) then ((nm, xs.map (·.1)), 0) else (([], []), 4)) := by show _ = _; rw [HR.out, hend]; dsimp only; rw [rEText_eq]
      generalize eText nm (xs.map (·.1)) = tx at *
      obtain ⟨tt, te⟩ := tx
      dsimp only at hT
      clear H0 HD HS HNL hasm hend hQ f0 f1
      go_wp2_with fail
      refine hT.mono ?_
      rintro e w12 ⟨rfl, hb12⟩
      replace z0 := cell_later hb12 z0
      replace z1 := cell_later hb12 z1
      replace p0 := cell_later hb12 p0
      replace p1 := cell_later hb12 p1
      replace g0 := (hb12.frozen (p := ⟨w.heap.size, 0, none⟩) hzo).trans g0
      replace g1 := (hb12.frozen (p := ⟨w.heap.size, 1, none⟩) hzo).trans g1
      have hbw12 := hbw.trans (hb12.mono hbw.size)
      have hA12 := hA.keep hb12
      clear hT hA hb12
      by_cases hte : te = 0
      case neg =>
        have hI : (te != 0) = true := by simpa using hte
        have HF : Hid (r = (([], []), 4)) := by show _ = _; rw [HR.out, if_neg (fun h => hte (Prod.mk.inj h).2)]
        clear HR hte hA12
        go_wp2_with fail
        exact bodyPost_ret (v := .tuple #[.agg #[.string ⟨#[]⟩, .slice none 0 0], .int .i64 4]) (by simp [results, Tryz.results33, go_sem, z0, z1, g0, g1]) rfl ⟨_, [], by rw [HF.out] <;> rfl, AttRow.nil _ _, by rw [HF.out] <;> rfl, (hbw12.setCell (p := ⟨w.heap.size, 0, none⟩) (Nat.le_refl _) _).setCell (p := ⟨w.heap.size, 1, none⟩) (Nat.le_refl _) _⟩
      subst hte
      have hem : ((B tt).toList == x.toList) = decide (tt = L x) := by rw [str_beq, Idn.L_B]
      by_cases htx : tt = L x
      case neg =>
        rw [decide_eq_false htx] at hem
        have HF : Hid (r = (([], []), 4)) := by show _ = _; rw [HR.out, if_neg (fun h => htx (Prod.mk.inj h).1)]
        clear HR htx hA12
        go_wp2_with fail
        exact bodyPost_ret (v := .tuple #[.agg #[.string ⟨#[]⟩, .slice none 0 0], .int .i64 4]) (by simp [results, Tryz.results33, go_sem, z0, z1, g0, g1]) rfl ⟨_, [], by rw [HF.out] <;> rfl, AttRow.nil _ _, by rw [HF.out] <;> rfl, (hbw12.setCell (p := ⟨w.heap.size, 0, none⟩) (Nat.le_refl _) _).setCell (p := ⟨w.heap.size, 1, none⟩) (Nat.le_refl _) _⟩
      rw [decide_eq_true htx] at hem
      have HF : Hid (r = ((nm, xs.map (·.1)), 0)) := by show _ = _; rw [HR.out, htx, if_pos rfl]
      have hA13 := (hA12.apart_box w.heap.size 0 (.string (B nm)) hz1w).apart_box w.heap.size 1 (.slice Ax xs.length cx) hz1w
      have HA13 := Lib.hid (hA13.base (base' := w.heap.size) (by omega))
      clear HR htx hA12 hA13
      go_wp2_with fail
      exact bodyPost_ret (v := .tuple #[.agg #[.string (B nm), .slice Ax xs.length cx], .int .i64 0]) (by simp [results, Tryz.results33, go_sem, z0, z1, g0, g1]) rfl ⟨_, xs, by rw [HF.out], ⟨HA13.out.1, HA13.out.2.1⟩, by rw [HF.out], (hbw12.setCell (p := ⟨w.heap.size, 0, none⟩) (Nat.le_refl _) _).setCell (p := ⟨w.heap.size, 1, none⟩) (Nat.le_refl _) _⟩
end Go.Proofs.YtoopoglkeeoamaaGreatDoor
/- law08: EntryParses, walked. -/
namespace Go.Proofs.YtoopoglkeeoamaaGreatDoor
open Go.RowKit Go.Sort
open Idn (L B Bs drop_L take_L size_L)
theorem eParse_sm {s : Bs} (hs : s.length ≤ 2000) : (eParse s).1.2.length ≤ 1000000000 ∧ ∀ a ∈ (eParse s).1.2, a.vals.length ≤ 1000000000 := by
  have hq := pAtts_lim hs
  have hc := (Idn.cutC_len 10 s).2
  have h1 := (pAtts_all (q := Idn.cutC 10 s) (m := s.length) hc).2
  have h2 := rSorted_ones hq h1 (by omega)
  rw [eParse_unf]
  split
  · exact ⟨h2.1, fun a ha => (h2.2 a ha).2.1⟩
  · simp
set_option maxHeartbeats 8000000 in
set_option maxRecDepth 100000 in
theorem entryParses_any (x : ByteArray) (w : World) (hx : x.size ≤ 9223372036854775807) (hE : Env w) (hU : EnvU w) :
    Calls Tryz.prog 10 #[.string x] w fun e w' => e = .returned (.bool true) ∧ Below w.heap.size w w' := by
  have hEx := fun W (hW : Below w.heap.size w W) => example_any W (hE.keep hW) (hU.keep hW)
  by_cases hs : x.size ≤ 2000
  case neg =>
    have h0 : decide ((2000 : Int) < (x.size : Int)) = true := decide_eq_true (by omega)
    go_enter Tryz.func10, Tryz.ntmps10
    go_wp2_with fail
    refine (hEx w (Below.refl _ _)).mono ?_
    rintro e w1 ⟨rfl, hb1⟩
    go_wp2_with fail
    go_ret
    exact ⟨rfl, hb1⟩
  have h0 : decide ((2000 : Int) < (x.size : Int)) = false := decide_eq_false (by omega)
  have k1 := fun W (hW : Below w.heap.size w W) => eParse_any x W (hE.keep hW) (by omega) (pAtts_lim (s := L x) (by rw [← size_L]; exact hs))
  have k2 := fun W => r8_Parse_any x W (by omega)
  have hsm := eParse_sm (s := L x) (by rw [← size_L]; exact hs)
  rw [rEParse_eq] at k2
  generalize eParse (L x) = r at *
  obtain ⟨⟨rN, rL⟩, y⟩ := r
  dsimp only at hsm
  obtain ⟨hes1, hes2⟩ := hsm
  have HES := Lib.hid hes2
  clear hE hU hes2
  go_enter Tryz.func10, Tryz.ntmps10
  go_wp2_with fail
  refine (k1 w (Below.refl _ _)).mono ?_
  rintro e w3 ⟨v3, ps3, rfl, hown3, hps3, hbw3⟩
  obtain ⟨A3, c3, hv3⟩ := own_shape hown3.1
  subst hv3
  have hats3 := hown3.atts hps3
  clear k1 hps3 hown3
  dsimp only at hats3
  go_upto_region 4 with fail
  with_reducible refine gen1 (R := fun W => Code.wp Tryz.prog _ _ _ W) ?_
  intro W4 hbW4 hszW4 hc4 _
  have a0 : W4.cell? ⟨w3.heap.size, 0, none⟩ = some (.string (B rN)) := hc4 0 _ rfl
  have a1 : W4.cell? ⟨w3.heap.size, 1, none⟩ = some (.slice A3 ps3.length c3) := hc4 1 _ rfl
  have hats4 := AttsV.mono (AttsV.keep hats3 hbW4) hbW4.size
  have hbw4 := hbw3.trans (hbW4.mono hbw3.size)
  clear hc4 hszW4 hbW4 hats3 hbw3
  go_wp2_with fail
  refine (k2 W4).mono ?_
  rintro e w5 ⟨v5, ps5, rfl, hrow5, hps5, hb5⟩
  have hats5 := hrow5.atts hps5
  clear hrow5 hps5
  dsimp only at hats5
  obtain ⟨A5, c5, hv5, _⟩ := SlV.shape hats5
  subst hv5
  replace a0 := cell_later hb5 a0
  replace a1 := cell_later hb5 a1
  have hatsA5 := AttsV.mono (AttsV.keep hats4 hb5) hb5.size
  have hbw5 := hbw4.trans (hb5.mono hbw4.size)
  clear k2 hb5 hats4 hbw4
  go_upto_region 5 with fail
  with_reducible refine gen1 (R := fun W => Code.wp Tryz.prog _ _ _ W) ?_
  intro W6 hbW6 hszW6 hc6 _
  have b0 : W6.cell? ⟨w5.heap.size, 0, none⟩ = some (.string (B rN)) := hc6 0 _ rfl
  have b1 : W6.cell? ⟨w5.heap.size, 1, none⟩ = some (.slice A5 rL.length c5) := hc6 1 _ rfl
  replace a0 := cell_later hbW6 a0
  replace a1 := cell_later hbW6 a1
  have hatsA6 := AttsV.mono (AttsV.keep hatsA5 hbW6) hbW6.size
  have hatsB6 := AttsV.mono (AttsV.keep hats5 hbW6) hbW6.size
  have hbw6 := hbw5.trans (hbW6.mono hbw5.size)
  have hSa := r8_Same_any (B rN) (B rN) _ _ rL rL true ⟨fun _ => ⟨rfl, rfl⟩, fun _ => rfl⟩ W6 hatsA6 hatsB6 (by omega) (by omega) (fun y hy => by have := HES.out y hy; omega) (fun y hy => by have := HES.out y hy; omega)
  have t1 : (y == y) = true := by simp
  clear hc6 hszW6 hbW6 hatsA5 hats5 hbw5 hatsA6 hatsB6
  go_wp2_with fail
  refine hSa.mono ?_
  rintro e w7 ⟨rfl, hb7⟩
  have hbw7 := hbw6.trans (hb7.mono hbw6.size)
  have hex := hEx w7 hbw7
  clear hSa hEx a0 a1 b0 b1
  go_wp2_with fail
  refine hex.mono ?_
  rintro e w8 ⟨rfl, hb8⟩
  go_wp2_with fail
  go_ret
  exact ⟨rfl, hbw7.trans (hb8.mono hbw7.size)⟩
end Go.Proofs.YtoopoglkeeoamaaGreatDoor
