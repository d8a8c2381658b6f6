/- Part 41 of the proof that EntryTurns: the package variables hold what the program lays; nothing else is asked. -/
import Derived.Test.YtoopoglkeeoamaaGreatDoorEtu29
import Derived.Lib.SliceRun
set_option linter.unusedVariables false
set_option linter.unusedSimpArgs false
/- slices.DeleteFunc at attributes that a call owns. -/
namespace Go.Proofs.YtoopoglkeeoamaaGreatDoor
open Go.RowKit Go.Sort
open Idn (L B Bs drop_L take_L size_L)

def nmA (q : Idn.Att × Value) : Bs × Nat := (q.1.name, q.1.vals.length)
/-- a predicate on attributes, in every world in which no block but g has turned -/
def PredG (g fn : Nat) (lb : Array Value) (p : Bs × Nat → Bool) (w : World) : Prop :=
  ∀ (W : World) (x : Bs × Nat) (A : Option Addr) (c : Nat), w.grownBy W (some g) → Calls Tryz.prog fn (#[.agg #[.string (B x.1), .slice A x.2 c]] ++ lb) W fun e w' => e = .returned (.bool (p x)) ∧ Below W.heap.size W w'
theorem grown_of_below {w W : World} (h : Below w.heap.size w W) (r : Option Nat) : w.grownBy W r := ⟨h.os, h.tape, h.output, h.size, fun k hk _ => h.block k hk⟩
theorem PredG.pred {g fn : Nat} {lb : Array Value} {p : Bs × Nat → Bool} {w : World} (h : PredG g fn lb p w) (l : List (Bs × Nat)) : PredA fn lb p l w := fun W x A c _ hb => h W x A c (grown_of_below hb _)
theorem rowA_set2 : ∀ (ps : List (Idn.Att × Value)) (i : Nat) (p : Idn.Att × Value), i < ps.length → rowA (ps.set i p) = ((rowA ps).set (i * 2) (sv p.1.name)).set (i * 2 + 1) p.2
  | [], i, p, h => by simp at h
  | q :: ps, 0, p, h => rfl
  | q :: ps, i + 1, p, h => by
    have := rowA_set2 ps i p (by simpa using h)
    show sv q.1.name :: q.2 :: rowA (ps.set i p) = ((sv q.1.name :: q.2 :: rowA ps).set ((i + 1) * 2) _).set ((i + 1) * 2 + 1) _
    rw [this, show (i + 1) * 2 + 1 = (i * 2 + 1) + 1 + 1 by omega, show (i + 1) * 2 = i * 2 + 1 + 1 by omega]
    rfl
theorem rowA_take (ps : List (Idn.Att × Value)) : ∀ i, (rowA ps).take (i * 2) = rowA (ps.take i) := by
  induction ps with
  | nil => intro i; simp [rowA]
  | cons q ps ih =>
    intro i
    cases i with
    | zero => simp [rowA]
    | succ i =>
      show (sv q.1.name :: q.2 :: rowA ps).take ((i + 1) * 2) = sv q.1.name :: q.2 :: rowA (ps.take i)
      rw [show (i + 1) * 2 = i * 2 + 1 + 1 by omega, List.take_succ_cons, List.take_succ_cons, ih]
/-- an owned row, cut -/
theorem own_take {w : World} {base : Nat} {e : TypeId} {size n cap g : Nat} {xs : List Value} (h : w.ownsRow base e size (.slice (some ⟨g, 0, none⟩) n cap) n xs) (i : Nat) (hi : i ≤ n) :
    w.ownsRow base e size (.slice (some ⟨g, 0, none⟩) i cap) i (xs.take (i * size)) := by
  have hle : i * size ≤ n * size := Nat.mul_le_mul_right _ hi
  refine ⟨by rw [List.length_take, h.1]; omega, ?_⟩
  rcases h.2 with ⟨hn, _⟩ | ⟨g', cap', cur, hv, hb, hgg, h1, h2, h3, h4⟩
  · cases hn
  · injection hv with hv1 hv2 hv3
    injection hv1 with hv1
    injection hv1 with hv1
    subst hv1 hv3
    refine .inr ⟨g, cap, cur, rfl, hb, hgg, by omega, h2, h3, ?_⟩
    rw [← h4, List.take_take, Nat.min_eq_left hle]
/-- cells behind an owned row's head turned -/
theorem own_setCells {base : Nat} {e : TypeId} {size n cap g : Nat} {xs : List Value} : ∀ (vs : List Value) (o : Nat) (w : World), w.ownsRow base e size (.slice (some ⟨g, 0, none⟩) n cap) n xs → n * size ≤ o → (w.setCells g o vs).ownsRow base e size (.slice (some ⟨g, 0, none⟩) n cap) n xs
  | [], _, _, h, _ => h
  | v :: vs, o, w, h, ho => by
    rw [World.setCells]
    refine own_setCells vs (o + 1) _ ?_ (by omega)
    refine ⟨h.1, ?_⟩
    rcases h.2 with ⟨hn, _⟩ | ⟨g', cap', cur, hv, hb, hgg, h1, h2, h3, h4⟩
    · cases hn
    · injection hv with hv1 hv2 hv3
      injection hv1 with hv1
      injection hv1 with hv1
      subst hv1 hv3
      refine .inr ⟨g, cap, cur.setIfInBounds o v, rfl, hb, by simp [World.setCell, Array.getElem?_modify, hgg], h1, h2, by simpa using h3, ?_⟩
      rw [Array.toList_setIfInBounds, List.take_set_of_le (by omega)]; exact h4
theorem grown_setCells {w : World} {g : Nat} : ∀ (vs : List Value) (o : Nat) (W : World), w.grownBy W (some g) → w.grownBy (W.setCells g o vs) (some g)
  | [], _, _, h => h
  | v :: vs, o, W, h => by
    rw [World.setCells]
    exact grown_setCells vs (o + 1) _ ⟨h.os, h.tape, h.output, by simpa using h.size, fun k hk hne => by
      rw [← h.block k hk hne]
      have : g ≠ k := fun e => hne (by rw [e])
      simp [World.setCell, Array.getElem?_modify, this]⟩
/-- 'clear(s)' at elements of two cells -/
theorem run_clear2 {P : Program} (w : World) (t e ty : TypeId) (z : Value) (ht : P.underlying t = some (.slice e)) (hv : ∀ w, (zeroValue e).run P w = .ok z w) (a b : Value) (hz : z.cells = #[a, b]) (h1 : a.oneCell' = true) (h2 : b.oneCell' = true) (g o n c : Nat) (hn : 0 < n)
    (hc : ∀ j, j < n * 2 → (w.cell? ⟨g, o + j, none⟩).isSome = true) (hf : ∀ j, j < n * 2 → w.frozen? ⟨g, o + j, none⟩ = false) :
    (Builtin.clear_ #[t] ty #[.slice (some ⟨g, o, none⟩) n c]).run P w = .ok (.tuple #[]) (w.setCells g o (Builtin.zeroCells #[a, b] n).toList) := by
  have hlen : (Builtin.zeroCells #[a, b] n).toList.length = n * 2 := by simp [Builtin.zeroCells]
  have hone : ∀ v ∈ (Builtin.zeroCells #[a, b] n).toList, v.oneCell' = true := fun v hv' => by
    simp [Builtin.zeroCells] at hv'
    obtain ⟨i, _, rfl⟩ := hv'
    rcases Nat.mod_two_eq_zero_or_one i with h0 | h0 <;> simp [h0, h1, h2]
  have hst := run_storeCells_cells (P := P) g o (Builtin.zeroCells #[a, b] n).toList 0 w (by rw [hlen]; simpa using hc) (by rw [hlen]; simpa using hf) hone
  simp only [Nat.add_zero] at hst
  obtain ⟨m, rfl⟩ : ∃ m, n = m + 1 := ⟨n - 1, by omega⟩
  simp [Builtin.clear_, run_underlying ht, hv, hz, hst]
theorem own_cell {w : World} {base : Nat} {e : TypeId} {size n cap g : Nat} {xs : List Value} (h : w.ownsRow base e size (.slice (some ⟨g, 0, none⟩) n cap) n xs) : (∀ (j : Nat) u, xs[j]? = some u → w.cell? ⟨g, j, none⟩ = some u) ∧ (∀ j, w.frozen? ⟨g, j, none⟩ = false) ∧ base ≤ g ∧ g < w.heap.size := by
  have e0 : ∀ j, ((⟨g, 0, none⟩ : Addr).add j) = ⟨g, j, none⟩ := fun j => by unfold Addr.add; split <;> simp_all
  refine ⟨fun j u hj => (e0 j) ▸ h.cells (g := g) rfl j u hj, fun j => ?_, (h.lt g rfl).1, (h.lt g rfl).2⟩
  rcases h.2 with ⟨hn, _⟩ | ⟨g', cap', cur, hv, _, hgg, _⟩
  · cases hn
  · injection hv with hv1
    injection hv1 with hv1
    injection hv1 with hv1
    subst hv1
    exact Lib.frozen_of_heap hgg _
theorem run_zeroA (w : World) : (zeroValue 48).run Tryz.prog w = .ok (.agg #[.string ⟨#[]⟩, .slice none 0 0]) w := by kernel_rfl
/-- two cells of an owned row of structs stored -/
theorem own_set2 {w : World} {base : Nat} {n cap g : Nat} {ps : List (Idn.Att × Value)} (h : w.ownsRow base 48 2 (.slice (some ⟨g, 0, none⟩) n cap) n (rowA ps)) (hn : ps.length = n) (i : Nat) (p : Idn.Att × Value) (hi : i < n) :
    ((w.setCell ⟨g, i * 2, none⟩ (sv p.1.name)).setCell ⟨g, i * 2 + 1, none⟩ p.2).ownsRow base 48 2 (.slice (some ⟨g, 0, none⟩) n cap) n (rowA (ps.set i p)) := by
  rw [rowA_set2 ps i p (by omega)]
  exact own_set (own_set h (i * 2) (by omega) _) (i * 2 + 1) (by omega) _
set_option maxHeartbeats 1000000 in
set_option maxRecDepth 100000 in
theorem delRow_any (fn : Nat) (lb : Array Value) (eg : FnB fn) (p : Bs × Nat → Bool) (g cap base : Nat) (ps : List (Idn.Att × Value)) (w : World) (h : AttOwn w base (.slice (some ⟨g, 0, none⟩) ps.length cap) ps) (hl : ps.length ≤ 1000000) (hp : PredG g fn lb p w) :
    Calls Tryz.prog 82 #[.slice (some ⟨g, 0, none⟩) ps.length cap, .func (.func fn) #[] lb] w fun e w' => e = .returned (.slice (some ⟨g, 0, none⟩) (ps.filter fun q => !p (nmA q)).length cap) ∧
      w'.ownsRow base 48 2 (.slice (some ⟨g, 0, none⟩) (ps.filter fun q => !p (nmA q)).length cap) (ps.filter fun q => !p (nmA q)).length (rowA (ps.filter fun q => !p (nmA q))) ∧ w.grownBy w' (some g) := by
  have hI := idxA_any fn lb eg p _ (ps.map fun p => (p.1.name, p.1.vals.length)) w h.names (by rw [List.length_map]; omega) (hp.pred _)
  have hrow := h.1
  have hsh := fun q (hq : q ∈ ps) => own_shape (h.2.1 q hq)
  unfold FnB at eg
  cases hx : (ps.map fun p => (p.1.name, p.1.vals.length)).findIdx? p with
  | none =>
    have hfil : (ps.filter fun q => !p (nmA q)) = ps := by
      rw [List.filter_eq_self]
      intro q hq
      have := List.findIdx?_eq_none_iff.1 hx (nmA q) (List.mem_map.2 ⟨q, hq, rfl⟩)
      rw [this]; rfl
    rw [idxP_none hx] at hI
    rw [hfil]
    clear hp hfil hx hsh h
    go_enter Tryz.func82, Tryz.ntmps82
    go_wp2_with fail
    refine hI.mono ?_
    rintro e w1 ⟨rfl, hb1⟩
    go_wp2
    go_ret
    exact ⟨rfl, own_below hrow hb1, grown_of_below hb1 _⟩
  | some k0 =>
    obtain ⟨hk0, ht, hall⟩ := List.findIdx?_eq_some_iff_getElem.1 hx
    rw [List.length_map] at hk0
    have HT : Hid (ps.take k0 = (ps.take (k0 + 1)).filter fun q => !p (nmA q)) := by
      show _ = _
      have e1 : (ps.take k0).filter (fun q => !p (nmA q)) = ps.take k0 := by
        rw [List.filter_eq_self]
        intro q hq
        obtain ⟨j, hj, rfl⟩ := List.getElem_of_mem hq
        rw [List.length_take] at hj
        have := hall j (by omega)
        simp only [List.getElem_map] at this
        rw [List.getElem_take]
        show (!p (ps[j].1.name, ps[j].1.vals.length)) = true
        simpa using this
      have e2 : p (nmA ps[k0]) = true := by simpa [nmA] using ht
      rw [List.take_succ_eq_append_getElem hk0, List.filter_append, e1, List.filter_cons_of_neg (by rw [e2]; decide), List.filter_nil, List.append_nil]
    rw [idxP_some hx] at hI
    have hne1 : ((k0 : Int) == -1) = false := by rw [beq_eq_false_iff_ne]; omega
    generalize hfil : (ps.filter fun q => !p (nmA q)) = fs
    have HFS := Lib.hid hfil
    clear hx ht hall h hfil
    go_enter Tryz.func82, Tryz.ntmps82
    go_wp2_with fail
    refine hI.mono ?_
    rintro e w1 ⟨rfl, hb1⟩
    have hrow1 := own_below hrow hb1
    have hg1 := grown_of_below hb1 (some g)
    clear hI hrow hb1
    go_wp2_with fail
    go_loopw [5, 6, 7] (fun i j _ wr => ∃ (i' j' : Nat) (qs : List (Idn.Att × Value)), i = .int .i64 i' ∧ j = .int .i64 j' ∧ i' < j' ∧ j' ≤ ps.length ∧ qs.length = ps.length ∧ wr.ownsRow base 48 2 (.slice (some ⟨g, 0, none⟩) ps.length cap) ps.length (rowA qs) ∧ Hid (qs.take i' = (ps.take j').filter fun q => !p (nmA q)) ∧ Hid (∀ k, j' ≤ k → qs[k]? = ps[k]?) ∧ w.grownBy wr (some g)) (fun _ j _ _ => ps.length - (intOf j).toNat)
    case atStart => exact ⟨k0, k0 + 1, ps, rfl, by go_num, by omega, by omega, rfl, hrow1, HT, fun _ _ => rfl, hg1⟩
    case round =>
      obtain ⟨i, j, qs, rfl, rfl, hij, hjn, hql, hown, hinv, hsame, hg⟩ := hrel
      have HQ := Lib.hid hql
      clear hql
      obtain ⟨hcl, hfz, hbg, hgl⟩ := own_cell hown
      by_cases hlt : j < ps.length
      · have hltI : (j : Int) < (ps.length : Int) := by omega
        have hj0 : (0 : Int) ≤ (j : Int) := by omega
        have hi0 : (0 : Int) ≤ (i : Int) := by omega
        have hiI : (i : Int) < (ps.length : Int) := by omega
        obtain ⟨Aq, cq1, hqv⟩ := hsh ps[j] (List.getElem_mem hlt)
        have hqj : qs[j]? = some ps[j] := by rw [hsame.out j (Nat.le_refl _)]; exact List.getElem?_eq_getElem hlt
        obtain ⟨r0, r1⟩ := rowA_at qs j ps[j] hqj
        have d0 := hcl _ _ r0
        have d1 := hcl _ _ r1
        have hqi : qs[i]? = some (qs[i]'(by have := HQ.out; omega)) := List.getElem?_eq_getElem _
        obtain ⟨r2, r3⟩ := rowA_at qs i _ hqi
        have d2 := hcl _ _ r2
        have d3 := hcl _ _ r3
        rw [hqv] at d1
        have hstep : Hid ((ps.take (j + 1)).filter (fun q => !p (nmA q)) = (ps.take j).filter (fun q => !p (nmA q)) ++ if p (nmA ps[j]) then [] else [ps[j]]) := by
          show _ = _
          rw [List.take_succ_eq_append_getElem hlt, List.filter_append]
          congr 1
          cases hh : p (nmA ps[j]) <;> simp [hh]
        have HS := Lib.hid hqj
        clear hqj hsh hcl
        generalize ps[j] = q at *
        generalize qs[i]'(by have := HQ.out; omega) = old at *
        replace d0 : wr.cell? ⟨g, j * 2, none⟩ = some (.string (B q.1.name)) := d0
        replace d2 : wr.cell? ⟨g, i * 2, none⟩ = some (.string (B old.1.name)) := d2
        clear r0 r1 r2 r3
        obtain ⟨wo, hwo⟩ : ∃ wo : World, wo = wr := ⟨_, rfl⟩
        subst hwo
        go_upto_region 8 with fail
        with_reducible refine gen1 (R := fun W => Code.wp Tryz.prog _ _ _ W) ?_
        intro W hbW hszW hc1 _
        have x0 : W.cell? ⟨wo.heap.size, 0, none⟩ = some (.string (B q.1.name)) := hc1 0 _ rfl
        have x1 : W.cell? ⟨wo.heap.size, 1, none⟩ = some (.slice Aq q.1.vals.length cq1) := hc1 1 _ rfl
        have hgW := hg.trans (grown_of_below hbW (some g))
        have hcall := hp W (nmA q) Aq cq1 hgW
        dsimp only [nmA] at hcall
        clear hc1 hszW d0 d1
        cases hpq : p (nmA q)
        · rw [show p (q.1.name, q.1.vals.length) = false from hpq] at hcall
          rw [hpq] at hstep
          clear hpq
          go_wp2_with fail
          refine hcall.mono ?_
          rintro e w2 ⟨rfl, hb2⟩
          have hb02 := hbW.trans (hb2.mono hbW.size)
          replace x0 := cell_later hb2 x0
          replace x1 := cell_later hb2 x1
          replace d2 := cell_later hb02 d2
          replace d3 := cell_later hb02 d3
          have hown2 := own_below hown hb02
          have hfz2 := (own_cell hown2).2.1
          have f0 := hfz2 (i * 2)
          have f1 := hfz2 (i * 2 + 1)
          have hg2 := hgW.trans (grown_of_below hb2 (some g))
          have hgl2 := (own_cell hown2).2.2.2
          clear hcall hown hfz hfz2 hg hgW hp
          have HI : Hid ((qs.set i q).take (i + 1) = (ps.take (j + 1)).filter fun q => !p (nmA q)) := by
            show _ = _
            have hi : i < (qs.set i q).length := by rw [List.length_set]; have := HQ.out; omega
            rw [List.take_succ_eq_append_getElem hi, List.take_set_of_le (Nat.le_refl _), List.getElem_set_self, hinv.out, hstep.out]
            rfl
          have HK : Hid (∀ k, j + 1 ≤ k → (qs.set i q)[k]? = ps[k]?) := fun k hk => by
            rw [List.getElem?_set_ne (by omega)]; exact hsame.out k (by omega)
          have hset := own_set2 hown2 HQ.out i q (by omega)
          rw [hqv] at hset
          have hgs := grown_setCells [sv q.1.name, .slice Aq q.1.vals.length cq1] (i * 2) w2 hg2
          have HSET := Lib.hid hset
          have HGS := Lib.hid hgs
          clear hset hgs hstep hinv hsame
          go_wp2_with fail
          go_roundw
          case rel => exact ⟨i + 1, j + 1, qs.set i q, by go_num, by go_num, by omega, by omega, by rw [List.length_set]; exact HQ.out, HSET.out, HI, HK, HGS.out⟩
          case measure => simp [intOf]; omega
        · rw [show p (q.1.name, q.1.vals.length) = true from hpq] at hcall
          rw [hpq] at hstep
          have HI : Hid (qs.take i = (ps.take (j + 1)).filter fun q => !p (nmA q)) := by
            show _ = _
            rw [hinv.out, hstep.out, if_pos rfl, List.append_nil]
          clear hpq hstep hinv
          go_wp2_with fail
          refine hcall.mono ?_
          rintro e w2 ⟨rfl, hb2⟩
          have hb02 := hbW.trans (hb2.mono hbW.size)
          have hown2 := own_below hown hb02
          have hg2 := hgW.trans (grown_of_below hb2 (some g))
          clear hcall hown hfz hg hgW hp d2 d3 x0 x1
          go_wp2_with fail
          go_roundw
          case rel => exact ⟨i, j + 1, qs, rfl, by go_num, by omega, by omega, HQ.out, hown2, HI, fun k hk => hsame.out k (by omega), hg2⟩
          case measure => simp [intOf]; omega
      · obtain rfl : j = ps.length := by omega
        have hltI : ¬ (ps.length : Int) < (ps.length : Int) := by omega
        have hiI : (i : Int) ≤ (ps.length : Int) := by omega
        have hi0 : (0 : Int) ≤ (i : Int) := by omega
        have hFE : fs = qs.take i := by rw [hinv.out, ← HFS.out, List.take_length]
        have hFL : fs.length = i := by rw [hFE, List.length_take]; have := HQ.out; omega
        have hcap2 : (ps.length : Int) ≤ (cap : Int) := by
          have := (hown.2.resolve_left (fun h => by cases h.1))
          obtain ⟨g', cap', cur, hv, _, _, h1, _⟩ := this
          injection hv with _ _ hv3
          subst hv3
          omega
        have hclr : ∀ ty, (Builtin.clear_ #[22] ty #[.slice (some ⟨g, i * 2, none⟩) (ps.length - i) (cap - i)]).run Tryz.prog wr = .ok (.tuple #[]) (wr.setCells g (i * 2) (Builtin.zeroCells #[.string ⟨#[]⟩, .slice none 0 0] (ps.length - i)).toList) := fun ty =>
          run_clear2 wr _ _ ty _ Tryz.underlying22 run_zeroA _ _ rfl rfl rfl g (i * 2) _ _ (by omega) (fun t ht => by
            have hlen : i * 2 + t < (rowA qs).length := by rw [rowA_len, HQ.out]; omega
            rw [hcl _ _ (List.getElem?_eq_getElem hlen)]; rfl) (fun t _ => hfz _)
        have hfin := own_setCells (Builtin.zeroCells #[.string ⟨#[]⟩, .slice none 0 0] (ps.length - i)).toList (i * 2) wr (own_take hown i (by omega)) (Nat.le_refl _)
        have hgs := grown_setCells (Builtin.zeroCells #[.string ⟨#[]⟩, .slice none 0 0] (ps.length - i)).toList (i * 2) wr hg
        rw [rowA_take, ← hFE] at hfin
        have HFE := Lib.hid hFE
        have HFL := Lib.hid hFL
        have HFIN := Lib.hid hfin
        have HGS := Lib.hid hgs
        clear hFE hFL hfin hgs hcl hfz hown hg hinv hsame
        go_wp2_with fail
        go_ret
        exact ⟨by rw [HFL.out]; rfl, by rw [HFL.out]; exact HFIN.out, HGS.out⟩
theorem delB_any (fn : Nat) (lb : Array Value) (eg : FnB fn) (p : Bs × Nat → Bool) (base : Nat) (v : Value) (ps : List (Idn.Att × Value)) (w : World) (h : AttOwn w base v ps) (hbase : base ≤ w.heap.size) (hl : ps.length ≤ 1000000) (hp : ∀ g, v.ownBlock = some g → PredG g fn lb p w) :
    Calls Tryz.prog 82 #[v, .func (.func fn) #[] lb] w fun e w' => ∃ v', e = .returned v' ∧ AttOwn w' base v' (ps.filter fun q => !p (nmA q)) ∧ Below base w w' ∧ w.grownBy w' v.ownBlock ∧ v'.ownBlock = v.ownBlock := by
  obtain ⟨A, cap, hv⟩ := own_shape h.1
  subst hv
  rcases h.1.2 with ⟨hnil, hn0⟩ | ⟨g, cap', cur, hv, hbg, hgg, h1, h2, h3, h4⟩
  · have hps : ps = [] := List.eq_nil_of_length_eq_zero hn0
    subst hps
    have hI := idxA_any fn lb eg p _ [] w h.names (by simp) (fun W x A c hx _ => by cases hx)
    rw [idxP_none (by rfl)] at hI
    clear hn0 hp
    go_enter Tryz.func82, Tryz.ntmps82
    go_wp2_with fail
    refine hI.mono ?_
    rintro e w1 ⟨rfl, hb1⟩
    go_wp2
    go_ret
    exact ⟨_, rfl, h.keep hb1, hb1.mono hbase, grown_of_below hb1 _, rfl⟩
  · injection hv with hv1 hv2 hv3
    subst hv1 hv3
    refine (delRow_any fn lb eg p g cap base ps w h hl (hp g rfl)).mono ?_
    rintro e w' ⟨rfl, hown, hg⟩
    refine ⟨_, rfl, ⟨hown, fun q hq => ?_, h.2.2.sublist (List.filter_sublist)⟩, (Below.refl base w).grown hg hbase (fun x hx => by injection hx with hx; omega), hg, rfl⟩
    have hq' := (List.mem_filter.1 hq).1
    exact own_kept (h.2.1 q hq') hg fun k hk hk' => own_apart h.1 (h.2.1 q hq') (by decide) g rfl (by rw [hk', hk])
theorem delA_any (fn : Nat) (lb : Array Value) (eg : FnB fn) (p : Bs × Nat → Bool) (base : Nat) (v : Value) (ps : List (Idn.Att × Value)) (w : World) (h : AttOwn w base v ps) (hbase : base ≤ w.heap.size) (hl : ps.length ≤ 1000000) (hp : ∀ g, v.ownBlock = some g → PredG g fn lb p w) :
    Calls Tryz.prog 82 #[v, .func (.func fn) #[] lb] w fun e w' => ∃ v', e = .returned v' ∧ AttOwn w' base v' (ps.filter fun q => !p (nmA q)) ∧ Below base w w' :=
  (delB_any fn lb eg p base v ps w h hbase hl hp).mono fun _ _ ⟨v', h1, h2, h3, _, _⟩ => ⟨v', h1, h2, h3⟩
end Go.Proofs.YtoopoglkeeoamaaGreatDoor
