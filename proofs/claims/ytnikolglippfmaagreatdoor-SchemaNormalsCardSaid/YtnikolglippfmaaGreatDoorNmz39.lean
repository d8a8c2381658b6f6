/- Part 39 of the proof that Normal and Compare return the specified results: the package variables hold what the program lays; nothing else is asked. -/
import Derived.Test.YtnikolglippfmaaGreatDoorNmz22
import Derived.Test.YtnikolglippfmaaGreatDoorNmz28
import Derived.Test.YtnikolglippfmaaGreatDoorNmz33
import Derived.Test.YtnikolglippfmaaGreatDoorNmz36
/- identityref06: Sorted. -/
namespace Go.Proofs.YtnikolglippfmaaGreatDoor
open Go.RowKit Go.Sort
open Idn (L B Bs drop_L take_L size_L)
def PairAt (X : World) (p : Nat) (a b : Value) : Prop :=
  (X.cell? ⟨p, 0, none⟩ = some a ∧ X.cell? ⟨p, 1, none⟩ = some b) ∧ (X.frozen? ⟨p, 0, none⟩ = false ∧ X.frozen? ⟨p, 1, none⟩ = false) ∧ p < X.heap.size
theorem PairAt.keep {X Y : World} {p : Nat} {a b : Value} (h : PairAt X p a b) {lo : Nat} (hb : Below lo X Y) (hp : p < lo) : PairAt Y p a b := by
  obtain ⟨⟨h0, h1⟩, ⟨g0, g1⟩, hl⟩ := h
  exact ⟨⟨(hb.cell (p := ⟨p, 0, none⟩) hp).trans h0, (hb.cell (p := ⟨p, 1, none⟩) hp).trans h1⟩, ⟨(hb.frozen (p := ⟨p, 0, none⟩) hp).trans g0, (hb.frozen (p := ⟨p, 1, none⟩) hp).trans g1⟩, Nat.lt_of_lt_of_le hl hb.size⟩
theorem PairAt.put {X : World} {p : Nat} {a b : Value} (h : PairAt X p a b) (c : Value) : PairAt (X.setCell ⟨p, 1, none⟩ c) p a c := by
  obtain ⟨⟨h0, h1⟩, ⟨g0, g1⟩, hl⟩ := h
  exact ⟨⟨by simp [go_sem, h0, h1], by simp [go_sem, h0, h1]⟩, ⟨by simp [g0], by simp [g1]⟩, by simpa using hl⟩
theorem insAll_snoc (xs : List Bs) (n : Bs) : Idn.insAll (xs ++ [n]) = Idn.insS n (Idn.insAll xs) := by unfold Idn.insAll; rw [List.foldl_append]; rfl
theorem insAll_app (xs ys : List Bs) (n : Bs) : Idn.insAll (xs ++ (ys ++ [n])) = Idn.insS n (Idn.insAll (xs ++ ys)) := by rw [← List.append_assoc, insAll_snoc]
theorem foldl_ins_len : ∀ (l acc : List Bs), (l.foldl (fun a n => Idn.insS n a) acc).length ≤ acc.length + l.length
  | [], acc => by simp
  | n :: l, acc => by
    have h1 := foldl_ins_len l (Idn.insS n acc)
    have h2 := insS_len n acc
    simp only [List.foldl_cons, List.length_cons]
    omega
theorem insAll_len (l : List Bs) : (Idn.insAll l).length ≤ l.length := by
  have := foldl_ins_len l []
  simpa [Idn.insAll] using this
theorem lows_take (l : List Idn.Att) (k : Nat) (hk : k < l.length) : Idn.lows (l.take (k + 1)) = Idn.lows (l.take k) ++ (if 0 < l[k].vals.length then [Idn.lower l[k].name] else []) := by
  rw [List.take_succ_eq_append_getElem hk]
  unfold Idn.lows
  rw [List.filter_append, List.map_append]
  by_cases h : 0 < l[k].vals.length
  · rw [if_pos h, List.filter_cons_of_pos (by simpa using h)]; rfl
  · rw [if_neg h, List.filter_cons_of_neg (by simpa using h)]; rfl
theorem vals_take (l : List Idn.Att) (n : Bs) (k : Nat) (hk : k < l.length) : Idn.valsOf (l.take (k + 1)) n = Idn.valsOf (l.take k) n ++ (if Idn.lower l[k].name = n then l[k].vals else []) := by
  rw [List.take_succ_eq_append_getElem hk]
  unfold Idn.valsOf
  rw [List.filter_append, List.flatMap_append]
  by_cases h : Idn.lower l[k].name = n
  · rw [if_pos h, List.filter_cons_of_pos (by simpa using h)]; simp
  · rw [if_neg h, List.filter_cons_of_neg (by simpa using h)]; rfl
theorem lows_len (l : List Idn.Att) : (Idn.lows l).length ≤ l.length := by
  unfold Idn.lows
  rw [List.length_map]
  exact List.length_filter_le _ _
theorem vals_len {l : List Idn.Att} {c : Nat} (h : ∀ a ∈ l, a.vals.length ≤ c) (n : Bs) : (Idn.valsOf l n).length ≤ l.length * c := by
  unfold Idn.valsOf
  refine Nat.le_trans (flat_len (·.vals) c _ fun a ha => h a (List.mem_filter.1 ha).1) ?_
  exact Nat.mul_le_mul_right _ (List.length_filter_le _ _)
theorem insAll_pw (l : List Bs) : (Idn.insAll l).Pairwise (· < ·) := Idn.insAll_lt l
set_option maxHeartbeats 4000000 in
set_option maxRecDepth 100000 in
theorem r_Sorted_any (v : Value) (l : List Idn.Att) (w : World) (hv : AttsV w w.heap.size v l) (hs : Idn.ASm7 l) :
    Calls Tryz.prog 72 #[v] w fun e w' => ∃ v' ps, e = .returned v' ∧ AttRow w' w.heap.size v' ps ∧ ps.map (·.1) = Idn.rSorted l ∧ Below w.heap.size w w' := by
  obtain ⟨A, c, rfl, hc⟩ := SlV.shape hv
  have hl1 := hs.1
  have hnl : (Idn.insAll (Idn.lows l)).length ≤ 1000 := Nat.le_trans (insAll_len _) (Nat.le_trans (lows_len l) hl1)
  go_enter Tryz.func72, Tryz.ntmps72
  go_wp2
  go_loopw [3, 4] (fun u i wr => ∃ (k : Nat) (acc : List Bs), k ≤ l.length ∧ i = .int .i64 k ∧ wr.ownsRow w.heap.size 9 1 u acc.length (acc.map sv) ∧ Below w.heap.size w wr ∧ Hid (acc = Idn.insAll (Idn.lows (l.take k)))) (fun _ i _ => l.length - (intOf i).toNat)
  case atStart => exact ⟨0, [], Nat.zero_le _, rfl, World.ownsRow_nil _ _ _ _, Below.refl _ _, rfl⟩
  case round =>
    obtain ⟨k, acc, hk, rfl, hown, hb, hacc⟩ := hrel
    by_cases hlt : k < l.length
    · have hltI : (k : Int) < (l.length : Int) := by omega
      obtain ⟨b, off, va, rfl, hbl, c0, c1, hva⟩ := AttsV.cell (AttsV.keep hv hb) hlt
      obtain ⟨Av, cv, rfl, hcv⟩ := SlV.shape hva
      have hlk := lows_take l k hlt
      obtain ⟨hn9, hv9, _⟩ := hs.2 l[k] (List.getElem_mem hlt)
      by_cases hz : 0 < l[k].vals.length
      · have hzI : (0 : Int) < (l[k].vals.length : Int) := by omega
        rw [if_pos hz] at hlk
        have hL := r_lower_any (B l[k].name) wr (by rw [Idn.size_B]; omega)
        rw [Idn.L_B] at hL
        have HA : Hid (Idn.insS (Idn.lower l[k].name) acc = Idn.insAll (Idn.lows (l.take (k + 1)))) := by show _ = _; rw [hlk, insAll_snoc, hacc.out]
        have hpw : acc.Pairwise (· < ·) := by rw [hacc.out]; exact insAll_pw _
        have hal : acc.length ≤ 1000 := by
          rw [hacc.out]
          refine Nat.le_trans (insAll_len _) (Nat.le_trans (lows_len _) ?_)
          rw [List.length_take]; omega
        have hI := fun W (hW : Below wr.heap.size wr W) => r_Insert_any _ acc (B (Idn.lower l[k].name)) W (SlV.mono (SlV.keep (StrsV.of_own hown) hW) hW.size) hpw (by omega)
        rw [Idn.L_B] at hI
        generalize Idn.lower l[k].name = nm at *
        clear hlk hacc hpw
        obtain ⟨Au, cu, hu⟩ := own_shape hown
        subst hu
        go_wp2_with fail
        refine hL.mono ?_
        rintro e w1 ⟨rfl, hb1⟩
        have hI1 := hI w1 hb1
        clear hL hI c0 c1 hown
        go_wp2_with fail
        refine hI1.mono ?_
        rintro e w2 ⟨v2, rfl, ho2, hb2⟩
        clear hI1
        have hb12 := hb1.trans (hb2.mono hb1.size)
        have hbw2 := hb.trans (hb12.mono hb.size)
        have ho2' := own_base ho2 (Nat.le_trans hb.size hb1.size)
        clear ho2
        go_wp2
        go_roundw
        case rel => exact ⟨k + 1, _, by omega, by go_num, ho2', hbw2, HA⟩
        case measure => simp [intOf]; omega
      · have hzI : ¬ (0 : Int) < (l[k].vals.length : Int) := by omega
        rw [if_neg hz, List.append_nil] at hlk
        have HA : Hid (acc = Idn.insAll (Idn.lows (l.take (k + 1)))) := by show _ = _; rw [hlk, hacc.out]
        clear hlk hacc hz
        go_wp2
        go_roundw
        case rel => exact ⟨k + 1, acc, by omega, by go_num, hown, hb, HA⟩
        case measure => simp [intOf]; omega
    · have hltI : ¬ (k : Int) < (l.length : Int) := by omega
      have e1 : l.take k = l := List.take_of_length_le (by omega)
      have HN : Hid (acc = Idn.insAll (Idn.lows l)) := by show _ = _; rw [hacc.out, e1]
      have hal : acc.length ≤ 1000 := by rw [HN.out]; exact hnl
      obtain ⟨wn, hwn⟩ : ∃ wn : World, wn = wr := ⟨_, rfl⟩
      subst hwn
      obtain ⟨Au, cu, hu⟩ := own_shape hown
      subst hu
      have hvn := AttsV.keep hv hb
      have hS := StrsV.of_own hown
      clear hacc e1 hnl hlt hk hown
      go_wp2
      clear hltI
      go_loopw [5, 6] (fun u i wr => ∃ (k : Nat) (ps : List (Idn.Att × Value)), k ≤ acc.length ∧ i = .int .i64 k ∧ AttRow wr wn.heap.size u ps ∧ Below wn.heap.size wn wr ∧ ps.length = k ∧ Hid (ps.map (·.1) = (acc.take k).map (Idn.rOne l))) (fun _ i _ => acc.length - (intOf i).toNat)
      case atStart => exact ⟨0, [], Nat.zero_le _, rfl, AttRow.nil _ _, Below.refl _ _, rfl, rfl⟩
      case round =>
        obtain ⟨k, ps, hk, rfl, hrow, hbn, hpl, hps⟩ := hrel
        by_cases hlt : k < acc.length
        · have hltI : (k : Int) < (acc.length : Int) := by omega
          obtain ⟨g, o, rfl, hgl, d0⟩ := StrsV.cell (SlV.keep hS hbn) hlt
          obtain ⟨w0, hw0⟩ : ∃ w0 : World, w0 = wr := ⟨_, rfl⟩
          subst hw0
          have htk := List.take_succ_eq_append_getElem hlt
          have HTK := Lib.hid htk
          have HPL := Lib.hid hpl
          clear htk hpl
          obtain ⟨Ar, cr, hu⟩ := own_shape hrow.1
          subst hu
          generalize hnm : acc[k] = nm at *
          have HNM := Lib.hid hnm
          clear hnm
          go_upto_block 4 with fail
          with_reducible refine gen1 (R := fun W => Code.wp Tryz.prog _ _ _ W) ?_
          intro W1 hbW1 hszW1 hc1 hf1
          have hP1 : PairAt W1 w0.heap.size (.string (B nm)) (.slice none 0 0) := ⟨⟨hc1 0 _ rfl, hc1 1 _ rfl⟩, ⟨hf1 0, hf1 1⟩, by omega⟩
          clear hc1 hf1
          go_wp2_with fail
          go_loopw [8] (fun i wx => ∃ (j : Nat) (vs : List Bs) (u : Value), j ≤ l.length ∧ i = .int .i64 j ∧ Below w0.heap.size w0 wx ∧ PairAt wx w0.heap.size (.string (B nm)) u ∧ wx.ownsRow (w0.heap.size + 1) 9 1 u vs.length (vs.map sv) ∧ Hid (vs = Idn.insAll (Idn.valsOf (l.take j) nm))) (fun i _ => l.length - (intOf i).toNat)
          case atStart => exact ⟨0, [], _, Nat.zero_le _, rfl, hbW1, hP1, World.ownsRow_nil _ _ _ _, rfl⟩
          case round =>
            obtain ⟨j, vs, u, hj, rfl, hbx, hP, hvs, hacc⟩ := hrel
            clear hP1 hbW1 hszW1
            by_cases hjl : j < l.length
            · have hjI : (j : Int) < (l.length : Int) := by omega
              have hvt := vals_take l nm j hjl
              have HVT := Lib.hid hvt
              clear hvt
              obtain ⟨hn9, hv9, _⟩ := hs.2 l[j] (List.getElem_mem hjl)
              obtain ⟨wj, hwj⟩ : ∃ wj : World, wj = wr := ⟨_, rfl⟩
              subst hwj
              go_wp2
              go_loopw [9] (fun i wx => ∃ (m : Nat) (vs : List Bs) (u : Value), m ≤ l[j].vals.length ∧ i = .int .i64 m ∧ Below w0.heap.size w0 wx ∧ PairAt wx w0.heap.size (.string (B nm)) u ∧ wx.ownsRow (w0.heap.size + 1) 9 1 u vs.length (vs.map sv) ∧ Hid (vs = Idn.insAll (Idn.valsOf (l.take j) nm ++ l[j].vals.take m)) ∧ (Idn.lower l[j].name = nm ∨ m = 0)) (fun i _ => l[j].vals.length - (intOf i).toNat)
              case atStart => exact ⟨0, vs, u, Nat.zero_le _, rfl, hbx, hP, hvs, by show _ = _; rw [hacc.out]; simp, .inr rfl⟩
              case round =>
                obtain ⟨m, vs, u, hm, rfl, hbx, hP, hvs, hacc, hor⟩ := hrel
                have hbnx := hbn.trans (hbx.mono hbn.size)
                obtain ⟨b, off, va, rfl, hbl, c0, c1, hva⟩ := AttsV.cell (AttsV.keep hvn (hbnx.mono hb.size)) hjl
                obtain ⟨Av, cv, rfl, hcv⟩ := SlV.shape hva
                have e0 := (hbx.cell (p := ⟨g, o + k, none⟩) (Nat.lt_of_lt_of_le hgl hbn.size)).trans d0
                have hL := fun W => r_lower_any (B l[j].name) W (by rw [Idn.size_B]; omega)
                rw [Idn.L_B] at hL
                have k0 := cell_regrown c0
                have k1 := cell_regrown c1
                have k2 := cell_regrown e0
                have q1 := cq (W := wr) fun W' _ => hL W'
                have hsame : (((B (Idn.lower l[j].name)).toList == (B nm).toList)) = decide (Idn.lower l[j].name = nm) := by rw [str_beq, Idn.L_B, Idn.L_B]
                by_cases he : Idn.lower l[j].name = nm
                · rw [decide_eq_true he] at hsame
                  by_cases hml : m < l[j].vals.length
                  · have hmI : (m : Int) < (l[j].vals.length : Int) := by omega
                    have HS : Hid (Idn.insS l[j].vals[m] vs = Idn.insAll (Idn.valsOf (l.take j) nm ++ l[j].vals.take (m + 1))) := by
                      show _ = _
                      rw [hacc.out, List.take_succ_eq_append_getElem hml, insAll_app]
                    have hpw : vs.Pairwise (· < ·) := by rw [hacc.out]; exact insAll_pw _
                    have hvl : vs.length ≤ 2000000000 := by
                      rw [hacc.out]
                      refine Nat.le_trans (insAll_len _) ?_
                      have h1 := vals_len (l := l.take j) (c := 1000000) (fun a ha => (hs.2 a (List.mem_of_mem_take ha)).2.1) nm
                      rw [List.length_append, List.length_take]
                      rw [List.length_take] at h1
                      have h2 : min j l.length * 1000000 ≤ 1000 * 1000000 := Nat.mul_le_mul_right _ (by omega)
                      omega
                    clear hacc hor
                    generalize Idn.lower l[j].name = ln at *
                    have HE := Lib.hid he
                    clear he hL
                    go_wp2
                    refine wp_region_quiet_below (by kernel_rfl) (by kernel_rfl) ?_
                    repeat (first | go_big_quiet_step ((go_at_call 73; exact q1 _ _)) | quiet_step ((go_at_call 73; exact q1 _ _)))
                    refine wpQuiet_nil ?_
                    intro _ hw'
                    obtain ⟨⟨dq, osq⟩, hw''⟩ := hw'
                    subst hw''
                    have hb4 := below_regrown wr dq osq
                    generalize grow (redrawn wr dq) osq = W4 at hb4 ⊢
                    clear q1 k0 k1 k2
                    have hpx : w0.heap.size < wr.heap.size := hP.2.2
                    have hP4 := PairAt.keep hP hb4 hpx
                    have hvs4 := own_below hvs hb4
                    have f1 := cell_later hb4 c1
                    have hb04 := hbx.trans (hb4.mono hbx.size)
                    obtain ⟨gv, ov, rfl, hgv, m0⟩ := StrsV.cell (SlV.keep (SlV.mono hva (Nat.le_trans hb.size (Nat.le_trans hbn.size hbx.size))) hb4) hml
                    clear c0 c1 e0 hP hvs
                    have hIn := r_Insert_any u vs (B l[j].vals[m]) W4.drew (StrsV.of_own (w := W4.drew) hvs4) hpw (by omega)
                    rw [Idn.L_B] at hIn
                    have z1 : W4.drew.cell? ⟨w0.heap.size, 1, none⟩ = some u := hP4.1.2
                    have z2 : W4.drew.cell? ⟨b, off + j * 2 + 1, none⟩ = some (.slice (some ⟨gv, ov, none⟩) l[j].vals.length cv) := f1
                    have z3 : W4.drew.cell? ⟨gv, ov + m, none⟩ = some (.string (B l[j].vals[m])) := m0
                    have z4 : W4.drew.frozen? ⟨w0.heap.size, 1, none⟩ = false := hP4.2.1.2
                    have hP4d : PairAt W4.drew w0.heap.size (.string (B nm)) u := hP4
                    have hb04d : Below w0.heap.size w0 W4.drew := hb04.drew
                    have hpx4 : w0.heap.size < W4.drew.heap.size := hP4d.2.2
                    obtain ⟨Ab, cb, hu⟩ := own_shape hvs4
                    subst hu
                    clear m0 f1 hP4 hvs4
                    go_wp2_with fail
                    go_region_law (
                      go_simp
                      go_at_call 119
                      refine hIn.mono ?_
                      rintro e w6 ⟨v6, rfl, ho6, hb6⟩
                      have hP6 := PairAt.keep hP4d hb6 hpx4
                      obtain ⟨⟨r0, r1⟩, ⟨s0, s1⟩, hl6⟩ := hP6
                      obtain ⟨A6, c6, hv6⟩ := own_shape ho6
                      subst hv6
                      go_wp2_with fail)
                    all_goals
                      have hP6 : PairAt (w6.setCell ⟨w0.heap.size, 1, none⟩ (.slice A6 (Idn.insS l[j].vals[m] vs).length c6)) w0.heap.size (.string (B nm)) (.slice A6 (Idn.insS l[j].vals[m] vs).length c6) := PairAt.put (PairAt.keep hP4d hb6 hpx4) _
                      have hne9 : (Value.slice A6 (Idn.insS l[j].vals[m] vs).length c6).ownBlock ≠ some w0.heap.size := fun e => absurd (ho6.lt _ e).1 (Nat.not_le.2 hpx4)
                      have ho7 : (w6.setCell ⟨w0.heap.size, 1, none⟩ (.slice A6 (Idn.insS l[j].vals[m] vs).length c6)).ownsRow (w0.heap.size + 1) 9 1 (.slice A6 (Idn.insS l[j].vals[m] vs).length c6) (Idn.insS l[j].vals[m] vs).length ((Idn.insS l[j].vals[m] vs).map sv) :=
                        own_base (ownsRow_setCell_other ho6 hne9 _) hpx4
                      have hb7 : Below w0.heap.size w0 (w6.setCell ⟨w0.heap.size, 1, none⟩ (.slice A6 (Idn.insS l[j].vals[m] vs).length c6)) := (hb04d.trans (hb6.mono hb04d.size)).setCell (Nat.le_refl _) _
                      go_wp2_with fail
                      go_roundw
                      case rel => exact ⟨m + 1, _, _, by omega, by go_num, hb7, hP6, ho7, HS, .inl HE.out⟩
                      case measure => simp [intOf]; omega
                  · have hmI : ¬ (m : Int) < (l[j].vals.length : Int) := by omega
                    have HS : Hid (vs = Idn.insAll (Idn.valsOf (l.take (j + 1)) nm)) := by
                      show _ = _
                      rw [hacc.out, HVT.out, if_pos he, (List.take_of_length_le (by omega) : l[j].vals.take m = l[j].vals)]
                    clear hacc hor
                    generalize Idn.lower l[j].name = ln at *
                    clear he hL
                    go_wp2
                    refine wp_region_quiet_below (by kernel_rfl) (by kernel_rfl) ?_
                    repeat (first | go_big_quiet_step ((go_at_call 73; exact q1 _ _)) | quiet_step ((go_at_call 73; exact q1 _ _)))
                    refine wpQuiet_nil ?_
                    intro _ hw'
                    obtain ⟨⟨dq, osq⟩, hw''⟩ := hw'
                    subst hw''
                    have hb4 := below_regrown wr dq osq
                    generalize grow (redrawn wr dq) osq = W4 at hb4 ⊢
                    clear q1 k0 k1 k2
                    have hP4 := PairAt.keep hP hb4 hP.2.2
                    have hvs4 := own_below hvs hb4
                    have hb04 := hbx.trans (hb4.mono hbx.size)
                    clear c0 c1 e0 hP hvs
                    go_wp2_with fail
                    go_roundw
                    case rel => exact ⟨j + 1, vs, u, by omega, by go_num, hb04, hP4, hvs4, HS⟩
                    case measure => simp [intOf]; omega
                · rw [decide_eq_false he] at hsame
                  obtain rfl : m = 0 := hor.resolve_left he
                  have HS : Hid (vs = Idn.insAll (Idn.valsOf (l.take (j + 1)) nm)) := by
                    show _ = _
                    rw [hacc.out, HVT.out, if_neg he]; rfl
                  clear hacc hor
                  generalize Idn.lower l[j].name = ln at *
                  clear he hL
                  go_wp2
                  refine wp_region_quiet_below (by kernel_rfl) (by kernel_rfl) ?_
                  repeat (first | go_big_quiet_step ((go_at_call 73; exact q1 _ _)) | quiet_step ((go_at_call 73; exact q1 _ _)))
                  refine wpQuiet_nil ?_
                  intro _ hw'
                  obtain ⟨⟨dq, osq⟩, hw''⟩ := hw'
                  subst hw''
                  have hb4 := below_regrown wr dq osq
                  generalize grow (redrawn wr dq) osq = W4 at hb4 ⊢
                  clear q1 k0 k1 k2
                  have hP4 := PairAt.keep hP hb4 hP.2.2
                  have hvs4 := own_below hvs hb4
                  have hb04 := hbx.trans (hb4.mono hbx.size)
                  clear c0 c1 e0 hP hvs
                  go_wp2_with fail
                  go_roundw
                  case rel => exact ⟨j + 1, vs, u, by omega, by go_num, hb04, hP4, hvs4, HS⟩
                  case measure => simp [intOf]; omega
            · have hjI : ¬ (j : Int) < (l.length : Int) := by omega
              have e1 : l.take j = l := List.take_of_length_le (by omega)
              have HV : Hid (vs = Idn.insAll (Idn.valsOf l nm)) := by show _ = _; rw [hacc.out, e1]
              have hrow2 := hrow.keep hbx
              obtain ⟨⟨p0, p1⟩, _, hpx⟩ := hP
              have hbase : wn.heap.size ≤ w0.heap.size := hbn.size
              have hbx2 := hbx.size
              obtain ⟨Ab, cb, hu⟩ := own_shape hvs
              subst hu
              have hwx : wn.heap.size ≤ wr.heap.size := by omega
              have hrl : (ps.length + 1) * 41 ≤ 140737488355328 := by have := HPL.out; omega
              clear hacc e1 hjl hj hrow
              go_wp2_with (at_builtin; refine wpList_push wr rfl _ _ 36 rfl wn.heap.size 64 (.agg #[.string ⟨#[]⟩, .slice none 0 0]) 2 40 Tryz.underlying36 info_attr rfl (by decide) _ ps.length _ hrow2.1 rfl [.string (B nm), .slice Ab vs.length cb] rfl rfl (by intro u hu; simp at hu; rcases hu with rfl | rfl <;> rfl) hrl hwx ?_ rfl)
              intro v' w1' hown' hg' _ hb' _
              have hrow3 : AttRow w1' wn.heap.size v' (ps ++ [(⟨nm, vs⟩, .slice Ab vs.length cb)]) := AttRow.push hrow2 (own_base hvs (by omega)) (by simpa [sv] using hown') hg'
              have hbw1 : Below wn.heap.size wn w1' := (hbn.trans (hbx.mono hbn.size)).trans hb'
              go_wp2
              go_roundw
              case rel => exact ⟨k + 1, _, by omega, by go_num, hrow3, hbw1, by simp; exact HPL.out, by
                show _ = _
                rw [HTK.out, List.map_append, List.map_append, hps.out]
                simp only [List.map_cons, List.map_nil]
                rw [HV.out]; rfl⟩
              case measure => simp [intOf]; omega
        · have hltI : ¬ (k : Int) < (acc.length : Int) := by omega
          have e1 : acc.take k = acc := List.take_of_length_le (by omega)
          have HF : Hid (ps.map (·.1) = Idn.rSorted l) := by show _ = _; rw [hps.out, e1, HN.out]; rfl
          clear hps e1
          go_wp2
          go_ret
          exact ⟨_, rfl, ps, hrow.low hb.size, HF.out, hb.trans (hbn.mono hb.size)⟩
end Go.Proofs.YtnikolglippfmaaGreatDoor
/- law07: light, subset, raised. -/
namespace Go.Proofs.YtnikolglippfmaaGreatDoor
open Go.RowKit Go.Sort
open Idn (L B Bs drop_L take_L size_L)
def lightA (a : Idn.Att) : Bool := decide (a.name.length ≤ 300) && (decide (a.vals.length ≤ 20) && a.vals.all fun x => decide (x.length ≤ 300))
def light (l : List Idn.Att) : Bool := l.all lightA && decide (l.length ≤ 40)
theorem light_sm {l : List Idn.Att} (h : light l = true) : l.length ≤ 40 ∧ ∀ a ∈ l, a.name.length ≤ 300 ∧ a.vals.length ≤ 20 ∧ ∀ x ∈ a.vals, x.length ≤ 300 := by
  unfold light at h
  simp only [Bool.and_eq_true, decide_eq_true_eq, List.all_eq_true] at h
  refine ⟨h.2, fun a ha => ?_⟩
  have := h.1 a ha
  unfold lightA at this
  simp only [Bool.and_eq_true, decide_eq_true_eq, List.all_eq_true] at this
  exact this
theorem light_asm {l : List Idn.Att} (h : light l = true) : ASm l ∧ ASm5 l ∧ Idn.ASm7 l := by
  obtain ⟨h1, h2⟩ := light_sm h
  refine ⟨⟨by omega, fun a ha => ⟨by have := (h2 a ha).1; omega, by have := (h2 a ha).2.1; omega, fun x hx => by have := (h2 a ha).2.2 x hx; omega⟩⟩, fun a ha => ⟨by have := (h2 a ha).1; omega, fun x hx => by have := (h2 a ha).2.2 x hx; omega⟩, by omega, fun a ha => ⟨by have := (h2 a ha).1; omega, by have := (h2 a ha).2.1; omega, fun x hx => by have := (h2 a ha).2.2 x hx; omega⟩⟩
set_option maxHeartbeats 1000000 in
set_option maxRecDepth 100000 in
theorem light_any (v : Value) (l : List Idn.Att) (w : World) (hv : EntV w w.heap.size v l) (hl : ALen l) :
    Calls Tryz.prog 14 #[v] w fun e w' => e = .returned (.bool (light l)) ∧ Below w.heap.size w w' := by
  obtain ⟨nm, a, rfl, hT⟩ := hv
  obtain ⟨A, ca, rfl, hca⟩ := SlV.shape hT
  generalize hr : light l = r
  have hR := Lib.hid hr
  clear hr
  have hl1 := hl.1
  go_enter Tryz.func14, Tryz.ntmps14
  go_wp2
  with_reducible refine gen1 (R := fun W => Code.wp Tryz.prog _ _ _ W) ?_
  intro W hbW hszW hc1 _
  have b1 := hc1 1 _ rfl
  clear hc1
  go_loopw [3] (fun i wr => ∃ k : Nat, k ≤ l.length ∧ i = .int .i64 k ∧ Below W.heap.size W wr ∧ Hid (l.all lightA = (l.drop k).all lightA)) (fun i _ => l.length - (intOf i).toNat)
  case atStart => exact ⟨0, Nat.zero_le _, rfl, Below.refl _ _, by show _ = _; simp⟩
  case round =>
    obtain ⟨k, hk, rfl, hb, hinv⟩ := hrel
    have hbw := hbW.trans (hb.mono hbW.size)
    replace b1 := cell_later hb b1
    by_cases hlt : k < l.length
    · obtain ⟨b, off, va, rfl, hbl, c0, c1, hva⟩ := AttsV.cell (AttsV.keep hT hbw) hlt
      obtain ⟨Av, cv, rfl, hcv⟩ := SlV.shape hva
      have hvl := hl.2 l[k] (List.getElem_mem hlt)
      have hltI : (k : Int) < (l.length : Int) := by omega
      have hd := List.drop_eq_getElem_cons hlt
      have hq : Hid (l.all lightA = (lightA l[k] && (l.drop (k + 1)).all lightA)) := by show _ = _; rw [hinv.out, hd, List.all_cons]
      have hz := Idn.size_B l[k].name
      clear hinv hd
      go_upto_region 5 with fail
      with_reducible refine gen1 (R := fun W => Code.wp Tryz.prog _ _ _ W) ?_
      intro W1 hbW1 hszW1 hc1 _
      have d0 : W1.cell? ⟨wr.heap.size, 0, none⟩ = some (.string (B l[k].name)) := hc1 0 _ rfl
      have d1 : W1.cell? ⟨wr.heap.size, 1, none⟩ = some (.slice Av l[k].vals.length cv) := hc1 1 _ rfl
      have e1 := cell_later hbW1 b1
      have hb1 := hb.trans (hbW1.mono hb.size)
      have hbw1 := hbw.trans (hbW1.mono hbw.size)
      have hva1 := SlV.keep hva (hbW1.mono hbw.size)
      clear hc1 c0 c1 b1
      by_cases n1 : l[k].name.length ≤ 300
      case neg =>
        have HF : Hid (r = false) := by show _ = _; rw [← hR.out, light, hq.out, lightA, decide_eq_false n1]; rfl
        have h1 : (300 : Int) < ((B l[k].name).size : Int) := by omega
        clear hq n1 hz
        go_wp2
        go_ret
        exact ⟨ret_bool (by rw [HF.out]), hbw1⟩
      have h1 : ((B l[k].name).size : Int) ≤ 300 := by omega
      by_cases n2 : l[k].vals.length ≤ 20
      case neg =>
        have HF : Hid (r = false) := by show _ = _; rw [← hR.out, light, hq.out, lightA, decide_eq_true n1, decide_eq_false n2]; rfl
        have h2 : (20 : Int) < (l[k].vals.length : Int) := by omega
        clear hq n1 n2 hz
        go_wp2
        go_ret
        exact ⟨ret_bool (by rw [HF.out]), hbw1⟩
      have h2 : (l[k].vals.length : Int) ≤ 20 := by omega
      have hq2 : Hid (lightA l[k] = l[k].vals.all fun x => decide (x.length ≤ 300)) := by show _ = _; rw [lightA, decide_eq_true n1, decide_eq_true n2]; rfl
      clear n1 n2 hz
      go_wp2
      go_loop [5] (fun i => ∃ j : Nat, j ≤ l[k].vals.length ∧ i = .int .i64 j ∧ Hid (lightA l[k] = (l[k].vals.drop j).all fun x => decide (x.length ≤ 300))) (fun i => l[k].vals.length - (intOf i).toNat)
      case atStart => exact ⟨0, Nat.zero_le _, rfl, hq2⟩
      case round =>
        obtain ⟨j, hj, rfl, hinv⟩ := hrel
        by_cases hjl : j < l[k].vals.length
        · obtain ⟨g, o, rfl, hgl, m0⟩ := StrsV.cell hva1 hjl
          have hd := List.drop_eq_getElem_cons hjl
          have hjI : (j : Int) < (l[k].vals.length : Int) := by omega
          have hsz := Idn.size_B l[k].vals[j]
          by_cases he : l[k].vals[j].length ≤ 300
          · have HF : Hid (lightA l[k] = (l[k].vals.drop (j + 1)).all fun x => decide (x.length ≤ 300)) := by show _ = _; rw [hinv.out, hd, List.all_cons, decide_eq_true he, Bool.true_and]
            have h3 : ((B l[k].vals[j]).size : Int) ≤ 300 := by omega
            clear hd hsz he hinv
            go_wp2
            go_round
            case rel => exact ⟨j + 1, by omega, by go_num, HF⟩
            case measure => simp [intOf]; omega
          · have HF : Hid (r = false) := by show _ = _; rw [← hR.out, light, hq.out, hinv.out, hd, List.all_cons, decide_eq_false he]; rfl
            have h3 : (300 : Int) < ((B l[k].vals[j]).size : Int) := by omega
            clear hd hsz he hinv
            go_wp2
            go_ret
            exact ⟨ret_bool (by rw [HF.out]), hbw1⟩
        · have HF : Hid (l.all lightA = (l.drop (k + 1)).all lightA) := by show _ = _; rw [hq.out, hinv.out, List.drop_eq_nil_of_le (by omega)]; rfl
          have hjI : ¬ (j : Int) < (l[k].vals.length : Int) := by omega
          clear hinv hq hq2
          go_wp2
          go_roundw
          case rel => exact ⟨k + 1, by omega, by go_num, hb1, HF⟩
          case measure => simp [intOf]; omega
    · have HF : Hid (r = decide ((l.length : Int) ≤ 40)) := by
        show _ = _
        rw [← hR.out, light, hinv.out, List.drop_eq_nil_of_le (by omega)]
        have : decide (l.length ≤ 40) = decide ((l.length : Int) ≤ 40) := by simp; omega
        rw [this]; rfl
      have hltI : ¬ (k : Int) < (l.length : Int) := by omega
      clear hinv
      go_wp2
      go_ret
      exact ⟨ret_bool (by rw [HF.out]), hbw⟩
set_option maxHeartbeats 1000000 in
set_option maxRecDepth 100000 in
theorem subset_any (v u : Value) (l m : List Bs) (w : World) (hv : StrsV w w.heap.size v l) (hu : StrsV w w.heap.size u m) (hl : l.length ≤ 1000000000) (hm : m.length ≤ 1000000000) (hsub : ∀ x ∈ l, x ∈ m) :
    Calls Tryz.prog 23 #[v, u] w fun e w' => e = .returned (.bool true) ∧ Below w.heap.size w w' := by
  obtain ⟨A, c, rfl, hc⟩ := hv.shape
  obtain ⟨A', c', rfl, hc'⟩ := hu.shape
  have HSUB : Hid (∀ x ∈ l, x ∈ m) := hsub
  clear hsub
  go_enter Tryz.func23, Tryz.ntmps23
  go_wp2
  go_loopw [5] (fun i wr => ∃ k : Nat, k ≤ l.length ∧ i = .int .i64 k ∧ Below w.heap.size w wr) (fun i _ => l.length - (intOf i).toNat)
  case atStart => exact ⟨0, Nat.zero_le _, rfl, Below.refl _ _⟩
  case round =>
    obtain ⟨k, hk, rfl, hb⟩ := hrel
    by_cases hlt : k < l.length
    · have hltI : (k : Int) < (l.length : Int) := by omega
      obtain ⟨b, off, rfl, hbl, c0⟩ := StrsV.cell hv hlt
      have HX : Hid (l[k] ∈ m) := HSUB.out _ (List.getElem_mem hlt)
      obtain ⟨wk, hwk⟩ : ∃ wk : World, wk = wr := ⟨_, rfl⟩
      subst hwk
      go_wp2
      go_loopw [6, 7] (fun d i wx => ∃ (j : Nat) (q : Bool), j ≤ m.length ∧ i = .int .i64 j ∧ d = .bool q ∧ Below w.heap.size w wx ∧ Hid (q = decide (l[k] ∈ m.take j))) (fun _ i _ => m.length - (intOf i).toNat)
      case atStart => exact ⟨0, false, Nat.zero_le _, rfl, rfl, hb, by show _ = _; simp⟩
      case round =>
        obtain ⟨j, q, hj, rfl, rfl, hbx, hq⟩ := hrel
        by_cases hjm : j < m.length
        · have hjI : (j : Int) < (m.length : Int) := by omega
          obtain ⟨b', off', rfl, hbl', c0'⟩ := StrsV.cell (SlV.keep hu hbx) hjm
          have c1 := (hbx.cell (p := ⟨b, off + k, none⟩) hbl).trans c0
          have htk := List.take_succ_eq_append_getElem hjm
          cases q
          · by_cases he : l[k] = m[j]
            · have ht : ((B l[k]).toList == (B m[j]).toList) = true := str_is (by rw [he])
              have HQ : Hid (true = decide (l[k] ∈ m.take (j + 1))) := (decide_eq_true (by rw [htk]; exact List.mem_append_right _ (by rw [he]; exact List.mem_singleton_self _))).symm
              clear htk he hq
              go_wp2
              go_quiet (fail)
              go_wp2
              go_roundw
              case rel => exact ⟨j + 1, true, by omega, by go_num, rfl, below_drewN hbx _, HQ⟩
              case measure => simp [intOf]; omega
            · have ht : ((B l[k]).toList == (B m[j]).toList) = false := str_not (by rw [Idn.L_B, Idn.L_B]; exact he)
              have HQ : Hid (false = decide (l[k] ∈ m.take (j + 1))) := by
                show _ = _
                have := hq.out
                rw [htk]
                simp only [List.mem_append, List.mem_singleton, he, or_false]
                exact this
              clear htk he hq
              go_wp2
              go_quiet (fail)
              go_wp2
              go_roundw
              case rel => exact ⟨j + 1, false, by omega, by go_num, rfl, below_drewN hbx _, HQ⟩
              case measure => simp [intOf]; omega
          · have HQ : Hid (true = decide (l[k] ∈ m.take (j + 1))) := by
              show _ = _
              have h1 := hq.out
              have h2 : l[k] ∈ m.take j := of_decide_eq_true h1.symm
              exact (decide_eq_true (by rw [htk]; exact List.mem_append_left _ h2)).symm
            clear htk hq
            go_wp2
            go_quiet (fail)
            go_wp2
            go_roundw
            case rel => exact ⟨j + 1, true, by omega, by go_num, rfl, below_drewN hbx _, HQ⟩
            case measure => simp [intOf]; omega
        · have hjI : ¬ (j : Int) < (m.length : Int) := by omega
          have hqt : q = true := by
            have h1 := hq.out
            rw [List.take_of_length_le (by omega)] at h1
            rw [h1]; exact decide_eq_true HX.out
          subst hqt
          clear hq
          go_wp2
          go_roundw
          case rel => exact ⟨k + 1, by omega, by go_num, hbx⟩
          case measure => simp [intOf]; omega
    · have hltI : ¬ (k : Int) < (l.length : Int) := by omega
      go_wp2
      go_ret
      exact ⟨rfl, hb⟩
end Go.Proofs.YtnikolglippfmaaGreatDoor
