/- Part 42 of the proof that SchemaOrders: the package variables hold what the program lays; nothing else is asked. -/
import Derived.Test.YtnaaoilflokmfaaGreatDoorOdr41
/- Walks of the reference of layer 7: class joined, Check. -/
namespace Go.Proofs.YtnaaoilflokmfaaGreatDoor
open Go.RowKit Go.Sort
open Idn (L B Bs drop_L take_L size_L)

theorem r_class_any (v : Value) (s : Idn.Sch) (k : Nat) (w : World) (hv : SchV w w.heap.size v s) (hs : SSm s) (hk : k < s.classes.length) :
    Calls Tryz.prog 152 #[v, .int .i64 k] w fun e w' => e = .returned (.int .i64 (Idn.clErr s.types (s.classes.take k) s.classes[k])) ∧ Below w.heap.size w w' := by
  unfold Idn.clErr
  cases h1 : Idn.name s.classes[k].name
  · exact r_class_1 v s k w hv hs hk h1
  cases h2 : Idn.ixC (s.classes.take k) s.classes[k].name with
  | some j => exact r_class_2 v s k w hv hs hk h1 j h2
  | none =>
    cases h3 : (!s.classes[k].super.isEmpty && (Idn.ixC (s.classes.take k) s.classes[k].super).isNone)
    · exact r_class_4 v s k w hv hs hk h1 h2 h3
    · exact r_class_3 v s k w hv hs hk h1 h2 h3

set_option maxHeartbeats 1000000 in
set_option maxRecDepth 100000 in
theorem r_check_any (v : Value) (s : Idn.Sch) (w : World) (hv : SchV w w.heap.size v s) (hs : SSm s) :
    Calls Tryz.prog 113 #[v] w fun e w' => e = .returned (.int .i64 (Idn.sCheck s)) ∧ Below w.heap.size w w' := by
  have hv0 := hv
  obtain ⟨a, b, rfl, hT, hC⟩ := hv
  obtain ⟨A, ca, rfl, hca⟩ := SlV.shape hT
  obtain ⟨A', cb, rfl, hcb⟩ := SlV.shape hC
  have hcl := hs.2.1
  have htl := hs.1.1
  generalize hrr : Idn.sCheck s = r
  have hR0 : Hid _ := hrr
  clear hrr
  go_enter Tryz.func113, Tryz.ntmps113
  by_cases h1 : 64 < s.types.length
  · have h1' : (64 : Int) < (s.types.length : Int) := by omega
    have hR : Hid (r = 3) := by show _ = _; rw [← hR0.out]; unfold Idn.sCheck; rw [decide_eq_true h1]; rfl
    clear hR0
    go_wp2
    go_ret
    exact ⟨ret_int (by rw [hR.out]), (Below.refl _ _).alloc (Nat.le_refl _) _⟩
  by_cases h2 : 32 < s.classes.length
  · have h1' : (s.types.length : Int) ≤ (64 : Int) := by omega
    have h2' : (32 : Int) < (s.classes.length : Int) := by omega
    have hR : Hid (r = 3) := by show _ = _; rw [← hR0.out]; unfold Idn.sCheck; rw [decide_eq_true h2, Bool.or_true]; rfl
    clear hR0
    go_wp2
    go_ret
    exact ⟨ret_int (by rw [hR.out]), (Below.refl _ _).alloc (Nat.le_refl _) _⟩
  have h1' : (s.types.length : Int) ≤ (64 : Int) := by omega
  have h2' : (s.classes.length : Int) ≤ (32 : Int) := by omega
  have hR : Hid (r = if Idn.tysErr [] s.types != 0 then Idn.tysErr [] s.types else if Idn.clsErr s.types [] s.classes != 0 then Idn.clsErr s.types [] s.classes else Idn.mainErr s.types) := by
    show _ = _; rw [← hR0.out]; unfold Idn.sCheck; rw [decide_eq_false h1, decide_eq_false h2]; rfl
  clear hR0 h1 h2
  go_wp2
  with_reducible refine gen1 (R := fun W => Code.wp Tryz.prog _ _ _ W) ?_
  intro W hbW hszW hc1 _
  have b0 := hc1 0 _ rfl
  have b1 := hc1 1 _ rfl
  clear hc1 h1' h2'
  have hTW : ∀ W', Below W.heap.size W W' → TypesV W' W'.heap.size (.slice A s.types.length ca) s.types := fun W' hb => SlV.mono (SlV.keep (SlV.keep hT hbW) (hb.mono hbW.size)) (Nat.le_trans hbW.size hb.size)
  have hSW : ∀ W', Below W.heap.size W W' → SchV W' W'.heap.size (.agg #[.slice A s.types.length ca, .slice A' s.classes.length cb]) s := fun W' hb =>
    SchV.mono (SchV.keep (SchV.keep hv0 hbW) (hb.mono hbW.size)) (Nat.le_trans hbW.size hb.size)
  clear hv0
  go_loopw [3] (fun i wr => ∃ k : Nat, k ≤ s.types.length ∧ i = .int .i64 k ∧ Below W.heap.size W wr ∧ Hid (Idn.tysErr [] s.types = Idn.tysErr (s.types.take k) (s.types.drop k))) (fun i _ => s.types.length - (intOf i).toNat)
  case atStart => exact ⟨0, Nat.zero_le _, rfl, Below.refl _ _, by show _ = _; simp⟩
  case round =>
    obtain ⟨k, hk, rfl, hb, hinv⟩ := hrel
    have hb0 := hb
    replace b0 := cell_later hb b0
    replace b1 := cell_later hb b1
    by_cases hlt : k < s.types.length
    · have hX := hTW wr hb
      obtain ⟨b, off, rfl, hbl, c0, c1, c2⟩ := TypesV.cell hX hlt
      have hmem := hs.1.2 s.types[k] (List.getElem_mem hlt)
      have hN := fun W => r_name_any (B s.types[k].name) W (by rw [Idn.size_B]; omega)
      rw [Idn.L_B] at hN
      have hstep := Idn.tys_step s.types k hlt _ hinv.out
      clear hinv
      have hltI : (k : Int) < (s.types.length : Int) := by omega
      cases n0 : Idn.name s.types[k].name
      · rw [n0] at hN
        have hte : Idn.tyErr (s.types.take k) s.types[k] = 5 := by unfold Idn.tyErr; rw [n0]; rfl
        have HF : Hid (r = 5) := by show _ = _; rw [hR.out, hstep.1 (by rw [hte]; decide), hte]; rfl
        clear hstep hte n0
        go_wp2_with (go_at_call 150; refine (hN _).mono ?_; rintro e w' ⟨rfl, rfl⟩)
        go_ret
        exact ⟨ret_int (by rw [HF.out]), hbW.trans ((hb.alloc hb.size _).mono hbW.size)⟩
      rw [n0] at hN
      have q0 := fun (W1 W' : World) (hb1 : Below wr.heap.size wr W1) (hb : Below W1.heap.size W1 W') => r_typeAt_any _ _ (B s.types[k].name) W' (SlV.take (TypesV.mono' hT hbW (hb0.trans (hb1.mono hb0.size)) hb) k (by omega)) (TSm.take hs.1 k) (by rw [Idn.size_B]; omega)
      rw [Idn.L_B] at q0
      have hkc : (k : Int) ≤ (ca : Int) := by omega
      have hk0 : (0 : Int) ≤ (k : Int) := by omega
      go_wp2_with (go_at_call 150; refine (hN _).mono ?_; rintro e w' ⟨rfl, rfl⟩)
      with_reducible refine gen1 (R := fun W => Code.wp Tryz.prog _ _ _ W) ?_
      intro W1 hbW1 hszW1 hc1 _
      have d0 := hc1 0 _ rfl
      have d1 := hc1 1 _ rfl
      have d2 := hc1 2 _ rfl
      clear hc1 c0 c1 c2 hN
      replace b0 := cell_later hbW1 b0
      replace b1 := cell_later hbW1 b1
      have k0 := cell_regrown b0
      have m0 := cell_regrown d0
      cases n1 : Idn.ixT (s.types.take k) s.types[k].name with
      | some j =>
        have hte : Idn.tyErr (s.types.take k) s.types[k] = 7 := by unfold Idn.tyErr; rw [n0, n1]; rfl
        have HF : Hid (r = 7) := by show _ = _; rw [hR.out, hstep.1 (by rw [hte]; decide), hte]; rfl
        have q1 := cq (fun W' hb => n1 ▸ q0 W1 W' hbW1 hb)
        have hj : decide ((0 : Int) ≤ Idn.optI (some j)) = true := decide_eq_true (by simp only [Idn.optI]; omega)
        clear hstep hte n0 n1 q0
        refine wp_region_quiet_below (by kernel_rfl) (by kernel_rfl) ?_
        repeat (first | go_big_quiet_step ((go_at_call 151; exact q1 _ _)) | quiet_step ((go_at_call 151; exact q1 _ _)))
        refine wpQuiet_nil ?_
        intro _ hw'
        obtain ⟨⟨dq, osq⟩, hw''⟩ := hw'
        subst hw''
        have hb2 := below_regrown W1 dq osq
        generalize grow (redrawn W1 dq) osq = W2 at hb2 ⊢
        go_wp2
        go_ret
        exact ⟨ret_int (by rw [HF.out]), hbW.trans ((hb.trans ((hbW1.trans (hb2.mono hbW1.size)).mono hb.size)).mono hbW.size)⟩
      | none =>
        have q1 := cq (fun W' hb => n1 ▸ q0 W1 W' hbW1 hb)
        have hj : decide ((0 : Int) ≤ Idn.optI none) = false := rfl
        clear q0
        by_cases n2 : s.types[k].syn < 1
        · have hte : Idn.tyErr (s.types.take k) s.types[k] = 8 := by unfold Idn.tyErr; rw [n0, n1, decide_eq_true n2]; rfl
          have HF : Hid (r = 8) := by show _ = _; rw [hR.out, hstep.1 (by rw [hte]; decide), hte]; rfl
          clear hstep hte n0 n1
          refine wp_region_quiet_below (by kernel_rfl) (by kernel_rfl) ?_
          repeat (first | go_big_quiet_step ((go_at_call 151; exact q1 _ _)) | quiet_step ((go_at_call 151; exact q1 _ _)))
          refine wpQuiet_nil ?_
          intro _ hw'
          obtain ⟨⟨dq, osq⟩, hw''⟩ := hw'
          subst hw''
          have hb2 := below_regrown W1 dq osq
          generalize grow (redrawn W1 dq) osq = W2 at hb2 ⊢
          replace d1 := cell_later hb2 d1
          go_wp2
          go_ret
          exact ⟨ret_int (by rw [HF.out]), hbW.trans ((hb.trans ((hbW1.trans (hb2.mono hbW1.size)).mono hb.size)).mono hbW.size)⟩
        by_cases n3 : 5 < s.types[k].syn
        · have hte : Idn.tyErr (s.types.take k) s.types[k] = 8 := by unfold Idn.tyErr; rw [n0, n1, decide_eq_false n2, decide_eq_true n3]; rfl
          have HF : Hid (r = 8) := by show _ = _; rw [hR.out, hstep.1 (by rw [hte]; decide), hte]; rfl
          have n2' : (1 : Int) ≤ s.types[k].syn := by omega
          clear hstep hte n0 n1 n2
          refine wp_region_quiet_below (by kernel_rfl) (by kernel_rfl) ?_
          repeat (first | go_big_quiet_step ((go_at_call 151; exact q1 _ _)) | quiet_step ((go_at_call 151; exact q1 _ _)))
          refine wpQuiet_nil ?_
          intro _ hw'
          obtain ⟨⟨dq, osq⟩, hw''⟩ := hw'
          subst hw''
          have hb2 := below_regrown W1 dq osq
          generalize grow (redrawn W1 dq) osq = W2 at hb2 ⊢
          replace d1 := cell_later hb2 d1
          go_wp2
          go_ret
          exact ⟨ret_int (by rw [HF.out]), hbW.trans ((hb.trans ((hbW1.trans (hb2.mono hbW1.size)).mono hb.size)).mono hbW.size)⟩
        have hte : Idn.tyErr (s.types.take k) s.types[k] = 0 := by unfold Idn.tyErr; rw [n0, n1, decide_eq_false n2, decide_eq_false n3]; rfl
        have HF : Hid (Idn.tysErr [] s.types = Idn.tysErr (s.types.take (k + 1)) (s.types.drop (k + 1))) := hstep.2 hte
        have n2' : (1 : Int) ≤ s.types[k].syn := by omega
        have n3' : s.types[k].syn ≤ 5 := by omega
        clear hstep hte n0 n1 n2 n3
        refine wp_region_quiet_below (by kernel_rfl) (by kernel_rfl) ?_
        repeat (first | go_big_quiet_step ((go_at_call 151; exact q1 _ _)) | quiet_step ((go_at_call 151; exact q1 _ _)))
        refine wpQuiet_nil ?_
        intro _ hw'
        obtain ⟨⟨dq, osq⟩, hw''⟩ := hw'
        subst hw''
        have hb2 := below_regrown W1 dq osq
        generalize grow (redrawn W1 dq) osq = W2 at hb2 ⊢
        replace d1 := cell_later hb2 d1
        go_wp2
        go_roundw
        case rel => exact ⟨k + 1, by omega, by go_num, hb.trans ((hbW1.trans (hb2.mono hbW1.size)).mono hb.size), HF⟩
        case measure => simp [intOf]; omega
    · have hA : Hid (Idn.tysErr [] s.types = 0) := by show _ = _; rw [hinv.out, List.drop_eq_nil_of_le (by omega)]; rfl
      have hmx : ¬ ((k : Int) < (s.types.length : Int)) := by omega
      have hR2 : Hid (r = if Idn.clsErr s.types [] s.classes != 0 then Idn.clsErr s.types [] s.classes else Idn.mainErr s.types) := by
        show _ = _; rw [hR.out, hA.out]; rfl
      clear hinv hlt hR hA
      obtain ⟨W5, hW5⟩ : ∃ W5, W5 = wr := ⟨_, rfl⟩
      subst hW5
      go_wp2
      clear hmx
      go_loopw [5] (fun i wr => ∃ k : Nat, k ≤ s.classes.length ∧ i = .int .i64 k ∧ Below W5.heap.size W5 wr ∧ Hid (Idn.clsErr s.types [] s.classes = Idn.clsErr s.types (s.classes.take k) (s.classes.drop k))) (fun i _ => s.classes.length - (intOf i).toNat)
      case atStart => exact ⟨0, Nat.zero_le _, rfl, Below.refl _ _, by show _ = _; simp⟩
      case round =>
        obtain ⟨k, hk, rfl, hb5, hinv⟩ := hrel
        have hb := hb0.trans (hb5.mono hb0.size)
        replace b0 := cell_later hb5 b0
        replace b1 := cell_later hb5 b1
        by_cases hlt : k < s.classes.length
        · have hltI : (k : Int) < (s.classes.length : Int) := by omega
          have hK := r_class_any _ s k wr (hSW wr hb) hs hlt
          have hstep := Idn.cls_step s.types s.classes k hlt _ hinv.out
          clear hinv
          by_cases he : Idn.clErr s.types (s.classes.take k) s.classes[k] = 0
          · have HF : Hid (Idn.clsErr s.types [] s.classes = Idn.clsErr s.types (s.classes.take (k + 1)) (s.classes.drop (k + 1))) := hstep.2 he
            rw [he] at hK
            clear hstep he
            go_wp2_with (go_at_call 152; refine hK.mono ?_; rintro e w' ⟨rfl, hb6⟩)
            go_roundw
            case rel => exact ⟨k + 1, by omega, by go_num, hb5.trans (hb6.mono hb5.size), HF⟩
            case measure => simp [intOf]; omega
          · have h0 := hstep.1 he
            have HF : Hid (r = Idn.clErr s.types (s.classes.take k) s.classes[k]) := by show _ = _; rw [hR2.out, h0, if_pos (by simpa using he)]
            clear hstep h0
            generalize Idn.clErr s.types (s.classes.take k) s.classes[k] = x at *
            have he1 : (x == 0) = false := by simpa using he
            have he2 : (x != 0) = true := by simpa using he
            go_wp2_with (go_at_call 152; refine hK.mono ?_; rintro e w' ⟨rfl, hb6⟩)
            go_ret
            exact ⟨ret_int (by rw [HF.out]), hbW.trans ((hb.trans (hb6.mono hb.size)).mono hbW.size)⟩
        · have hA : Hid (r = Idn.mainErr s.types) := by show _ = _; rw [hR2.out, hinv.out, List.drop_eq_nil_of_le (by omega)]; rfl
          have hmx : ¬ ((k : Int) < (s.classes.length : Int)) := by omega
          have hT6 := r_typeAt_any _ _ (⟨#[99, 108, 97, 115, 115]⟩ : ByteArray) wr (hTW wr hb) hs.1 (by decide)
          have hTY := hTW wr hb
          have ec : L ⟨#[99, 108, 97, 115, 115]⟩ = Idn.mainN := by decide
          rw [ec] at hT6
          clear hinv hlt ec
          cases hx : Idn.ixT s.types Idn.mainN with
          | none =>
            have HF : Hid (r = 6) := by show _ = _; rw [hA.out, Idn.mainErr, hx]
            rw [hx] at hT6
            clear hx
            have hI : decide (Idn.optI none < (0 : Int)) = true := rfl
            go_wp2_with (go_at_call 151; refine hT6.mono ?_; rintro e w' ⟨rfl, hb6⟩)
            go_ret
            exact ⟨ret_int (by rw [HF.out]), hbW.trans ((hb.trans (hb6.mono hb.size)).mono hbW.size)⟩
          | some j =>
            have hjl := Idn.ixT_lt _ _ _ hx
            obtain ⟨b, off, rfl, hbl, c0, c1, c2⟩ := TypesV.cell hTY hjl
            have HF : Hid (r = if s.types[j].syn != 1 then 8 else 0) := by show _ = _; rw [hA.out, Idn.mainErr, hx]; simp only [List.getElem?_eq_getElem hjl]
            rw [hx] at hT6
            clear hx
            simp only [Idn.optI] at hT6
            have hI : decide ((j : Int) < (0 : Int)) = false := decide_eq_false (by omega)
            have hjI : (j : Int) < (s.types.length : Int) := by omega
            by_cases he : s.types[j].syn = 1
            · have he1 : (s.types[j].syn == 1) = true := by simpa using he
              have HG : Hid (r = 0) := by show _ = _; rw [HF.out, he]; rfl
              clear HF
              go_wp2_with (go_at_call 151; refine hT6.mono ?_; rintro e w' ⟨rfl, hb6⟩; replace b0 := cell_later hb6 b0; replace c1 := cell_later hb6 c1)
              go_ret
              exact ⟨ret_int (by rw [HG.out]), hbW.trans ((hb.trans (hb6.mono hb.size)).mono hbW.size)⟩
            · have he1 : (s.types[j].syn == 1) = false := by simpa using he
              have HG : Hid (r = 8) := by show _ = _; rw [HF.out, if_pos (by simpa using he)]
              clear HF
              go_wp2_with (go_at_call 151; refine hT6.mono ?_; rintro e w' ⟨rfl, hb6⟩; replace b0 := cell_later hb6 b0; replace c1 := cell_later hb6 c1)
              go_ret
              exact ⟨ret_int (by rw [HG.out]), hbW.trans ((hb.trans (hb6.mono hb.size)).mono hbW.size)⟩
end Go.Proofs.YtnaaoilflokmfaaGreatDoor
