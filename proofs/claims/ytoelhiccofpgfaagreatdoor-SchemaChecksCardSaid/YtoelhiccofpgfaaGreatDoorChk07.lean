/- Part 7 of the proof that SchemaChecks returns true for every schema: the package variables hold what the program lays; nothing else is asked. -/
import Derived.Test.YtoelhiccofpgfaaGreatDoorChk06
import Derived.Lib.OthersKept
import Derived.Test.YtoelhiccofpgfaaGreatDoorShelf
/- Walks of the layer fold (second part): Trim, Fold, Clean. -/
namespace Go.Proofs.YtoelhiccofpgfaaGreatDoor
open Go.RowKit
open Idn (L B Bs drop_L take_L size_L)

def trimL' (l : Bs) : Bs := Idn.trimL l
theorem trimL_sp (a : Bs) : (trimL' a = [] → trimL' (a ++ [32]) = []) ∧ (trimL' a ≠ [] → trimL' (a ++ [32]) = trimL' a ++ [32]) := by
  unfold trimL'
  induction a with
  | nil => simp [Idn.trimL]
  | cons y a ih =>
    by_cases hy : y = 32
    · subst hy; simpa [Idn.trimL] using ih
    · rw [Idn.trimL_of_head y a hy, List.cons_append, Idn.trimL_of_head y _ hy]; simp
theorem trim_comm (m : Bs) : Idn.trimL ((Idn.trimL m).reverse) = (Idn.trimL (Idn.trimL m.reverse).reverse).reverse := by
  induction m with
  | nil => rfl
  | cons x m ih =>
    by_cases hx : x = 32
    · subst hx
      have e1 : Idn.trimL ((32 : UInt8) :: m) = Idn.trimL m := by simp [Idn.trimL]
      rw [e1, ih, List.reverse_cons]
      obtain ⟨h1, h2⟩ := trimL_sp m.reverse
      unfold trimL' at h1 h2
      by_cases he : Idn.trimL m.reverse = []
      · rw [h1 he, he]
      · rw [h2 he, List.reverse_append]
        have e2 : ∀ l : Bs, Idn.trimL ([32].reverse ++ l) = Idn.trimL l := fun l => by simp [Idn.trimL]
        rw [e2]
    · rw [Idn.trimL_of_head x m hx, List.reverse_cons, Idn.trimL_snoc _ _ hx, List.reverse_append]
      have e3 : ([x].reverse ++ (Idn.trimL m.reverse).reverse : Bs) = x :: (Idn.trimL m.reverse).reverse := by simp
      rw [e3, Idn.trimL_of_head _ _ hx]
      simp
theorem trimB_is (l : Bs) : Lib.trimB l 32 = Idn.trim l := by
  have := trim_comm l.reverse
  rw [List.reverse_reverse] at this
  exact this

/-- fold.Trim -/
theorem trim_any (s : ByteArray) (w : World) (hs : s.size ≤ 1000000000000) :
    Calls Tryz.prog 112 #[.string s] w fun e w' => e = .returned (.string (B (Idn.trim (L s)))) ∧ Below w.heap.size w w' := by
  have hT := fun W => Tryz.strings_Trim_one s 32 (by decide) W (by omega)
  have e1 : Lib.trimB s.data.toList 32 = Idn.trim (L s) := trimB_is (L s)
  rw [e1] at hT
  clear e1
  go_enter Tryz.func112, Tryz.ntmps112
  go_wp2_with (go_at_call 119; refine (hT _).mono ?_; rintro e w' ⟨rfl, hw⟩)
  have hb : Below w.heap.size w w' := by
    rcases hw with rfl | rfl
    · exact Below.refl _ _
    · exact (Below.refl _ _).drew
  clear hw
  go_wp2
  go_ret
  exact ⟨rfl, hb⟩

/-- fold.Clean -/
theorem clean_any (s : ByteArray) (w : World) (hs : s.size ≤ 1000000000000) :
    Calls Tryz.prog 93 #[.string s] w fun e w' => e = .returned (.bool (Idn.clean (L s))) ∧ Below w.heap.size w w' := by
  go_enter Tryz.func93, Tryz.ntmps93
  go_wp2
  go_loopw [4] (fun _ wr => ∃ k : Nat, k ≤ s.size ∧ wr.heap[w.heap.size]? = some (.stringIter s k) ∧ Below w.heap.size w wr ∧ Hid ((L s).all Idn.printable = ((L s).drop k).all Idn.printable)) (fun _ wr => s.size - wr.iterPos w.heap.size)
  case atStart => exact ⟨0, Nat.zero_le _, by simpa using World.iter_heap w s 0, (Below.refl _ w).alloc (Nat.le_refl _) _, rfl⟩
  case round =>
    obtain ⟨k, hk, hit, hb, hinv⟩ := hrel
    by_cases hlt : k < s.size
    · have hnx : ∀ ty, (Instr.next (.pointer (some ⟨w.heap.size, 0, none⟩)) true ty).run Tryz.prog wr = _ := fun ty => Lib.run_next_any_at wr w.heap.size s k ty hit hlt
      have hb2 := Lib.below_iterAt hb (k := w.heap.size) (Nat.le_refl _) s (k + (Utf8.decode s k).2)
      by_cases hp : Idn.printable s[k] = true
      · have ha : (s[k]).toNat < 128 := by simp [Idn.printable] at hp; omega
        have h1 : (32 : Int) ≤ (s[k].toNat : Int) := by simp [Idn.printable] at hp; omega
        have h2 : (s[k].toNat : Int) ≤ 126 := by simp [Idn.printable] at hp; omega
        rw [decode_ascii s k hlt ha] at hnx hb2
        have hit2 := Lib.iterAt_heap wr w.heap.size s k (k + 1) hit
        have hd := drop_L s k hlt
        have HF : Hid ((L s).all Idn.printable = ((L s).drop (k+1)).all Idn.printable) := by show _ = _; rw [hinv.out, hd]; simp [hp]
        clear hd hp
        go_wp2
        go_roundw
        case rel => exact ⟨k + 1, by omega, hit2, hb2, HF⟩
        case measure => simp only [World.iterPos, hit2, hit]; omega
      · have hd := drop_L s k hlt
        have HF : Hid ((L s).all Idn.printable = false) := by show _ = _; rw [hinv.out, hd]; simp [hp]
        have hc : (Utf8.decode s k).1 < 32 ∨ 126 < (Utf8.decode s k).1 := by
          by_cases ha : (s[k]).toNat < 128
          · rw [decode_ascii s k hlt ha]; simp [Idn.printable] at hp; omega
          · have := (decode_high s k hlt (by omega)).1; omega
        clear hd hp
        rcases hc with hc | hc
        all_goals
          go_wp2
          go_ret
          exact ⟨ret_bool (by simp [Idn.clean, HF.out]), hb2⟩
    · have hnx : ∀ ty, (Instr.next (.pointer (some ⟨w.heap.size, 0, none⟩)) true ty).run Tryz.prog wr = _ := fun ty => Lib.run_next_end_at wr w.heap.size s k ty hit hlt
      have HF : Hid ((L s).all Idn.printable = true) := by show _ = _; rw [hinv.out, List.drop_eq_nil_of_le (by have := size_L s; omega)]; rfl
      have hT := trim_any s wr hs
      cases he : (L s).isEmpty
      · have he' := he
        rw [← toList_L] at he'
        by_cases h256 : (s.size : Int) ≤ 256
        · go_wp2_with (go_at_call 112; refine hT.mono ?_; rintro e w' ⟨rfl, hb'⟩)
          go_ret
          refine ⟨ret_bool ?_, hb.trans (hb'.mono hb.size)⟩
          have h256' : (L s).length ≤ 256 := by have := size_L s; omega
          simp [Idn.clean, HF.out, he, h256', toList_L]
          rfl
        · go_wp2
          go_ret
          have h256' : ¬ (L s).length ≤ 256 := by have := size_L s; omega
          refine ⟨ret_bool ?_, hb⟩
          simp [Idn.clean, he, h256']
      · have he' := he
        rw [← toList_L] at he'
        go_wp2
        go_ret
        refine ⟨ret_bool ?_, hb⟩
        simp [Idn.clean, he]

theorem info_u8 : (Tryz.prog.info? 5).map (fun i => (i.zero, i.size, i.bytes)) = some (some (.int .u8 0), 1, 1) := by kernel_rfl

/-- the byte before place k, 0 at the beginning -/
def prevB (t : Bs) (k : Nat) : UInt8 := if k = 0 then 0 else t.getD (k - 1) 0
theorem head_trim (s : ByteArray) (l : Bs) (h : L s = Idn.lower (Idn.trim l)) (hp : 0 < s.size) : (s[0] == 32) = false := by
  have h0 := drop_L s 0 hp
  simp only [List.drop_zero] at h0
  rw [h0] at h
  have h1 : Idn.trim l = Idn.trimL (Idn.trim l) := Idn.trim_trimL l
  cases ht : Idn.trim l with
  | nil => rw [ht] at h; simp [Idn.lower] at h
  | cons x r =>
    rw [ht] at h h1
    have := Idn.trimL_head _ x r h1.symm
    simp only [Idn.lower, List.map_cons, List.cons.injEq] at h
    rw [h.1]
    exact Idn.low_ne32 x this

set_option maxRecDepth 100000 in
/-- fold.Fold -/
theorem fold_any (s : ByteArray) (w : World) (hs : s.size ≤ 1000000000000) :
    Calls Tryz.prog 82 #[.string s] w fun e w' => e = .returned (.string (B (Idn.fold (L s)))) ∧ Below w.heap.size w w' := by
  have hT := trim_any s w hs
  have hl1 := Idn.length_trim (L s)
  have hlow := fun W => lower_any (B (Idn.trim (L s))) W (by rw [Idn.size_B]; have := size_L s; omega)
  go_enter Tryz.func82, Tryz.ntmps82
  go_wp2_with (first | (go_at_call 112; refine hT.mono ?_; rintro e w1 ⟨rfl, hb1⟩) | (go_at_call 30; refine (hlow _).mono ?_; rintro e w2 ⟨rfl, hb2⟩))
  have hb12 : Below w.heap.size w w2 := hb1.trans (hb2.mono hb1.size)
  have ht : L (B (Idn.lower (L (B (Idn.trim (L s)))))) = Idn.lower (Idn.trim (L s)) := rfl
  have hsz : (B (Idn.lower (L (B (Idn.trim (L s)))))).size ≤ s.size := by
    rw [Idn.size_B, Idn.length_lower]
    show (Idn.trim (L s)).length ≤ _
    have := size_L s; omega
  generalize B (Idn.lower (L (B (Idn.trim (L s))))) = t at *
  have Ht := Lib.hid ht
  clear ht hlow hT hl1
  go_loopw [4, 5, 11] (fun v _ i wr => ∃ (k : Nat) (acc : Bs), k ≤ t.size ∧ i = .int .i64 k ∧ wr.ownsRow w.heap.size 5 1 v acc.length (acc.map bc) ∧ Below w.heap.size w wr ∧ acc.length ≤ k ∧ Hid (acc ++ Idn.sq (prevB (L t) k) ((L t).drop k) = Idn.fold (L s))) (fun _ _ i _ => t.size - (intOf i).toNat)
  case atStart => exact ⟨0, [], Nat.zero_le _, rfl, World.ownsRow_nil _ _ _ _, hb12, Nat.le_refl _, by show _ = _; rw [Ht.out]; rfl⟩
  case round =>
    obtain ⟨k, acc, hk, rfl, hown, hb, hacc, hinv⟩ := hrel
    clear hb1 hb2 hb12
    by_cases hlt : k < t.size
    · have hd := drop_L t k hlt
      have hprev : prevB (L t) (k + 1) = t[k] := by
        have := Idn.get_L t k hlt
        simp only [prevB, Nat.add_sub_cancel]
        rw [if_neg (by omega), ← this, List.getD_eq_getElem?_getD, List.getElem?_eq_getElem]; rfl
      -- does the round keep the byte?
      by_cases hkeep : t[k] = 32 ∧ prevB (L t) k = 32
      · have hk0 : k ≠ 0 := by intro e; have h2 := hkeep.2; rw [prevB, if_pos e] at h2; exact absurd h2 (by decide)
        have hk1 : (1 : Int) ≤ (k : Int) := by omega
        have hp : t[k-1]'(by omega) = 32 := by
          have h2 := hkeep.2
          rw [prevB, if_neg hk0, List.getD_eq_getElem?_getD, List.getElem?_eq_getElem (by have := size_L t; omega)] at h2
          exact h2
        have h1 : ((t[k].toNat : Int) != 32) = false := by rw [hkeep.1]; rfl
        have HF : Hid (acc ++ Idn.sq (prevB (L t) (k+1)) ((L t).drop (k+1)) = Idn.fold (L s)) := by
          show _ = _
          rw [← hinv.out, hd, hprev, hkeep.1, hkeep.2]; simp [Idn.sq]
        clear hd hprev
        have h2 : ((t[k-1].toNat : Int) != 32) = false := by rw [hp]; rfl
        clear hkeep hp
        go_wp2
        go_roundw
        case rel => exact ⟨k + 1, acc, by omega, by go_num, hown, hb, by omega, HF⟩
        case measure => simp [intOf]; omega
      · have HF : Hid ((acc ++ [t[k]]) ++ Idn.sq (prevB (L t) (k+1)) ((L t).drop (k+1)) = Idn.fold (L s)) := by
          show _ = _
          rw [← hinv.out, hd, hprev, Idn.sq_keep _ _ _ hkeep, List.append_assoc]; rfl
        clear hd hprev
        by_cases hx : t[k] = 32
        · have h1 : ((t[k].toNat : Int) != 32) = false := by rw [hx]; rfl
          have hk0 : k ≠ 0 := by
            intro e; subst e
            have := head_trim t (L s) Ht.out hlt
            rw [hx] at this; exact absurd this (by decide)
          have hk1 : (1 : Int) ≤ (k : Int) := by omega
          have h2 : ((t[k-1].toNat : Int) != 32) = true := by
            rw [bne_iff_ne]; intro e
            apply hkeep
            refine ⟨hx, ?_⟩
            rw [prevB, if_neg hk0, List.getD_eq_getElem?_getD, List.getElem?_eq_getElem (by have := size_L t; omega)]
            show t[k-1] = 32
            apply UInt8.toNat_inj.1
            simpa using (by omega : t[k-1].toNat = 32)
          clear hkeep hx
          go_wp2_with (at_builtin; refine wpList_push wr rfl _ _ 79 rfl w.heap.size 5 (.int .u8 0) 1 1 Tryz.underlying79 info_u8 rfl (by decide) _ acc.length _ hown rfl [bc t[k]] rfl rfl (by intro u hu; simp at hu; subst hu; rfl) (by omega) hb.size ?_ rfl)
          intro v' w1' hown' _ _ hb' _
          clear hown
          go_wp2
          go_roundw
          case rel => exact ⟨k + 1, acc ++ [t[k]], by omega, by go_num, by simpa using hown', hb.trans hb', by simp; omega, HF⟩
          case measure => simp [intOf]; omega
        · have h1 : ((t[k].toNat : Int) != 32) = true := by
            rw [bne_iff_ne]; intro e
            apply hx
            apply UInt8.toNat_inj.1
            simpa using (by omega : t[k].toNat = 32)
          clear hkeep hx
          go_wp2_with (at_builtin; refine wpList_push wr rfl _ _ 79 rfl w.heap.size 5 (.int .u8 0) 1 1 Tryz.underlying79 info_u8 rfl (by decide) _ acc.length _ hown rfl [bc t[k]] rfl rfl (by intro u hu; simp at hu; subst hu; rfl) (by omega) hb.size ?_ rfl)
          intro v' w1' hown' _ _ hb' _
          clear hown
          go_wp2
          go_roundw
          case rel => exact ⟨k + 1, acc ++ [t[k]], by omega, by go_num, by simpa using hown', hb.trans hb', by simp; omega, HF⟩
          case measure => simp [intOf]; omega
    · go_wp2_with (with_reducible refine wpList_str _ rfl _ 79 9 5 rfl Tryz.underlying79 Tryz.underlying9 Tryz.underlying5 w.heap.size _ acc hown rfl ?_)
      go_wp2
      go_ret
      refine ⟨ret_str (congrArg B ?_), hb⟩
      have e2 : (L t).drop k = [] := List.drop_eq_nil_of_le (by have := size_L t; omega)
      rw [← hinv.out, e2]; simp [Idn.sq]
end Go.Proofs.YtoelhiccofpgfaaGreatDoor
