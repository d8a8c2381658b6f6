/- Part 35 of the proof that identitylaw08.EntryApplies returns true: the package variables hold what the program lays; nothing else is asked. -/
import Derived.Test.YtoopoglkeeoamaaGreatDoorEap33
import Derived.Test.YtoopoglkeeoamaaGreatDoorEap34
set_option linter.unusedVariables false
set_option linter.unusedSimpArgs false
set_option maxRecDepth 100000
set_option maxHeartbeats 8000000
/- schema: classed. -/
namespace Go.Proofs.YtoopoglkeeoamaaGreatDoor
open Go.RowKit Go.Sort
open Idn (L B Bs drop_L take_L size_L)
def clKey (s : Idn.Sch) (k : Bs) : Bool := s.classes.any fun c => decide (Idn.lower c.name = k)
def clsGo (s : Idn.Sch) (hv : List Bs) : List Bs → List Bs → Option (List Bs)
 | al, [] => some al
 | al, v :: l => if !clKey s (Idn.fold v) then none else if (mustL s (Idn.fold v)).any (fun m => !hv.contains m) then none else clsGo s hv (al ++ mayL s (Idn.fold v)) l
def classedB (s : Idn.Sch) (hv vals : List Bs) : Bool := match clsGo s hv [Idn.mainN] vals with | none => false | some al => decide (0 < vals.length) && !hv.any (fun x => !al.contains x)
theorem clsGo_step (s : Idn.Sch) (hv al l : List Bs) (k : Nat) (hk : k < l.length) (r : Option (List Bs)) (h : r = clsGo s hv al (l.drop k)) :
  (clKey s (Idn.fold l[k]) = false → r = none) ∧ (clKey s (Idn.fold l[k]) = true → (mustL s (Idn.fold l[k])).any (fun m => !hv.contains m) = true → r = none) ∧
  (clKey s (Idn.fold l[k]) = true → (mustL s (Idn.fold l[k])).any (fun m => !hv.contains m) = false → r = clsGo s hv (al ++ mayL s (Idn.fold l[k])) (l.drop (k + 1))) := by
 rw [List.drop_eq_getElem_cons hk, clsGo] at h
 refine ⟨fun h1 => ?_, fun h1 h2 => ?_, fun h1 h2 => ?_⟩
 ·rw [h, h1]; rfl
 ·rw [h, h1, h2]; rfl
 ·rw [h, h1, h2]; rfl
theorem clKey_lk {es : List (Bs × Value)} {s : Idn.Sch} (h : ClK es s.classes) (k : Bs) : (lk es k).isSome = clKey s k := by
 unfold lk clKey
 have e : s.classes.any (fun c => decide (Idn.lower c.name = k)) = (s.classes.map fun c => Idn.lower c.name).any (fun x => decide (x = k)) := by rw [List.any_map]; rfl
 rw [e, ← h, List.any_map]
 rw [Bool.eq_iff_iff]
 simp [List.any_eq_true]
theorem classed1_any (x : Bs) (q : Nat) (u : Value) (al : List Bs) (w : World) (hc : w.cell? ⟨q, 0, none⟩ = some u) (hu : StrsV w w.heap.size u al) (hl : al.length ≤ 1000000000) :
  Calls Tryz.prog 167 #[.string (B x), .pointer (some ⟨q, 0, none⟩)] w fun e w' => e = .returned (.bool (!al.contains x)) ∧ Below w.heap.size w w' := by
 obtain ⟨A, c, rfl, hcc⟩ := hu.shape
 have hC := contains_any _ al (B x) w hu hl
 rw [Idn.L_B] at hC
 generalize al.contains x = b at *
 go_enter Tryz.func167, Tryz.ntmps167
 go_wp2_with (go_at_call 140; refine hC.mono ?_; rintro e w3 ⟨rfl, rfl⟩)
 go_ret
 exact ⟨rfl, Below.refl _ _⟩
theorem fn_classed1 : FnB 167 := by intro a w; kernel_rfl
theorem namesL_len {l : List Idn.Att} (h : Idn.ASm7 l) : (namesL l).length ≤ 1000 := by
 have h1 := grp_len l []
 have h2 := h.1
 unfold namesL
 rw [List.length_map, aSorted_len]
 simp at h1; omega
theorem mayL_len {s : Idn.Sch} (hbd : Bd s) (n : Bs) : (mayL s n).length ≤ 4096 := by
 have h1 := linS_len s n
 have h2 := flat_len (·.may) 64 ((Idn.lin s n).filterMap (s.classes[·]?)) (fun c hc => (hbd.2 c (linS_mem hc)).2)
 have h3 := merged_len (mustL s n ++ ((Idn.lin s n).filterMap (s.classes[·]?)).flatMap (·.may))
 have h4 := mustL_len hbd n
 have := hbd.1
 unfold mayL
 rw [List.length_append] at h3
 omega
theorem StrsV.grown {w w' : World} {hi n c : Nat} {A : Option Addr} {l : List Bs} {row : Option Nat} (h : StrsV w hi (.slice A n c) l) (hg : w.grownBy w' row) (hs : ∀ b off, A = some ⟨b, off, none⟩ → row ≠ some b) (hh : hi ≤ w.heap.size) : StrsV w' hi (.slice A n c) l := by
 obtain ⟨A', c', e, h1, h2⟩ := h
 injection e with e1 e2 e3
 subst e1
 refine ⟨A, c', by rw [e2, e3], h1, fun hp => ?_⟩
 obtain ⟨b, off, hA, hb, hx⟩ := h2 hp
 refine ⟨b, off, hA, hb, fun i x hix => ?_⟩
 obtain ⟨cs, h3, h4, h5⟩ := hx i x hix
 exact ⟨cs, h3, h4, fun j u hj => (World.cell?_of_block (w := w) (hg.block b (by omega) (fun e => hs b off hA e.symm))).trans (h5 j u hj)⟩
theorem StrsV.put {w : World} {hi n c p i : Nat} {A : Option Addr} {l : List Bs} (h : StrsV w hi (.slice A n c) l) (hs : ∀ b off, A = some ⟨b, off, none⟩ → b ≠ p) (v : Value) : StrsV (w.setCell ⟨p, i, none⟩ v) hi (.slice A n c) l := by
 obtain ⟨A', c', e, h1, h2⟩ := h
 injection e with e1 e2 e3
 subst e1
 refine ⟨A, c', by rw [e2, e3], h1, fun hp => ?_⟩
 obtain ⟨b, off, hA, hb, hx⟩ := h2 hp
 refine ⟨b, off, hA, hb, fun i x hix => ?_⟩
 obtain ⟨cs, h3, h4, h5⟩ := hx i x hix
 exact ⟨cs, h3, h4, fun j u hj => (World.cell?_of_block (w := w) (Below.heap_setCell _ _ _ _ (by show b ≠ p; exact hs b off hA))).trans (h5 j u hj)⟩
theorem grown_cell {w w' : World} {p i : Nat} {row : Option Nat} {u : Value} (hg : w.grownBy w' row) (hc : w.cell? ⟨p, i, none⟩ = some u) (hne : some p ≠ row) : w'.cell? ⟨p, i, none⟩ = some u :=
 (World.cell?_of_block (w := w) (hg.block p (World.block_lt_of_cell? _ _ hc) hne)).trans hc
theorem grown_frozen {w w' : World} {p i : Nat} {row : Option Nat} (hg : w.grownBy w' row) (hp : p < w.heap.size) (hc : w.frozen? ⟨p, i, none⟩ = false) (hne : some p ≠ row) : w'.frozen? ⟨p, i, none⟩ = false :=
 (World.frozen?_of_block (w := w) (hg.block p hp hne)).trans hc
theorem genRB {R : World → Prop} {w : World} {x : ByteArray} {t1 t2 : TypeId}
  (h : ∀ W, Below w.heap.size w W → W.heap.size = w.heap.size + 2 → W.ownsRow w.heap.size t1 1 (.slice (some ⟨w.heap.size, 0, none⟩) 1 1) 1 [.string x] → W.cell? ⟨w.heap.size + 1, 0, none⟩ = some (.slice (some ⟨w.heap.size, 0, none⟩) 1 1) →
   W.frozen? ⟨w.heap.size + 1, 0, none⟩ = false → R W) : R ((w.alloc (.cells #[.string x] t1)).alloc (.cells #[.slice (some ⟨w.heap.size, 0, none⟩) 1 1] t2)) := by
 have e1 : (w.alloc (.cells #[.string x] t1)).heap.size = w.heap.size + 1 := by simp
 have hnew : ((w.alloc (.cells #[.string x] t1)).alloc (.cells #[.slice (some ⟨w.heap.size, 0, none⟩) 1 1] t2)).heap[w.heap.size + 1]? = some (.cells #[.slice (some ⟨w.heap.size, 0, none⟩) 1 1] t2 (0, 0)) := by
  rw [← e1]; exact heap_alloc_new _ _
 have hw := World.ownsRow_lit (base := w.heap.size) (e := t1) (size := 1) w #[.string x] 1 (Nat.le_refl _) (by decide) rfl
 refine h _ (((Below.refl _ _).alloc (Nat.le_refl _) _).alloc (by simp) _) (by simp) (hw.alloc _) ?_ (Lib.frozen_of_heap hnew 0)
 rw [cell_of_row _ _ 0 _ _ (0, 0) hnew]; rfl
theorem classed_any (m1 m2 : Value) (s : Idn.Sch) (hi : Nat) (v : Value) (l : List Idn.Att) (w : World) (hk : KnV w hi m1 m2 s) (hh : hi ≤ w.heap.size) (hd : Idn.Dec s.classes) (hs : SSm s) (hbd : Bd s) (hv : AttsV w w.heap.size v l) (hs7 : Idn.ASm7 l) (hne : ∀ a ∈ l, a.vals.length ≠ 0)
    (hgl : (getL l Idn.mainN).length ≤ 100000) (hgx : ∀ x ∈ getL l Idn.mainN, x.length ≤ 100000000) :
    Calls Tryz.prog 100 #[.agg #[m1, m2], v] w fun e w' => e = .returned (.bool (classedB s (namesL l) (getL l Idn.mainN))) ∧ Below w.heap.size w w' := by
  obtain ⟨o1, o2, rfl, rfl⟩ := hk.shape
  obtain ⟨A0, c0, rfl, hc0⟩ := SlV.shape hv
  have hk0 := hk
  have hkV := fun W (hW : Below w.heap.size w W) => hk.keep hW hh
  clear hk
  have hNm := fun W (hW : Below w.heap.size w W) => names_any _ l W (AttsV.mono (AttsV.keep hv hW) hW.size) hs7 hne
  have hGt := fun W (hW : Below w.heap.size w W) => get_any _ l (B Idn.mainN) W (AttsV.mono (AttsV.keep hv hW) hW.size) hs7 hne (by decide)
  have hnl := namesL_len hs7
  rw [Idn.L_B] at hGt
  have HR : Hid (classedB s (namesL l) (getL l Idn.mainN) = match clsGo s (namesL l) [Idn.mainN] (getL l Idn.mainN) with | none => false | some al => decide (0 < (getL l Idn.mainN).length) && !(namesL l).any (fun x => !al.contains x)) := rfl
  generalize classedB s (namesL l) (getL l Idn.mainN) = r at *
  generalize namesL l = nms at *
  generalize getL l Idn.mainN = vals at *
  go_enter Tryz.func100, Tryz.ntmps100
  go_wp2_with fail
  with_reducible refine gen1 (R := fun W => Calls Tryz.prog 66 _ W _) ?_
  intro W hbW hszW hc1 _
  have k0 : W.cell? ⟨w.heap.size, 0, none⟩ = some (.map o1) := hc1 0 _ rfl
  have k1 : W.cell? ⟨w.heap.size, 1, none⟩ = some (.map o2) := hc1 1 _ rfl
  clear hc1 hszW
  refine (hNm W hbW).mono ?_
  rintro e w1 ⟨v1, rfl, hown1, hb1⟩
  have hbw1 := hbW.trans (hb1.mono hbW.size)
  have hN1 : StrsV w1 w1.heap.size v1 nms := StrsV.of_own hown1
  obtain ⟨A1, c1, hv1, hc1⟩ := hN1.shape
  subst hv1
  replace k0 := cell_later hb1 k0
  replace k1 := cell_later hb1 k1
  clear hNm hown1
  go_wp2_with fail
  with_reducible refine genRB (R := fun W => Calls Tryz.prog 70 _ W _) ?_
  intro X hbX hszX hownX cp fp
  have hbwX := hbw1.trans (hbX.mono hbw1.size)
  refine (hGt X hbwX).mono ?_
  rintro e w2 ⟨A, kk, c, rfl, hval, hge, hb2⟩
  obtain ⟨A', c', ev, hcc⟩ := hval.shape
  injection ev with ev1 ev2 ev3
  subst ev2
  have hown2 : w2.ownsRow w1.heap.size 9 1 (.slice (some ⟨w1.heap.size, 0, none⟩) 1 1) [Idn.mainN].length ([Idn.mainN].map sv) := own_below hownX hb2
  replace cp := cell_later hb2 cp
  replace fp := frozen_later hb2 fp (by omega)
  have hb12 : Below w1.heap.size w1 w2 := hbX.trans (hb2.mono hbX.size)
  have hge2 : ∀ b off, A = some ⟨b, off, none⟩ → w1.heap.size + 2 ≤ b := fun b off e => by have := hge b off e; omega
  clear hGt hownX hge ev1 ev3 hbX hbwX hszX hcc
  go_wp2
  go_loopw [22] (fun i wr => ∃ (k : Nat) (u : Value) (al : List Bs), k ≤ vals.length ∧ i = .int .i64 k ∧ wr.cell? ⟨w1.heap.size + 1, 0, none⟩ = some u ∧ wr.frozen? ⟨w1.heap.size + 1, 0, none⟩ = false ∧ wr.ownsRow w1.heap.size 9 1 u al.length (al.map sv) ∧
    (∀ g, u.ownBlock = some g → g ≠ w1.heap.size + 1 ∧ ∀ b off, A = some ⟨b, off, none⟩ → b ≠ g) ∧ StrsV wr w2.heap.size (.slice A vals.length c) vals ∧ Below w1.heap.size w1 wr ∧ w2.heap.size ≤ wr.heap.size ∧ Hid (clsGo s nms [Idn.mainN] vals = clsGo s nms al (vals.drop k)) ∧ al.length ≤ 1 + k * 4096) (fun i _ => vals.length - (intOf i).toNat)
  case atStart => exact ⟨0, _, [Idn.mainN], Nat.zero_le _, rfl, cp, fp, hown2, fun g hg => by
      simp [Value.ownBlock] at hg
      subst hg
      exact ⟨by omega, fun b off e => by have := hge2 b off e; omega⟩, hval, hb12, Nat.le_refl _, rfl, Nat.le_refl _⟩
  case round =>
    obtain ⟨k, u, al, hk, rfl, cp, fp, hown, hsep, hvr, hbr, hszr, hinv, hal⟩ := hrel
    have hbwr := hbw1.trans (hbr.mono hbw1.size)
    replace k0 := (hbr.cell (p := ⟨w.heap.size, 0, none⟩) (World.block_lt_of_cell? _ _ k0)).trans k0
    replace k1 := (hbr.cell (p := ⟨w.heap.size, 1, none⟩) (World.block_lt_of_cell? _ _ k1)).trans k1
    obtain ⟨wo, hwo⟩ : ∃ wo : World, wo = wr := ⟨_, rfl⟩
    subst hwo
    by_cases hlt : k < vals.length
    · obtain ⟨b, off, hA, hbl, c0⟩ := StrsV.cell hvr hlt
      subst hA
      have hltI : (k : Int) < (vals.length : Int) := by omega
      have hsz := hgx vals[k] (List.getElem_mem hlt)
      have hF := fold_any (B vals[k]) wo (by rw [Idn.size_B]; omega)
      rw [Idn.L_B] at hF
      obtain ⟨s1, s2, s3⟩ := clsGo_step s nms al vals k hlt _ hinv.out
      have hfl := Idn.length_fold vals[k]
      generalize Idn.fold vals[k] = kk at *
      clear hinv
      go_wp2_with fail
      refine hF.mono ?_
      rintro e w3 ⟨rfl, hb3⟩
      have hbw3 := hbwr.trans (hb3.mono hbwr.size)
      obtain ⟨_, es, hm, hcls⟩ := hk0
      have hm3 := hm.keep hbw3
      obtain ⟨ua, ub, A3, k3, c3, A4, k4, c4, hua⟩ := hcls.Sh.lk (L (B kk))
      have hsome : (lk es (L (B kk))).isSome = clKey s kk := by rw [Idn.L_B]; exact clKey_lk hcls.K kk
      clear hcls hm hF
      replace k0 := cell_later hb3 k0
      replace k1 := cell_later hb3 k1
      cases hkey : clKey s kk
      · have HF : Hid (r = false) := by show _ = _; rw [HR.out, s1 hkey]
        rw [hkey] at hsome
        clear s1 s2 s3 hkey
        go_wp2_with (at_lookup; refine wpList_look w3 rfl _ _ 117 rfl 9 67 Tryz.underlying9 Tryz.underlying117 (zeroCL _) hm3 rfl (B kk) rfl hua hsome ?_)
        go_ret
        exact ⟨ret_bool (by rw [HF.out]), hbw3.alloc hbw3.size _⟩
      rw [hkey] at hsome
      have hMu := fun W hW => must_any _ _ s hi (B kk) W (hkV W hW) (Nat.le_trans hh hW.size) hd hs hbd (by rw [Idn.size_B]; omega)
      have hMa := fun W hW => may_any _ _ s hi (B kk) W (hkV W hW) (Nat.le_trans hh hW.size) hd hs hbd (by rw [Idn.size_B]; omega)
      have hml := mustL_len hbd kk
      have hal2 := mayL_len hbd kk
      rw [Idn.L_B] at hMu hMa
      generalize mustL s kk = mu at *
      generalize mayL s kk = ma at *
      replace s2 := s2 hkey
      replace s3 := s3 hkey
      clear s1 hkey
      have ba := (Below.refl w3.heap.size w3).alloc (Nat.le_refl _) (.cells #[.string ua, .string ub, .slice A3 k3 c3, .slice A4 k4 c4] 67)
      have k0a := cell_later ba k0
      have k1a := cell_later ba k1
      clear ba
      go_wp2_with (at_lookup; refine wpList_look w3 rfl _ _ 117 rfl 9 67 Tryz.underlying9 Tryz.underlying117 (zeroCL _) hm3 rfl (B kk) rfl hua hsome ?_)
      with_reducible refine gen1 (R := fun W => Calls Tryz.prog 164 _ W _) ?_
      intro W4 hbW4 hszW4 _ _
      have hbw4 := hbw3.trans (hbW4.mono hbw3.size)
      refine (hMu W4 hbw4).mono ?_
      rintro e w5 ⟨v5, rfl, hown5, hb5⟩
      have hb35 := hbW4.trans (hb5.mono hbW4.size)
      have hb05 : Below wo.heap.size wo w5 := hb3.trans (hb35.mono hb3.size)
      have hbw5 := hbwr.trans (hb05.mono hbwr.size)
      have hM5 : StrsV w5 w5.heap.size v5 mu := StrsV.of_own hown5
      obtain ⟨A5, c5, hv5, hc5⟩ := hM5.shape
      subst hv5
      replace k0 := cell_later hb35 k0
      replace k1 := cell_later hb35 k1
      replace fp := frozen_later hb05 fp (World.block_lt_of_cell? _ _ cp)
      replace cp := cell_later hb05 cp
      replace hown := own_below hown hb05
      replace hvr := SlV.keep hvr (hb05.mono hszr)
      replace hszr : w2.heap.size ≤ w5.heap.size := Nat.le_trans hszr hb05.size
      have hbr5 : Below w1.heap.size w1 w5 := hbr.trans (hb05.mono hbr.size)
      clear k0a k1a
      clear hMu hown5 hm3 hua hsome hb3 hbw3 hbW4 hszW4 hbw4 hb5 hb35 hbwr hbr c0 hb05
      go_upto_block 2 with fail
      go_cut [] (fun wx => Below w5.heap.size w5 wx ∧ Hid (mu.any (fun m => !nms.contains m) = false))
      case first =>
        go_wp2_with fail
        go_loopw [41] (fun i wr => ∃ j : Nat, j ≤ mu.length ∧ i = .int .i64 j ∧ Below w5.heap.size w5 wr ∧ Hid (mu.any (fun m => !nms.contains m) = (mu.drop j).any (fun m => !nms.contains m))) (fun i _ => mu.length - (intOf i).toNat)
        case atStart => exact ⟨0, Nat.zero_le _, rfl, Below.refl _ _, by show _ = _; simp⟩
        case round =>
          obtain ⟨j, hj, rfl, hbj, hinv⟩ := hrel
          by_cases hjl : j < mu.length
          · obtain ⟨b6, off6, rfl, hbl6, d0⟩ := StrsV.cell (SlV.keep hM5 hbj) hjl
            have hjI : (j : Int) < (mu.length : Int) := by omega
            have hbj1 := hbr5.trans (hbj.mono hbr5.size)
            have hCt := contains_any _ nms (B mu[j]) wr (SlV.mono (SlV.keep hN1 hbj1) hbj1.size) (by omega)
            obtain ⟨t1, t2⟩ := Idn.any_drop _ mu j hjl _ hinv.out
            rw [Idn.L_B] at hCt
            generalize nms.contains mu[j] = cb at *
            have S2 := Lib.hid s2
            clear hinv s2 s3
            cases cb
            · have HF : Hid (r = false) := by show _ = _; rw [HR.out, S2.out (t1 rfl)]
              clear t1 t2 S2
              go_wp2_with (go_at_call 140; refine hCt.mono ?_; rintro e w6 ⟨rfl, rfl⟩)
              go_ret
              exact ⟨ret_bool (by rw [HF.out]), hbw5.trans (hbj.mono hbw5.size)⟩
            · have HF : Hid (mu.any (fun m => !nms.contains m) = (mu.drop (j + 1)).any (fun m => !nms.contains m)) := t2 rfl
              clear t1 t2 S2
              go_wp2_with (go_at_call 140; refine hCt.mono ?_; rintro e w6 ⟨rfl, rfl⟩)
              go_roundw
              case rel => exact ⟨j + 1, by omega, by go_num, hbj, HF⟩
              case measure => simp [intOf]; omega
          · have hjI : ¬ (j : Int) < (mu.length : Int) := by omega
            have HF : Hid (mu.any (fun m => !nms.contains m) = false) := by show _ = _; rw [hinv.out, List.drop_eq_nil_of_le (by omega)]; rfl
            clear hinv s2 s3
            go_wp2_with fail
            go_meet
            exact ⟨hbj, HF⟩
      case rest =>
        obtain ⟨hbc, hany⟩ := hcut
        have HN : Hid (clsGo s nms [Idn.mainN] vals = clsGo s nms (al ++ ma) (vals.drop (k + 1))) := s3 hany.out
        clear s2 s3 hany
        replace hbc : Below w5.heap.size w5 wc.drew := hbc.drew
        have hbwc : Below w.heap.size w wc.drew := hbw5.trans (hbc.mono hbw5.size)
        have hMc := hMa wc.drew hbwc
        replace fp : wc.drew.frozen? ⟨w1.heap.size + 1, 0, none⟩ = false := frozen_later hbc fp (World.block_lt_of_cell? _ _ cp)
        replace cp : wc.drew.cell? ⟨w1.heap.size + 1, 0, none⟩ = some u := cell_later hbc cp
        replace k0 : wc.drew.cell? ⟨w.heap.size, 0, none⟩ = some (.map o1) := cell_later hbc k0
        replace k1 : wc.drew.cell? ⟨w.heap.size, 1, none⟩ = some (.map o2) := cell_later hbc k1
        replace hown : wc.drew.ownsRow w1.heap.size 9 1 u al.length (al.map sv) := own_below hown hbc
        replace hvr : StrsV wc.drew w2.heap.size (.slice (some ⟨b, off, none⟩) vals.length c) vals := SlV.keep hvr (hbc.mono hszr)
        have hszc : w2.heap.size ≤ wc.drew.heap.size := Nat.le_trans hszr hbc.size
        have hbrc : Below w1.heap.size w1 wc.drew := hbr5.trans (hbc.mono hbr5.size)
        have hpc : w1.heap.size + 1 < wc.drew.heap.size := World.block_lt_of_cell? _ _ cp
        clear hMa hbc hbr5 hbw5
        go_wp2_with fail
        go_region_law (first
          | (go_simp
             go_at_call 165
             refine hMc.mono ?_
             rintro e w6 ⟨v6, rfl, hown6m, hb6⟩
             have hmv := StrsV.of_own hown6m
             have cp6 := cell_later hb6 cp
             have fp6 := frozen_later hb6 fp hpc
             have hown6 := own_below hown hb6
             have hb6s : w1.heap.size ≤ w6.heap.size := Nat.le_trans hbrc.size hb6.size
             have hp6 : w1.heap.size + 1 < w6.heap.size := Nat.lt_of_lt_of_le hpc hb6.size
             go_wp2_with fail)
          | (refine step_appendS rfl _ _ 45 rfl w1.heap.size 9 Tryz.underlying45 info_str _ _ _ hown6 rfl _ ma _ hmv rfl (by omega) hb6s ?_
             intro v' w7 hown' hg' hat'
             obtain ⟨A9, c9, hv9⟩ := own_shape hown'
             subst hv9
             have st1 := grown_cell hg' cp6 (fun e => (hsep _ e.symm).1 rfl)
             have st2 := grown_frozen hg' hp6 fp6 (fun e => (hsep _ e.symm).1 rfl)))
        all_goals
          have hsz6 : w2.heap.size ≤ w6.heap.size := Nat.le_trans hszc hb6.size
          have hsep' : ∀ g, (Value.slice A9 (al.length + ma.length) c9).ownBlock = some g → g ≠ w1.heap.size + 1 ∧ ∀ b' off', some (⟨b, off, none⟩ : Addr) = some ⟨b', off', none⟩ → b' ≠ g := fun g hg => by
            rcases hat' with hat | hat
            · exact hsep g (hat ▸ hg)
            · rw [hat] at hg
              injection hg with hg
              refine ⟨by omega, fun b' off' e => ?_⟩
              injection e with e
              injection e with e
              omega
          have hnO := ownsRow_setCell_other hown' (a := ⟨w1.heap.size + 1, 0, none⟩) (fun e => (hsep' _ e).1 rfl) (Value.slice A9 (al.length + ma.length) c9)
          have hnV := StrsV.put (p := w1.heap.size + 1) (i := 0) (StrsV.grown (SlV.keep hvr (hb6.mono hszc)) hg' (fun b' off' e e2 => (hsep b' e2).2 b' off' e rfl) hsz6) (fun b' off' e => by have := hge2 b' off' e; omega) (Value.slice A9 (al.length + ma.length) c9)
          have hbf := ((hbrc.trans (hb6.mono hbrc.size)).grown hg' hb6s (fun g hg => (hown6.lt g hg).1)).setCell (p := ⟨w1.heap.size + 1, 0, none⟩) (Nat.le_succ _) (Value.slice A9 (al.length + ma.length) c9)
          have hn1 : (w7.setCell ⟨w1.heap.size + 1, 0, none⟩ (Value.slice A9 (al.length + ma.length) c9)).cell? ⟨w1.heap.size + 1, 0, none⟩ = some (Value.slice A9 (al.length + ma.length) c9) := by go_simp
          have hn2 : (w7.setCell ⟨w1.heap.size + 1, 0, none⟩ (Value.slice A9 (al.length + ma.length) c9)).frozen? ⟨w1.heap.size + 1, 0, none⟩ = false := by go_simp
          have hszn : w2.heap.size ≤ (w7.setCell ⟨w1.heap.size + 1, 0, none⟩ (Value.slice A9 (al.length + ma.length) c9)).heap.size := by
            have := hg'.size
            simp; omega
          have hnP : (w7.setCell ⟨w1.heap.size + 1, 0, none⟩ (Value.slice A9 (al.length + ma.length) c9)).ownsRow w1.heap.size 9 1 (Value.slice A9 (al.length + ma.length) c9) (al ++ ma).length ((al ++ ma).map sv) := by
            rw [List.length_append, List.map_append]; exact hnO
          clear hnO
          clear hown hown' hown6 hown6m hvr hmv hg' hat' st1 st2 cp6 fp6 cp fp
          go_wp2_with fail
          go_roundw
          case rel => exact ⟨k + 1, _, al ++ ma, by omega, by go_num, hn1, hn2, hnP, hsep', hnV, hbf, hszn, HN, by rw [List.length_append]; omega⟩
          case measure => simp [intOf]; omega
    · have hltI : ¬ (k : Int) < (vals.length : Int) := by omega
      have hH := hasF_any 167 #[.pointer (some ⟨w1.heap.size + 1, 0, none⟩)] fn_classed1 (fun x => !al.contains x) (.slice A1 nms.length c1) nms wo (SlV.mono (SlV.keep hN1 hbr) hbr.size) (by omega)
        (fun W x _ hbW => classed1_any x _ u al W (cell_later hbW cp) (StrsV.of_own (own_below hown hbW)) (by omega))
      have HF : Hid (r = (decide (0 < vals.length) && !nms.any (fun x => !al.contains x))) := by
        show _ = _
        rw [HR.out, hinv.out, List.drop_eq_nil_of_le (by omega)]
        rfl
      generalize nms.any (fun x => !al.contains x) = bb at *
      clear hinv
      by_cases hp : 0 < vals.length
      · have hpI : (0 : Int) < (vals.length : Int) := by omega
        have HF2 : Hid (r = !bb) := by show _ = _; rw [HF.out]; simp [hp]
        go_wp2_with (go_at_call 166; refine hH.mono ?_; rintro e w9 ⟨rfl, hb9⟩)
        go_ret
        exact ⟨ret_bool (by rw [HF2.out]), hbwr.trans (hb9.mono hbwr.size)⟩
      · have hpI : ¬ (0 : Int) < (vals.length : Int) := by omega
        have HF2 : Hid (r = false) := by show _ = _; rw [HF.out]; simp [hp]
        go_wp2
        go_ret
        exact ⟨ret_bool (by rw [HF2.out]), hbwr⟩
end Go.Proofs.YtoopoglkeeoamaaGreatDoor
/- schema: Valid. -/
namespace Go.Proofs.YtoopoglkeeoamaaGreatDoor
open Go.RowKit Go.Sort
open Idn (L B Bs drop_L take_L size_L)
theorem atts_zero : ∀ (l prev : List Idn.Att), Idn.attsErr prev l = 0 → ∀ a ∈ l, a.vals.length ≠ 0 ∧ a.vals.length ≤ 16
  | [], _, _ => by simp
  | b :: l, prev, h => by
    rw [Idn.attsErr] at h
    by_cases hb : Idn.attErr prev b = 0
    · rw [if_neg (by simpa using hb)] at h
      intro a ha
      rcases List.mem_cons.1 ha with rfl | ha
      · unfold Idn.attErr at hb
        split at hb
        · cases hb
        · split at hb
          · cases hb
          · split at hb
            · cases hb
            · split at hb
              · cases hb
              · rename_i h1 h2
                exact ⟨h1, by omega⟩
      · exact atts_zero l _ h a ha
    · rw [if_pos (by simpa using hb)] at h
      exact absurd h hb
theorem aCheck_zero {l : List Idn.Att} (h : Idn.aCheck l = 0) : l.length ≤ 32 ∧ ∀ a ∈ l, a.vals.length ≠ 0 ∧ a.vals.length ≤ 16 := by
 unfold Idn.aCheck at h
 split at h
 ·cases h
 ·exact ⟨by omega, atts_zero l [] h⟩
def vGo (s : Idn.Sch) : List Idn.Att → Int
 | [] => 0
 | a :: l => if attrE s a.name a.vals != 0 then attrE s a.name a.vals else vGo s l
def sValid (s : Idn.Sch) (l : List Idn.Att) : Int :=
 if Idn.aCheck l != 0 then Idn.aCheck l else if vGo (sound s) l != 0 then vGo (sound s) l else if !classedB (sound s) (namesL l) (getL l Idn.mainN) then 9 else 0
theorem vGo_step (s : Idn.Sch) (l : List Idn.Att) (k : Nat) (hk : k < l.length) (r : Int) (h : r = vGo s (l.drop k)) :
  (attrE s l[k].name l[k].vals ≠ 0 → r = attrE s l[k].name l[k].vals) ∧ (attrE s l[k].name l[k].vals = 0 → r = vGo s (l.drop (k + 1))) := by
 rw [List.drop_eq_getElem_cons hk, vGo] at h
 refine ⟨fun hn => ?_, fun hn => ?_⟩
 ·rw [h, if_pos (by simpa using hn)]
 ·rw [h, if_neg (by simpa using hn)]
def ASm5 (l : List Idn.Att) : Prop := ∀ a ∈ l, a.name.length ≤ 1000000000 ∧ ∀ x ∈ a.vals, x.length ≤ 100000000
theorem valid_any (u : Value) (s : Idn.Sch) (nm : ByteArray) (va : Value) (l : List Idn.Att) (w : World) (hu : SchV w w.heap.size u s) (hs : SSm s) (hE : Env w) (hU : EnvU w) (hv : AttsV w w.heap.size va l) (hsm : ASm l) (hs5 : ASm5 l) :
  Calls Tryz.prog 52 #[u, .agg #[.string nm, va]] w fun e w' => e = .returned (.int .i64 (sValid s l)) ∧ Below w.heap.size w w' := by
 have hLk := fun W (hW : Below w.heap.size w W) => look_any u s W (SchV.mono (SchV.keep hu hW) hW.size) hs
 have hCk := fun W (hW : Below w.heap.size w W) => attsCheck_any va l W (AttsV.mono (AttsV.keep hv hW) hW.size) hsm
 obtain ⟨a, b, rfl, hT, hC⟩ := hu
 obtain ⟨A, ca, rfl, hca⟩ := SlV.shape hT
 obtain ⟨A', cb, rfl, hcb⟩ := SlV.shape hC
 obtain ⟨A0, c0, rfl, hc0⟩ := SlV.shape hv
 clear hT hC
 have HR : Hid (sValid s l = if Idn.aCheck l != 0 then Idn.aCheck l else if vGo (sound s) l != 0 then vGo (sound s) l else if !classedB (sound s) (namesL l) (getL l Idn.mainN) then 9 else 0) := rfl
 generalize sValid s l = r at *
 have hz := fun h => aCheck_zero (l := l) h
 generalize Idn.aCheck l = ck at *
 go_enter Tryz.func52, Tryz.ntmps52
 go_wp2_with fail
 with_reducible refine gen2 (R := fun W => Calls Tryz.prog 41 _ W _) ?_
 intro W hbW hszW hc1 hc2
 have q0 : W.cell? ⟨w.heap.size, 0, none⟩ = some (.slice A s.types.length ca) := hc1 0 _ rfl
 have q1 : W.cell? ⟨w.heap.size, 1, none⟩ = some (.slice A' s.classes.length cb) := hc1 1 _ rfl
 have e1 : W.cell? ⟨w.heap.size + 1, 1, none⟩ = some (.slice A0 l.length c0) := hc2 1 _ rfl
 clear hc1 hc2 hszW
 refine (hCk W hbW).mono ?_
 rintro e w1 ⟨rfl, hb1⟩
 have hbw1 := hbW.trans (hb1.mono hbW.size)
 replace q0 := cell_later hb1 q0
 replace q1 := cell_later hb1 q1
 replace e1 := cell_later hb1 e1
 clear hCk
 by_cases hck : ck = 0
 ·have ck0 : (ck == 0) = true := by simpa using hck
  have HR : Hid (r = if vGo (sound s) l != 0 then vGo (sound s) l else if !classedB (sound s) (namesL l) (getL l Idn.mainN) then 9 else 0) := by show _ = _; rw [HR.out, hck]; rfl
  obtain ⟨hl32, hv16⟩ := hz hck
  clear hz hck
  go_wp2_with fail
  refine (hLk w1 hbw1).mono ?_
  rintro e w2 ⟨m1, m2, rfl, hb2, hk⟩
  have hbw2 := hbw1.trans (hb2.mono hbw1.size)
  obtain ⟨o1, o2, rfl, rfl⟩ := hk.shape
  replace e1 := cell_later hb2 e1
  clear hLk q0 q1
  have hCl := fun W (hW : Below w2.heap.size w2 W) => classed_any (.map o1) (.map o2) (sound s) w1.heap.size (.slice A0 l.length c0) l W (hk.keep hW hb2.size) (Nat.le_trans hb2.size hW.size) (dec_sound s) (ssm_sound hs) (bd_sound s)
   (AttsV.mono (AttsV.keep hv (hbw2.trans (hW.mono hbw2.size))) (hbw2.trans (hW.mono hbw2.size)).size) ⟨by omega, fun a ha => ⟨(hs5 a ha).1, by have := (hv16 a ha).2; omega, fun x hx => by have := (hs5 a ha).2 x hx; omega⟩⟩ (fun a ha => (hv16 a ha).1)
   (get_len (fun a ha => (hv16 a ha).2) (by omega) _) (get_all (fun a ha x hx => (hs5 a ha).2 x hx) _)
  generalize classedB (sound s) (namesL l) (getL l Idn.mainN) = cb at *
  have hm2 := hk.1
  clear hk
  have e1a := cell_later ((Below.refl w2.heap.size w2).alloc (Nat.le_refl _) (.cells #[.map o1, .map o2] 119)) e1
  go_upto_block 0 with fail
  with_reducible refine gen1 (R := fun W => Code.wp Tryz.prog _ _ _ W) ?_
  intro W3 hbW3 hszW3 hc3 _
  have k0 : W3.cell? ⟨w2.heap.size, 0, none⟩ = some (.map o1) := hc3 0 _ rfl
  have k1 : W3.cell? ⟨w2.heap.size, 1, none⟩ = some (.map o2) := hc3 1 _ rfl
  replace e1 := cell_later hbW3 e1
  have hbw3 := hbw2.trans (hbW3.mono hbw2.size)
  clear hc3 hszW3 e1a
  go_wp2_with fail
  go_loopw [21] (fun i wr => ∃ k : Nat, k ≤ l.length ∧ i = .int .i64 k ∧ Below W3.heap.size W3 wr ∧ Hid (vGo (sound s) l = vGo (sound s) (l.drop k))) (fun i _ => l.length - (intOf i).toNat)
  case atStart => exact ⟨0, Nat.zero_le _, rfl, Below.refl _ _, by show _ = _; simp⟩
  case round =>
   obtain ⟨k, hkl, rfl, hbr, hinv⟩ := hrel
   have hbwr := hbw3.trans (hbr.mono hbw3.size)
   have hb2r := hbW3.trans (hbr.mono hbW3.size)
   replace k0 := cell_later hbr k0
   replace k1 := cell_later hbr k1
   replace e1 := cell_later hbr e1
   obtain ⟨wo, hwo⟩ : ∃ wo : World, wo = wr := ⟨_, rfl⟩
   subst hwo
   by_cases hlt : k < l.length
   ·obtain ⟨b, off, vk, rfl, hbl, c0, c1, hvk⟩ := AttsV.cell (AttsV.keep hv hbwr) hlt
    obtain ⟨Ak, ck2, rfl, hck2⟩ := SlV.shape hvk
    have hltI : (k : Int) < (l.length : Int) := by omega
    have hmem := List.getElem_mem hlt
    obtain ⟨n9, v9⟩ := hs5 _ hmem
    have h16 := (hv16 _ hmem).2
    obtain ⟨s1, s2⟩ := vGo_step (sound s) l k hlt _ hinv.out
    have hAt := fun W (hW : Below wo.heap.size wo W) => attribute_any (.map o1) (.map o2) (sound s) (B l[k].name) (.slice Ak l[k].vals.length ck2) l[k].vals W (hm2.keep (hb2r.trans (hW.mono hb2r.size))) ⟨o2, rfl⟩
     (SlV.mono (SlV.keep hvk (hW.mono hbwr.size)) (Nat.le_trans hbwr.size hW.size)) (hE.keep (hbwr.trans (hW.mono hbwr.size))) (hU.keep (hbwr.trans (hW.mono hbwr.size))) (by rw [Idn.size_B]; omega) (by omega) v9
    rw [Idn.L_B] at hAt
    generalize attrE (sound s) l[k].name l[k].vals = ae at *
    have ba := (Below.refl wo.heap.size wo).alloc (Nat.le_refl _) (.cells #[.string (B l[k].name), .slice Ak l[k].vals.length ck2] 48)
    have k0a := cell_later ba k0
    have k1a := cell_later ba k1
    clear ba hinv hvk n9 v9
    by_cases hae : ae = 0
    ·have ae0 : (ae == 0) = true := by simpa using hae
     have HF : Hid (vGo (sound s) l = vGo (sound s) (l.drop (k + 1))) := s2 hae
     clear s1 s2 hae
     go_wp2_with fail
     with_reducible refine gen1 (R := fun W => Calls Tryz.prog 99 _ W _) ?_
     intro W5 hbW5 _ _ _
     refine (hAt W5 hbW5).mono ?_
     rintro e w6 ⟨rfl, hb6⟩
     clear k0a k1a hAt
     go_wp2_with fail
     go_roundw
     case rel => exact ⟨k + 1, by omega, by go_num, hbr.trans ((hbW5.trans (hb6.mono hbW5.size)).mono hbr.size), HF⟩
     case measure => simp [intOf]; omega
    ·have ae0 : (ae == 0) = false := by simpa using hae
     have HF : Hid (r = ae) := by show _ = _; rw [HR.out, s1 hae, if_pos (by simpa using hae)]
     clear s1 s2 hae
     go_wp2_with fail
     with_reducible refine gen1 (R := fun W => Calls Tryz.prog 99 _ W _) ?_
     intro W5 hbW5 _ _ _
     refine (hAt W5 hbW5).mono ?_
     rintro e w6 ⟨rfl, hb6⟩
     clear k0a k1a hAt
     go_wp2_with fail
     go_ret
     exact ⟨ret_int (by rw [HF.out]), hbwr.trans ((hbW5.trans (hb6.mono hbW5.size)).mono hbwr.size)⟩
   ·have hltI : ¬ (k : Int) < (l.length : Int) := by omega
    have hC := hCl wo hb2r
    have HR : Hid (r = if !cb then 9 else 0) := by
     show _ = _
     rw [HR.out, hinv.out, List.drop_eq_nil_of_le (by omega)]; rfl
    clear hinv hCl
    cases cb
    ·have HF : Hid (r = 9) := HR
     go_wp2_with fail
     refine hC.mono ?_
     rintro e w6 ⟨rfl, hb6⟩
     go_wp2_with fail
     go_ret
     exact ⟨ret_int (by rw [HF.out]), hbwr.trans (hb6.mono hbwr.size)⟩
    ·have HF : Hid (r = 0) := HR
     go_wp2_with fail
     refine hC.mono ?_
     rintro e w6 ⟨rfl, hb6⟩
     go_wp2_with fail
     go_ret
     exact ⟨ret_int (by rw [HF.out]), hbwr.trans (hb6.mono hbwr.size)⟩
 ·have ck0 : (ck == 0) = false := by simpa using hck
  have HF : Hid (r = ck) := by show _ = _; rw [HR.out, if_pos (by simpa using hck)]
  clear hz hck
  go_wp2_with fail
  go_ret
  exact ⟨ret_int (by rw [HF.out]), hbw1⟩
end Go.Proofs.YtoopoglkeeoamaaGreatDoor
/- law07: small. -/
namespace Go.Proofs.YtoopoglkeeoamaaGreatDoor
open Go.RowKit Go.Sort
open Idn (L B Bs drop_L take_L size_L)
def personN : Bs := [112, 101, 114, 115, 111, 110]
def staffN : Bs := [115, 116, 97, 102, 102]
def cnN : Bs := [99, 110]
def ageN : Bs := [97, 103, 101]
def activeN : Bs := [97, 99, 116, 105, 118, 101]
def smallS : Idn.Sch := ⟨[⟨Idn.mainN, 1, false⟩, ⟨cnN, 1, false⟩, ⟨ageN, 3, true⟩, ⟨activeN, 5, false⟩], [⟨personN, [], [cnN], [ageN]⟩, ⟨staffN, personN, [], [activeN]⟩]⟩
theorem litR (w : World) (cs : Array Value) (n size : Nat) (e : TypeId) (p : Nat) (hp : w.heap.size = p) (hm : n ≤ maxLen) (hs : cs.size = n * size) : (w.alloc (.cells cs e)).ownsRow 0 e size (.slice (some ⟨p, 0, none⟩) n n) n cs.toList := by
 subst hp
 exact World.ownsRow_lit w cs n (Nat.zero_le _) hm hs
theorem genW {R Q : World → Prop} {W : World} (hQ : Q W) (h : ∀ W, Q W → R W) : R W := h W hQ
end Go.Proofs.YtoopoglkeeoamaaGreatDoor
/- The values of the small case, reckoned. -/
namespace Go.Proofs.YtoopoglkeeoamaaGreatDoor
open Go.RowKit Go.Sort
open Idn (L B Bs)
theorem ev_check : Idn.sCheck smallS = 0 := by kernel_rfl
theorem ev_sound : sound smallS = smallS := by rw [sound, if_pos ev_check]
theorem ev_n1 : kNorm smallS cnN [65, 110, 110, 32, 32, 76, 69, 69] = (⟨cnN, 1, false⟩, [97, 110, 110, 32, 108, 101, 101], 0) := by kernel_rfl
theorem ev_n2 : kNorm smallS ageN [48, 48, 55] = (⟨ageN, 3, true⟩, [55], 0) := by kernel_rfl
def textB : Bs := [116, 121, 112, 101, 32, 99, 108, 97, 115, 115, 32, 116, 101, 120, 116, 10, 116, 121, 112, 101, 32, 99, 110, 32, 116, 101, 120, 116, 10, 116, 121, 112, 101, 32, 97, 103, 101, 32, 105, 110, 116, 32, 115, 105, 110, 103, 108, 101, 10, 116, 121, 112, 101, 32, 97, 99, 116, 105, 118, 101, 32, 98, 111, 111, 108, 10, 99, 108, 97, 115, 115, 32, 112, 101, 114, 115, 111, 110, 32, 45, 32, 99, 110, 32, 97, 103, 101, 10, 99, 108, 97, 115, 115, 32, 115, 116, 97, 102, 102, 32, 112, 101, 114, 115, 111, 110, 32, 45, 32, 97, 99, 116, 105, 118, 101, 10]
theorem ev_text : Idn.sText smallS = (textB, 0) := by kernel_rfl
theorem ev_must : mustL smallS staffN = [cnN] := by kernel_rfl
theorem srt3 : sorted [cnN, activeN, ageN] = [activeN, ageN, cnN] := by
 unfold sorted
 have e1 : decide (cnN ≤ activeN) = false := by decide
 have e2 : decide (activeN ≤ ageN) = true := by decide
 have e3 : decide (cnN ≤ ageN) = false := by decide
 simp [List.mergeSort, List.MergeSort.Internal.splitInTwo, List.merge, e1, e2, e3, -decide_eq_true_eq, -decide_eq_false_iff_not]
theorem may3 : (mustL smallS staffN ++ ((Idn.lin smallS staffN).filterMap (smallS.classes[·]?)).flatMap (·.may)).map Idn.lower = [cnN, activeN, ageN] := by kernel_rfl
theorem cmp3 : Lib.compact [activeN, ageN, cnN] = [activeN, ageN, cnN] := by kernel_rfl
theorem ev_may : mayL smallS staffN = [activeN, ageN, cnN] := by
 unfold mayL merged
 rw [may3, srt3, cmp3]
def annA : List Idn.Att := [⟨Idn.mainN, [personN]⟩, ⟨cnN, [[65, 110, 110]]⟩]
def twoL : List Idn.Att := ⟨ageN, [[55], [56]]⟩ :: annA
theorem grpA : (Idn.grp [] annA).map Idn.normA = annA := by kernel_rfl
theorem aSrt : Idn.aSorted annA = annA := by
 unfold Idn.aSorted
 rw [grpA]
 have e1 : decide (Idn.mainN ≤ cnN) = true := by decide
 simp [List.mergeSort, List.MergeSort.Internal.splitInTwo, List.merge, annA, e1, -decide_eq_true_eq]
theorem ev_names : namesL annA = [Idn.mainN, cnN] := by
 unfold namesL
 rw [aSrt]; rfl
theorem ev_get : getL annA Idn.mainN = [personN] := by
 unfold getL
 rw [aSrt]; kernel_rfl
theorem may2 : (mustL smallS personN ++ ((Idn.lin smallS personN).filterMap (smallS.classes[·]?)).flatMap (·.may)).map Idn.lower = [cnN, ageN] := by kernel_rfl
theorem srt2 : sorted [cnN, ageN] = [ageN, cnN] := by
 unfold sorted
 have e1 : decide (cnN ≤ ageN) = false := by decide
 simp [List.mergeSort, List.MergeSort.Internal.splitInTwo, List.merge, e1, -decide_eq_true_eq, -decide_eq_false_iff_not]
theorem ev_may2 : mayL smallS personN = [ageN, cnN] := by
 unfold mayL merged
 rw [may2, srt2]
 kernel_rfl
theorem ev_cl : classedB smallS [Idn.mainN, cnN] [personN] = true := by
 have h0 : Idn.fold personN = personN := by kernel_rfl
 have h1 : clKey smallS personN = true := by kernel_rfl
 have h2 : mustL smallS personN = [cnN] := by kernel_rfl
 unfold classedB clsGo clsGo
 rw [h0, h1, h2, ev_may2]
 decide
theorem ev_a1 : Idn.aCheck annA = 0 := by kernel_rfl
theorem ev_g1 : vGo smallS annA = 0 := by kernel_rfl
theorem ev_v1 : sValid smallS annA = 0 := by
 unfold sValid
 rw [ev_a1, ev_sound, ev_g1, ev_names, ev_get, ev_cl]
 rfl
theorem ev_a2 : Idn.aCheck twoL = 0 := by kernel_rfl
theorem ev_g2 : vGo smallS twoL = 9 := by kernel_rfl
theorem ev_v2 : sValid smallS twoL = 9 := by
 unfold sValid
 rw [ev_a2, ev_sound, ev_g2]
 rfl
theorem small_ssm : SSm smallS := by unfold SSm TSm CSm Sm smallS; decide
end Go.Proofs.YtoopoglkeeoamaaGreatDoor
/- law07: alive. -/
namespace Go.Proofs.YtoopoglkeeoamaaGreatDoor
open Go.RowKit Go.Sort
open Idn (L B Bs drop_L take_L size_L)
def Sm7 (w : World) (u : Value) : Prop := SchV w w.heap.size u smallS ∧ Env w ∧ EnvU w
theorem Sm7.keep {w w' : World} {u : Value} (h : Sm7 w u) (hb : Below w.heap.size w w') : Sm7 w' u := ⟨SchV.mono (SchV.keep h.1 hb) hb.size, h.2.1.keep hb, h.2.2.keep hb⟩
end Go.Proofs.YtoopoglkeeoamaaGreatDoor
/- law07: alive, walked. -/
namespace Go.Proofs.YtoopoglkeeoamaaGreatDoor
open Go.RowKit Go.Sort
open Idn (L B Bs drop_L take_L size_L)
end Go.Proofs.YtoopoglkeeoamaaGreatDoor
/- law07: SchemaChecks, walked. -/
namespace Go.Proofs.YtoopoglkeeoamaaGreatDoor
open Go.RowKit Go.Sort
open Idn (L B Bs drop_L take_L size_L)
end Go.Proofs.YtoopoglkeeoamaaGreatDoor
