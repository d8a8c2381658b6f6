/- Part 37 of the proof that a class requires and allows what its superclass requires and allows, and a valid entry has all that its classes require, and stays valid with its attribute names in upper case: the package variables hold what the program lays; nothing else is asked: the package variables hold what the program lays; nothing else is asked. -/
import Derived.Test.YtnikolglippfmaaGreatDoorInh28
import Derived.Test.YtnikolglippfmaaGreatDoorInh36
import Derived.Deep.RegionLaw
/- schema: classed. -/
namespace Go.Proofs.YtnikolglippfmaaGreatDoor
open Go.RowKit Go.Sort
open Idn (L B Bs drop_L take_L size_L)

def clKey (s : Idn.Sch) (k : Bs) : Bool := s.classes.any fun c => decide (Idn.lower c.name = k)
def clsGo (s : Idn.Sch) (hv : List Bs) : List Bs → List Bs → Option (List Bs)
  | al, [] => some al
  | al, v :: l => if !clKey s (Idn.fold v) then none else if (mustL s (Idn.fold v)).any (fun m => !hv.contains m) then none else clsGo s hv (al ++ mayL s (Idn.fold v)) l
def classedB (s : Idn.Sch) (hv vals : List Bs) : Bool := match clsGo s hv [Idn.mainN] vals with | none => false | some al => decide (0 < vals.length) && !hv.any (fun x => !al.contains x)
theorem clsGo_step (s : Idn.Sch) (hv al l : List Bs) (k : Nat) (hk : k < l.length) (r : Option (List Bs)) (h : r = clsGo s hv al (l.drop k)) :
    (clKey s (Idn.fold l[k]) = false → r = none) ∧ (clKey s (Idn.fold l[k]) = true → (mustL s (Idn.fold l[k])).any (fun m => !hv.contains m) = true → r = none) ∧
    (clKey s (Idn.fold l[k]) = true → (mustL s (Idn.fold l[k])).any (fun m => !hv.contains m) = false → r = clsGo s hv (al ++ mayL s (Idn.fold l[k])) (l.drop (k + 1))) := by
  rw [List.drop_eq_getElem_cons hk, clsGo] at h
  refine ⟨fun h1 => ?_, fun h1 h2 => ?_, fun h1 h2 => ?_⟩
  · rw [h, h1]; rfl
  · rw [h, h1, h2]; rfl
  · rw [h, h1, h2]; rfl
theorem clKey_lk {es : List (Bs × Value)} {s : Idn.Sch} (h : ClK es s.classes) (k : Bs) : (lk es k).isSome = clKey s k := by
  unfold lk clKey
  have e : s.classes.any (fun c => decide (Idn.lower c.name = k)) = (s.classes.map fun c => Idn.lower c.name).any (fun x => decide (x = k)) := by rw [List.any_map]; rfl
  rw [e, ← h, List.any_map]
  rw [Bool.eq_iff_iff]
  simp [List.any_eq_true]
set_option maxRecDepth 100000 in
theorem classed1_any (x : Bs) (q : Nat) (u : Value) (al : List Bs) (w : World) (hc : w.cell? ⟨q, 0, none⟩ = some u) (hu : StrsV w w.heap.size u al) (hl : al.length ≤ 1000000000) :
    Calls Tryz.prog 99 #[.string (B x), .pointer (some ⟨q, 0, none⟩)] w fun e w' => e = .returned (.bool (!al.contains x)) ∧ Below w.heap.size w w' := by
  obtain ⟨A, c, rfl, hcc⟩ := hu.shape
  have hC := contains_any _ al (B x) w hu hl
  rw [Idn.L_B] at hC
  generalize al.contains x = b at *
  go_enter Tryz.func99, Tryz.ntmps99
  go_wp2_with (go_at_call 97; refine hC.mono ?_; rintro e w3 ⟨rfl, rfl⟩)
  go_ret
  exact ⟨rfl, Below.refl _ _⟩
theorem fn_classed1 : FnB 99 := by intro a w; kernel_rfl
theorem namesL_len {l : List Idn.Att} (h : Idn.ASm7 l) : (namesL l).length ≤ 1000 := by
  have h1 := grp_len l []
  have h2 := h.1
  unfold namesL
  rw [List.length_map, aSorted_len]
  simp at h1; omega
theorem mayL_len {s : Idn.Sch} (hbd : Bd s) (n : Bs) : (mayL s n).length ≤ 4096 := by
  have h1 := linS_len s n
  have h2 := flat_len (·.may) 64 ((Idn.lin s n).filterMap (s.classes[·]?)) (fun c hc => (hbd.2 c (linS_mem hc)).2)
  have h3 := merged_len (mustL s n ++ ((Idn.lin s n).filterMap (s.classes[·]?)).flatMap (·.may))
  have h4 := mustL_len hbd n
  have := hbd.1
  unfold mayL
  rw [List.length_append] at h3
  omega
theorem StrsV.grown {w w' : World} {hi n c : Nat} {A : Option Addr} {l : List Bs} {row : Option Nat} (h : StrsV w hi (.slice A n c) l) (hg : w.grownBy w' row) (hs : ∀ b off, A = some ⟨b, off, none⟩ → row ≠ some b) (hh : hi ≤ w.heap.size) : StrsV w' hi (.slice A n c) l := by
  obtain ⟨A', c', e, h1, h2⟩ := h
  injection e with e1 e2 e3
  subst e1
  refine ⟨A, c', by rw [e2, e3], h1, fun hp => ?_⟩
  obtain ⟨b, off, hA, hb, hx⟩ := h2 hp
  refine ⟨b, off, hA, hb, fun i x hix => ?_⟩
  obtain ⟨cs, h3, h4, h5⟩ := hx i x hix
  exact ⟨cs, h3, h4, fun j u hj => (World.cell?_of_block (w := w) (hg.block b (by omega) (fun e => hs b off hA e.symm))).trans (h5 j u hj)⟩
theorem StrsV.put {w : World} {hi n c p i : Nat} {A : Option Addr} {l : List Bs} (h : StrsV w hi (.slice A n c) l) (hs : ∀ b off, A = some ⟨b, off, none⟩ → b ≠ p) (v : Value) : StrsV (w.setCell ⟨p, i, none⟩ v) hi (.slice A n c) l := by
  obtain ⟨A', c', e, h1, h2⟩ := h
  injection e with e1 e2 e3
  subst e1
  refine ⟨A, c', by rw [e2, e3], h1, fun hp => ?_⟩
  obtain ⟨b, off, hA, hb, hx⟩ := h2 hp
  refine ⟨b, off, hA, hb, fun i x hix => ?_⟩
  obtain ⟨cs, h3, h4, h5⟩ := hx i x hix
  exact ⟨cs, h3, h4, fun j u hj => (World.cell?_of_block (w := w) (Below.heap_setCell _ _ _ _ (by show b ≠ p; exact hs b off hA))).trans (h5 j u hj)⟩
theorem grown_cell {w w' : World} {p i : Nat} {row : Option Nat} {u : Value} (hg : w.grownBy w' row) (hc : w.cell? ⟨p, i, none⟩ = some u) (hne : some p ≠ row) : w'.cell? ⟨p, i, none⟩ = some u :=
  (World.cell?_of_block (w := w) (hg.block p (World.block_lt_of_cell? _ _ hc) hne)).trans hc
theorem grown_frozen {w w' : World} {p i : Nat} {row : Option Nat} (hg : w.grownBy w' row) (hp : p < w.heap.size) (hc : w.frozen? ⟨p, i, none⟩ = false) (hne : some p ≠ row) : w'.frozen? ⟨p, i, none⟩ = false :=
  (World.frozen?_of_block (w := w) (hg.block p hp hne)).trans hc
theorem genRB {R : World → Prop} {w : World} {x : ByteArray} {t1 t2 : TypeId}
    (h : ∀ W, Below w.heap.size w W → W.heap.size = w.heap.size + 2 → W.ownsRow w.heap.size t1 1 (.slice (some ⟨w.heap.size, 0, none⟩) 1 1) 1 [.string x] → W.cell? ⟨w.heap.size + 1, 0, none⟩ = some (.slice (some ⟨w.heap.size, 0, none⟩) 1 1) →
      W.frozen? ⟨w.heap.size + 1, 0, none⟩ = false → R W) : R ((w.alloc (.cells #[.string x] t1)).alloc (.cells #[.slice (some ⟨w.heap.size, 0, none⟩) 1 1] t2)) := by
  have e1 : (w.alloc (.cells #[.string x] t1)).heap.size = w.heap.size + 1 := by simp
  have hnew : ((w.alloc (.cells #[.string x] t1)).alloc (.cells #[.slice (some ⟨w.heap.size, 0, none⟩) 1 1] t2)).heap[w.heap.size + 1]? = some (.cells #[.slice (some ⟨w.heap.size, 0, none⟩) 1 1] t2 (0, 0)) := by
    rw [← e1]; exact heap_alloc_new _ _
  have hw := World.ownsRow_lit (base := w.heap.size) (e := t1) (size := 1) w #[.string x] 1 (Nat.le_refl _) (by decide) rfl
  refine h _ (((Below.refl _ _).alloc (Nat.le_refl _) _).alloc (by simp) _) (by simp) (hw.alloc _) ?_ (Lib.frozen_of_heap hnew 0)
  rw [cell_of_row _ _ 0 _ _ (0, 0) hnew]; rfl
set_option maxHeartbeats 2000000 in
set_option maxRecDepth 100000 in
theorem classed_any (m1 m2 : Value) (s : Idn.Sch) (hi : Nat) (v : Value) (l : List Idn.Att) (w : World) (hk : KnV w hi m1 m2 s) (hh : hi ≤ w.heap.size) (hd : Idn.Dec s.classes) (hs : SSm s) (hbd : Bd s) (hv : AttsV w w.heap.size v l) (hs7 : Idn.ASm7 l) (hne : ∀ a ∈ l, a.vals.length ≠ 0)
    (hgl : (getL l Idn.mainN).length ≤ 100000) (hgx : ∀ x ∈ getL l Idn.mainN, x.length ≤ 100000000) :
    Calls Tryz.prog 49 #[.agg #[m1, m2], v] w fun e w' => e = .returned (.bool (classedB s (namesL l) (getL l Idn.mainN))) ∧ Below w.heap.size w w' := by
  obtain ⟨o1, o2, rfl, rfl⟩ := hk.shape
  obtain ⟨A0, c0, rfl, hc0⟩ := SlV.shape hv
  have hk0 := hk
  have hkV := fun W (hW : Below w.heap.size w W) => hk.keep hW hh
  clear hk
  have hNm := fun W (hW : Below w.heap.size w W) => names_any _ l W (AttsV.mono (AttsV.keep hv hW) hW.size) hs7 hne
  have hGt := fun W (hW : Below w.heap.size w W) => get_any _ l (B Idn.mainN) W (AttsV.mono (AttsV.keep hv hW) hW.size) hs7 hne (by decide)
  have hnl := namesL_len hs7
  rw [Idn.L_B] at hGt
  have HR : Hid (classedB s (namesL l) (getL l Idn.mainN) = match clsGo s (namesL l) [Idn.mainN] (getL l Idn.mainN) with | none => false | some al => decide (0 < (getL l Idn.mainN).length) && !(namesL l).any (fun x => !al.contains x)) := rfl
  generalize classedB s (namesL l) (getL l Idn.mainN) = r at *
  generalize namesL l = nms at *
  generalize getL l Idn.mainN = vals at *
  go_enter Tryz.func49, Tryz.ntmps49
  go_wp2_with fail
  with_reducible refine gen1 (R := fun W => Calls Tryz.prog 94 _ W _) ?_
  intro W hbW hszW hc1 _
  have k0 : W.cell? ⟨w.heap.size, 0, none⟩ = some (.map o1) := hc1 0 _ rfl
  have k1 : W.cell? ⟨w.heap.size, 1, none⟩ = some (.map o2) := hc1 1 _ rfl
  clear hc1 hszW
  refine (hNm W hbW).mono ?_
  rintro e w1 ⟨v1, rfl, hown1, hb1⟩
  have hbw1 := hbW.trans (hb1.mono hbW.size)
  have hN1 : StrsV w1 w1.heap.size v1 nms := StrsV.of_own hown1
  obtain ⟨A1, c1, hv1, hc1⟩ := hN1.shape
  subst hv1
  replace k0 := cell_later hb1 k0
  replace k1 := cell_later hb1 k1
  clear hNm hown1
  go_wp2_with fail
  with_reducible refine genRB (R := fun W => Calls Tryz.prog 95 _ W _) ?_
  intro X hbX hszX hownX cp fp
  have hbwX := hbw1.trans (hbX.mono hbw1.size)
  refine (hGt X hbwX).mono ?_
  rintro e w2 ⟨A, kk, c, rfl, hval, hge, hb2⟩
  obtain ⟨A', c', ev, hcc⟩ := hval.shape
  injection ev with ev1 ev2 ev3
  subst ev2
  have hown2 : w2.ownsRow w1.heap.size 9 1 (.slice (some ⟨w1.heap.size, 0, none⟩) 1 1) [Idn.mainN].length ([Idn.mainN].map sv) := own_below hownX hb2
  replace cp := cell_later hb2 cp
  replace fp := frozen_later hb2 fp (by omega)
  have hb12 : Below w1.heap.size w1 w2 := hbX.trans (hb2.mono hbX.size)
  have hge2 : ∀ b off, A = some ⟨b, off, none⟩ → w1.heap.size + 2 ≤ b := fun b off e => by have := hge b off e; omega
  clear hGt hownX hge ev1 ev3 hbX hbwX hszX hcc
  go_wp2
  go_loopw [22] (fun i wr => ∃ (k : Nat) (u : Value) (al : List Bs), k ≤ vals.length ∧ i = .int .i64 k ∧ wr.cell? ⟨w1.heap.size + 1, 0, none⟩ = some u ∧ wr.frozen? ⟨w1.heap.size + 1, 0, none⟩ = false ∧ wr.ownsRow w1.heap.size 9 1 u al.length (al.map sv) ∧
    (∀ g, u.ownBlock = some g → g ≠ w1.heap.size + 1 ∧ ∀ b off, A = some ⟨b, off, none⟩ → b ≠ g) ∧ StrsV wr w2.heap.size (.slice A vals.length c) vals ∧ Below w1.heap.size w1 wr ∧ w2.heap.size ≤ wr.heap.size ∧ Hid (clsGo s nms [Idn.mainN] vals = clsGo s nms al (vals.drop k)) ∧ al.length ≤ 1 + k * 4096) (fun i _ => vals.length - (intOf i).toNat)
  case atStart => exact ⟨0, _, [Idn.mainN], Nat.zero_le _, rfl, cp, fp, hown2, fun g hg => by
      simp [Value.ownBlock] at hg
      subst hg
      exact ⟨by omega, fun b off e => by have := hge2 b off e; omega⟩, hval, hb12, Nat.le_refl _, rfl, Nat.le_refl _⟩
  case round =>
    obtain ⟨k, u, al, hk, rfl, cp, fp, hown, hsep, hvr, hbr, hszr, hinv, hal⟩ := hrel
    have hbwr := hbw1.trans (hbr.mono hbw1.size)
    replace k0 := (hbr.cell (p := ⟨w.heap.size, 0, none⟩) (World.block_lt_of_cell? _ _ k0)).trans k0
    replace k1 := (hbr.cell (p := ⟨w.heap.size, 1, none⟩) (World.block_lt_of_cell? _ _ k1)).trans k1
    obtain ⟨wo, hwo⟩ : ∃ wo : World, wo = wr := ⟨_, rfl⟩
    subst hwo
    by_cases hlt : k < vals.length
    · obtain ⟨b, off, hA, hbl, c0⟩ := StrsV.cell hvr hlt
      subst hA
      have hltI : (k : Int) < (vals.length : Int) := by omega
      have hsz := hgx vals[k] (List.getElem_mem hlt)
      have hF := fold_any (B vals[k]) wo (by rw [Idn.size_B]; omega)
      rw [Idn.L_B] at hF
      obtain ⟨s1, s2, s3⟩ := clsGo_step s nms al vals k hlt _ hinv.out
      have hfl := Idn.length_fold vals[k]
      generalize Idn.fold vals[k] = kk at *
      clear hinv
      go_wp2_with fail
      refine hF.mono ?_
      rintro e w3 ⟨rfl, hb3⟩
      have hbw3 := hbwr.trans (hb3.mono hbwr.size)
      obtain ⟨_, es, hm, hcls⟩ := hk0
      have hm3 := hm.keep hbw3
      obtain ⟨ua, ub, A3, k3, c3, A4, k4, c4, hua⟩ := hcls.Sh.lk (L (B kk))
      have hsome : (lk es (L (B kk))).isSome = clKey s kk := by rw [Idn.L_B]; exact clKey_lk hcls.K kk
      clear hcls hm hF
      replace k0 := cell_later hb3 k0
      replace k1 := cell_later hb3 k1
      cases hkey : clKey s kk
      · have HF : Hid (r = false) := by show _ = _; rw [HR.out, s1 hkey]
        rw [hkey] at hsome
        clear s1 s2 s3 hkey
        go_wp2_with (at_lookup; refine wpList_look w3 rfl _ _ 67 rfl 9 50 Tryz.underlying9 Tryz.underlying67 (zeroCL _) hm3 rfl (B kk) rfl hua hsome ?_)
        go_ret
        exact ⟨ret_bool (by rw [HF.out]), hbw3.alloc hbw3.size _⟩
      rw [hkey] at hsome
      have hMu := fun W hW => must_any _ _ s hi (B kk) W (hkV W hW) (Nat.le_trans hh hW.size) hd hs hbd (by rw [Idn.size_B]; omega)
      have hMa := fun W hW => may_any _ _ s hi (B kk) W (hkV W hW) (Nat.le_trans hh hW.size) hd hs hbd (by rw [Idn.size_B]; omega)
      have hml := mustL_len hbd kk
      have hal2 := mayL_len hbd kk
      rw [Idn.L_B] at hMu hMa
      generalize mustL s kk = mu at *
      generalize mayL s kk = ma at *
      replace s2 := s2 hkey
      replace s3 := s3 hkey
      clear s1 hkey
      have ba := (Below.refl w3.heap.size w3).alloc (Nat.le_refl _) (.cells #[.string ua, .string ub, .slice A3 k3 c3, .slice A4 k4 c4] 50)
      have k0a := cell_later ba k0
      have k1a := cell_later ba k1
      clear ba
      go_wp2_with (at_lookup; refine wpList_look w3 rfl _ _ 67 rfl 9 50 Tryz.underlying9 Tryz.underlying67 (zeroCL _) hm3 rfl (B kk) rfl hua hsome ?_)
      with_reducible refine gen1 (R := fun W => Calls Tryz.prog 70 _ W _) ?_
      intro W4 hbW4 hszW4 _ _
      have hbw4 := hbw3.trans (hbW4.mono hbw3.size)
      refine (hMu W4 hbw4).mono ?_
      rintro e w5 ⟨v5, rfl, hown5, hb5⟩
      have hb35 := hbW4.trans (hb5.mono hbW4.size)
      have hb05 : Below wo.heap.size wo w5 := hb3.trans (hb35.mono hb3.size)
      have hbw5 := hbwr.trans (hb05.mono hbwr.size)
      have hM5 : StrsV w5 w5.heap.size v5 mu := StrsV.of_own hown5
      obtain ⟨A5, c5, hv5, hc5⟩ := hM5.shape
      subst hv5
      replace k0 := cell_later hb35 k0
      replace k1 := cell_later hb35 k1
      replace fp := frozen_later hb05 fp (World.block_lt_of_cell? _ _ cp)
      replace cp := cell_later hb05 cp
      replace hown := own_below hown hb05
      replace hvr := SlV.keep hvr (hb05.mono hszr)
      replace hszr : w2.heap.size ≤ w5.heap.size := Nat.le_trans hszr hb05.size
      have hbr5 : Below w1.heap.size w1 w5 := hbr.trans (hb05.mono hbr.size)
      clear k0a k1a
      clear hMu hown5 hm3 hua hsome hb3 hbw3 hbW4 hszW4 hbw4 hb5 hb35 hbwr hbr c0 hb05
      go_upto_block 2 with fail
      go_cut [] (fun wx => Below w5.heap.size w5 wx ∧ Hid (mu.any (fun m => !nms.contains m) = false))
      case first =>
        go_wp2_with fail
        go_loopw [41] (fun i wr => ∃ j : Nat, j ≤ mu.length ∧ i = .int .i64 j ∧ Below w5.heap.size w5 wr ∧ Hid (mu.any (fun m => !nms.contains m) = (mu.drop j).any (fun m => !nms.contains m))) (fun i _ => mu.length - (intOf i).toNat)
        case atStart => exact ⟨0, Nat.zero_le _, rfl, Below.refl _ _, by show _ = _; simp⟩
        case round =>
          obtain ⟨j, hj, rfl, hbj, hinv⟩ := hrel
          by_cases hjl : j < mu.length
          · obtain ⟨b6, off6, rfl, hbl6, d0⟩ := StrsV.cell (SlV.keep hM5 hbj) hjl
            have hjI : (j : Int) < (mu.length : Int) := by omega
            have hbj1 := hbr5.trans (hbj.mono hbr5.size)
            have hCt := contains_any _ nms (B mu[j]) wr (SlV.mono (SlV.keep hN1 hbj1) hbj1.size) (by omega)
            obtain ⟨t1, t2⟩ := Idn.any_drop _ mu j hjl _ hinv.out
            rw [Idn.L_B] at hCt
            generalize nms.contains mu[j] = cb at *
            have S2 := Lib.hid s2
            clear hinv s2 s3
            cases cb
            · have HF : Hid (r = false) := by show _ = _; rw [HR.out, S2.out (t1 rfl)]
              clear t1 t2 S2
              go_wp2_with (go_at_call 97; refine hCt.mono ?_; rintro e w6 ⟨rfl, rfl⟩)
              go_ret
              exact ⟨ret_bool (by rw [HF.out]), hbw5.trans (hbj.mono hbw5.size)⟩
            · have HF : Hid (mu.any (fun m => !nms.contains m) = (mu.drop (j + 1)).any (fun m => !nms.contains m)) := t2 rfl
              clear t1 t2 S2
              go_wp2_with (go_at_call 97; refine hCt.mono ?_; rintro e w6 ⟨rfl, rfl⟩)
              go_roundw
              case rel => exact ⟨j + 1, by omega, by go_num, hbj, HF⟩
              case measure => simp [intOf]; omega
          · have hjI : ¬ (j : Int) < (mu.length : Int) := by omega
            have HF : Hid (mu.any (fun m => !nms.contains m) = false) := by show _ = _; rw [hinv.out, List.drop_eq_nil_of_le (by omega)]; rfl
            clear hinv s2 s3
            go_wp2_with fail
            go_meet
            exact ⟨hbj, HF⟩
      case rest =>
        obtain ⟨hbc, hany⟩ := hcut
        have HN : Hid (clsGo s nms [Idn.mainN] vals = clsGo s nms (al ++ ma) (vals.drop (k + 1))) := s3 hany.out
        clear s2 s3 hany
        replace hbc : Below w5.heap.size w5 wc.drew := hbc.drew
        have hbwc : Below w.heap.size w wc.drew := hbw5.trans (hbc.mono hbw5.size)
        have hMc := hMa wc.drew hbwc
        replace fp : wc.drew.frozen? ⟨w1.heap.size + 1, 0, none⟩ = false := frozen_later hbc fp (World.block_lt_of_cell? _ _ cp)
        replace cp : wc.drew.cell? ⟨w1.heap.size + 1, 0, none⟩ = some u := cell_later hbc cp
        replace k0 : wc.drew.cell? ⟨w.heap.size, 0, none⟩ = some (.map o1) := cell_later hbc k0
        replace k1 : wc.drew.cell? ⟨w.heap.size, 1, none⟩ = some (.map o2) := cell_later hbc k1
        replace hown : wc.drew.ownsRow w1.heap.size 9 1 u al.length (al.map sv) := own_below hown hbc
        replace hvr : StrsV wc.drew w2.heap.size (.slice (some ⟨b, off, none⟩) vals.length c) vals := SlV.keep hvr (hbc.mono hszr)
        have hszc : w2.heap.size ≤ wc.drew.heap.size := Nat.le_trans hszr hbc.size
        have hbrc : Below w1.heap.size w1 wc.drew := hbr5.trans (hbc.mono hbr5.size)
        have hpc : w1.heap.size + 1 < wc.drew.heap.size := World.block_lt_of_cell? _ _ cp
        clear hMa hbc hbr5 hbw5
        go_wp2_with fail
        go_region_law (first
          | (go_simp
             go_at_call 71
             refine hMc.mono ?_
             rintro e w6 ⟨v6, rfl, hown6m, hb6⟩
             have hmv := StrsV.of_own hown6m
             have cp6 := cell_later hb6 cp
             have fp6 := frozen_later hb6 fp hpc
             have hown6 := own_below hown hb6
             have hb6s : w1.heap.size ≤ w6.heap.size := Nat.le_trans hbrc.size hb6.size
             have hp6 : w1.heap.size + 1 < w6.heap.size := Nat.lt_of_lt_of_le hpc hb6.size
             go_wp2_with fail)
          | (refine step_appendS rfl _ _ 48 rfl w1.heap.size 9 Tryz.underlying48 info_str _ _ _ hown6 rfl _ ma _ hmv rfl (by omega) hb6s ?_
             intro v' w7 hown' hg' hat'
             obtain ⟨A9, c9, hv9⟩ := own_shape hown'
             subst hv9
             have st1 := grown_cell hg' cp6 (fun e => (hsep _ e.symm).1 rfl)
             have st2 := grown_frozen hg' hp6 fp6 (fun e => (hsep _ e.symm).1 rfl)))
        all_goals
          have hsz6 : w2.heap.size ≤ w6.heap.size := Nat.le_trans hszc hb6.size
          have hsep' : ∀ g, (Value.slice A9 (al.length + ma.length) c9).ownBlock = some g → g ≠ w1.heap.size + 1 ∧ ∀ b' off', some (⟨b, off, none⟩ : Addr) = some ⟨b', off', none⟩ → b' ≠ g := fun g hg => by
            rcases hat' with hat | hat
            · exact hsep g (hat ▸ hg)
            · rw [hat] at hg
              injection hg with hg
              refine ⟨by omega, fun b' off' e => ?_⟩
              injection e with e
              injection e with e
              omega
          have hnO := ownsRow_setCell_other hown' (a := ⟨w1.heap.size + 1, 0, none⟩) (fun e => (hsep' _ e).1 rfl) (Value.slice A9 (al.length + ma.length) c9)
          have hnV := StrsV.put (p := w1.heap.size + 1) (i := 0) (StrsV.grown (SlV.keep hvr (hb6.mono hszc)) hg' (fun b' off' e e2 => (hsep b' e2).2 b' off' e rfl) hsz6) (fun b' off' e => by have := hge2 b' off' e; omega) (Value.slice A9 (al.length + ma.length) c9)
          have hbf := ((hbrc.trans (hb6.mono hbrc.size)).grown hg' hb6s (fun g hg => (hown6.lt g hg).1)).setCell (p := ⟨w1.heap.size + 1, 0, none⟩) (Nat.le_succ _) (Value.slice A9 (al.length + ma.length) c9)
          have hn1 : (w7.setCell ⟨w1.heap.size + 1, 0, none⟩ (Value.slice A9 (al.length + ma.length) c9)).cell? ⟨w1.heap.size + 1, 0, none⟩ = some (Value.slice A9 (al.length + ma.length) c9) := by go_simp
          have hn2 : (w7.setCell ⟨w1.heap.size + 1, 0, none⟩ (Value.slice A9 (al.length + ma.length) c9)).frozen? ⟨w1.heap.size + 1, 0, none⟩ = false := by go_simp
          have hszn : w2.heap.size ≤ (w7.setCell ⟨w1.heap.size + 1, 0, none⟩ (Value.slice A9 (al.length + ma.length) c9)).heap.size := by
            have := hg'.size
            simp; omega
          have hnP : (w7.setCell ⟨w1.heap.size + 1, 0, none⟩ (Value.slice A9 (al.length + ma.length) c9)).ownsRow w1.heap.size 9 1 (Value.slice A9 (al.length + ma.length) c9) (al ++ ma).length ((al ++ ma).map sv) := by
            rw [List.length_append, List.map_append]; exact hnO
          clear hnO
          clear hown hown' hown6 hown6m hvr hmv hg' hat' st1 st2 cp6 fp6 cp fp
          go_wp2_with fail
          go_roundw
          case rel => exact ⟨k + 1, _, al ++ ma, by omega, by go_num, hn1, hn2, hnP, hsep', hnV, hbf, hszn, HN, by rw [List.length_append]; omega⟩
          case measure => simp [intOf]; omega
    · have hltI : ¬ (k : Int) < (vals.length : Int) := by omega
      have hH := hasF_any 99 #[.pointer (some ⟨w1.heap.size + 1, 0, none⟩)] fn_classed1 (fun x => !al.contains x) (.slice A1 nms.length c1) nms wo (SlV.mono (SlV.keep hN1 hbr) hbr.size) (by omega)
        (fun W x _ hbW => classed1_any x _ u al W (cell_later hbW cp) (StrsV.of_own (own_below hown hbW)) (by omega))
      have HF : Hid (r = (decide (0 < vals.length) && !nms.any (fun x => !al.contains x))) := by
        show _ = _
        rw [HR.out, hinv.out, List.drop_eq_nil_of_le (by omega)]
        rfl
      generalize nms.any (fun x => !al.contains x) = bb at *
      clear hinv
      by_cases hp : 0 < vals.length
      · have hpI : (0 : Int) < (vals.length : Int) := by omega
        have HF2 : Hid (r = !bb) := by show _ = _; rw [HF.out]; simp [hp]
        go_wp2_with (go_at_call 98; refine hH.mono ?_; rintro e w9 ⟨rfl, hb9⟩)
        go_ret
        exact ⟨ret_bool (by rw [HF2.out]), hbwr.trans (hb9.mono hbwr.size)⟩
      · have hpI : ¬ (0 : Int) < (vals.length : Int) := by omega
        have HF2 : Hid (r = false) := by show _ = _; rw [HF.out]; simp [hp]
        go_wp2
        go_ret
        exact ⟨ret_bool (by rw [HF2.out]), hbwr⟩
end Go.Proofs.YtnikolglippfmaaGreatDoor
