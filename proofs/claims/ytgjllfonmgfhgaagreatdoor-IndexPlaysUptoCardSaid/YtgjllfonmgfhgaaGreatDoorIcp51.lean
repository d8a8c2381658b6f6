/- Part 51 of the proof that laws of identitylaw11 return true at every argument within the bound: the package variables hold what the program lays; nothing else is asked. -/
import Derived.Test.YtgjllfonmgfhgaaGreatDoorIcp49
set_option linter.unusedVariables false
set_option linter.unusedSimpArgs false
set_option maxRecDepth 100000
set_option maxHeartbeats 16000000
/- law11: both indexes at once; calls of IndexPlays. -/
namespace Go.Proofs.YtgjllfonmgfhgaaGreatDoor
open Go.RowKit Go.Sort
open Idn (L B Bs drop_L take_L size_L)
def Kpx (rx : Nat) (w w' : World) : Prop := ∀ b i u, b ≠ rx → w.cell? ⟨b, i, none⟩ = some u → w'.cell? ⟨b, i, none⟩ = some u
theorem Kpx.refl (rx : Nat) (w : World) : Kpx rx w w := fun _ _ _ _ h => h
theorem Kpx.trans {rx : Nat} {w w' w'' : World} (h : Kpx rx w w') (k : Kpx rx w' w'') : Kpx rx w w'' := fun b i u hb e => k b i u hb (h b i u hb e)
theorem Kpx.of_below {rx : Nat} {w w' : World} (h : Below w.heap.size w w') : Kpx rx w w' := fun _ _ _ _ e => cell_later h e
def Two (w : World) (hs lo px : Nat) (s : Idn.Sch) (ns : List Bs) (ta cb : Value) (eb vb : Nat) (ts : List (Bs × Nat)) (hs' lo' rx : Nat) (ta' cb' nv' : Value) (ex ey : List IxE) : Prop :=
 ∃ g G lv qs, IxV w hs lo px s ns ex ta cb eb vb g ts G ∧ RefV w hs' lo' rx s (ns.map Idn.lower) ey ta' cb' nv' lv qs
section
variable {w w' w0 : World} {lo0 hs lo px : Nat} {s : Idn.Sch} {ns : List Bs} {ta cb : Value} {eb vb : Nat} {ts : List (Bs × Nat)} {hs' lo' rx : Nat} {ta' cb' nv' : Value} {ex ey : List IxE}
theorem Two.keep (h : Two w hs lo px s ns ta cb eb vb ts hs' lo' rx ta' cb' nv' ex ey) (hb : Below w.heap.size w w') : Two w' hs lo px s ns ta cb eb vb ts hs' lo' rx ta' cb' nv' ex ey := by
 obtain ⟨g, G, lv, qs, h1, h2⟩ := h
 exact ⟨g, G, lv, qs, h1.keep hb, h2.keep hb⟩
theorem two_putx (h : Two w hs lo px s ns ta cb eb vb ts hs' lo' rx ta' cb' nv' ex ey) (hG : GdI s ns ex) (hlen : ex.length < 256) (hlo : lo0 ≤ hs) (hb0 : Below lo0 w0 w) (hE : ∀ W, Below lo0 w0 W → Env W ∧ EnvU W) (n : Bs) (hn : n.length ≤ 1000000) (av : Value) (A : List Idn.Att) (hatv : AttsV w w.heap.size av A) (hA7 : Idn.ASm7 A) :
  Calls Tryz.prog 15 #[.pointer (some ⟨px, 0, none⟩), .agg #[.string (B n), av]] w fun e w' => e = .returned (.int .i64 (ixPut ex n A).1) ∧ Two w' hs lo px s ns ta cb eb vb ts hs' lo' rx ta' cb' nv' (ixPut ex n A).2 ey ∧ Below lo0 w0 w' ∧ w.heap.size ≤ w'.heap.size ∧ Kpx rx w w' := by
 obtain ⟨g, G, lv, qs, hI, hJ⟩ := h
 refine (put11_any hI hG hlen hlo w0 hb0 hE n hn av A hatv hA7).mono ?_
 rintro e w8 ⟨h1, g8, G8, h2, _, h4, _, h6, h7⟩
 exact ⟨h1, ⟨g8, G8, lv, qs, h2, hJ.mv h4 hI.allMap⟩, h6, h7.2, fun _ _ _ _ hc => h7.cell hc⟩
theorem two_puty (h : Two w hs lo px s ns ta cb eb vb ts hs' lo' rx ta' cb' nv' ex ey) (hG : GdI s ns ey) (hF : rx ≠ px ∧ hs ≤ rx ∧ rx < lo) (hlo : lo0 ≤ rx) (hz : lo0 ≤ w.heap.size) (hb0 : Below lo0 w0 w) (n : Bs) (hn : n.length ≤ 1000000) (av : Value) (A : List Idn.Att) (hatv : AttsV w w.heap.size av A) (hA7 : Idn.ASm7 A) :
  Calls Tryz.prog 16 #[.pointer (some ⟨rx, 0, none⟩), .agg #[.string (B n), av]] w fun e w' => e = .returned (.int .i64 (ixPut ey n A).1) ∧ Two w' hs lo px s ns ta cb eb vb ts hs' lo' rx ta' cb' nv' ex (ixPut ey n A).2 ∧ Below lo0 w0 w' ∧ w.heap.size ≤ w'.heap.size ∧ Kpx rx w w' := by
 obtain ⟨g, G, lv, qs, hI, hJ⟩ := h
 refine (r11_Put_any hJ hG.ok hG.len hG.nam n hn av A hatv hA7).mono ?_
 rintro e w9 ⟨h1, lv9, qs9, h2, h3⟩
 exact ⟨h1, ⟨g, G, lv9, qs9, hI.ref hJ h3 hF.1 hF.2.1 hF.2.2, h2⟩, below_ref hb0 h3 hlo hz, h3.size, fun b i u hb hc => cell_off h3 (fun e => hb e) hc⟩
theorem two_dropx (h : Two w hs lo px s ns ta cb eb vb ts hs' lo' rx ta' cb' nv' ex ey) (hG : GdI s ns ex) (hlo : lo0 ≤ hs) (hb0 : Below lo0 w0 w) (hE : ∀ W, Below lo0 w0 W → Env W ∧ EnvU W) (n : Bs) (hn : n.length ≤ 1000000) :
  Calls Tryz.prog 17 #[.pointer (some ⟨px, 0, none⟩), .string (B n)] w fun e w' => e = .returned (.tuple #[]) ∧ Two w' hs lo px s ns ta cb eb vb ts hs' lo' rx ta' cb' nv' (ixDrop ex n) ey ∧ Below lo0 w0 w' ∧ w.heap.size ≤ w'.heap.size ∧ Kpx rx w w' := by
 obtain ⟨g, G, lv, qs, hI, hJ⟩ := h
 refine (drop11_any hI hG hlo w0 hb0 hE n hn).mono ?_
 rintro e w8 ⟨h1, G8, h2, _, h4, _, h6, h7⟩
 exact ⟨h1, ⟨g, G8, lv, qs, h2, hJ.mv h4 hI.allMap⟩, h6, h7.2, fun _ _ _ _ hc => h7.cell hc⟩
theorem two_dropy (h : Two w hs lo px s ns ta cb eb vb ts hs' lo' rx ta' cb' nv' ex ey) (hG : GdI s ns ey) (hF : rx ≠ px ∧ hs ≤ rx ∧ rx < lo) (hlo : lo0 ≤ rx) (hz : lo0 ≤ w.heap.size) (hb0 : Below lo0 w0 w) (n : Bs) (hn : n.length ≤ 1000000) :
  Calls Tryz.prog 18 #[.pointer (some ⟨rx, 0, none⟩), .string (B n)] w fun e w' => e = .returned (.tuple #[]) ∧ Two w' hs lo px s ns ta cb eb vb ts hs' lo' rx ta' cb' nv' ex (ixDrop ey n) ∧ Below lo0 w0 w' ∧ w.heap.size ≤ w'.heap.size ∧ Kpx rx w w' := by
 obtain ⟨g, G, lv, qs, hI, hJ⟩ := h
 refine (r11_Drop_any hJ (Nat.le_trans hG.len (by decide)) n hn).mono ?_
 rintro e w9 ⟨h1, lv9, qs9, h2, h3⟩
 exact ⟨h1, ⟨g, G, lv9, qs9, hI.ref hJ h3 hF.1 hF.2.1 hF.2.2, h2⟩, below_ref hb0 h3 hlo hz, h3.size, fun b i u hb hc => cell_off h3 (fun e => hb e) hc⟩
end
abbrev OpT := Int × EntP × Bs × Bs × Bs
def EOp (w : World) (hi : Nat) (x : OpT) (cs : List Value) : Prop := ∃ v, cs = [.int .i64 x.1, sv x.2.1.1, v, sv x.2.2.1, sv x.2.2.2.1, sv x.2.2.2.2] ∧ AttsV w hi v x.2.1.2
abbrev OpsV (w : World) (hi : Nat) (v : Value) (l : List OpT) : Prop := SlV (EOp w hi) w hi 6 v l
theorem OpsV.keepP {w w' : World} {hi : Nat} {v : Value} {l : List OpT} (h : OpsV w hi v l) (hc : ∀ b off u, b < hi → w.cell? ⟨b, off, none⟩ = some u → w'.cell? ⟨b, off, none⟩ = some u) : OpsV w' hi v l :=
 SlV.imp (SlV.keepC h hc) fun _ _ ⟨v, e, p⟩ => ⟨v, e, AttsV.keepC p hc⟩
theorem OpsV.mono {w : World} {hi hi' : Nat} {v : Value} {l : List OpT} (h : OpsV w hi v l) (hh : hi ≤ hi') : OpsV w hi' v l :=
 SlV.mono (SlV.imp h fun _ _ ⟨u, h1, h2⟩ => ⟨u, h1, AttsV.mono h2 hh⟩) hh
theorem OpsV.cell {w : World} {hi : Nat} {A : Option Addr} {n c : Nat} {l : List OpT} (h : OpsV w hi (.slice A n c) l) {k : Nat} (hk : k < l.length) :
  ∃ b off v, A = some ⟨b, off, none⟩ ∧ b < hi ∧ w.cell? ⟨b, off + k * 6, none⟩ = some (.int .i64 l[k].1) ∧ w.cell? ⟨b, off + k * 6 + 1, none⟩ = some (.string (B l[k].2.1.1)) ∧ w.cell? ⟨b, off + k * 6 + 2, none⟩ = some v ∧ w.cell? ⟨b, off + k * 6 + 3, none⟩ = some (.string (B l[k].2.2.1)) ∧ w.cell? ⟨b, off + k * 6 + 4, none⟩ = some (.string (B l[k].2.2.2.1)) ∧ w.cell? ⟨b, off + k * 6 + 5, none⟩ = some (.string (B l[k].2.2.2.2)) ∧ AttsV w hi v l[k].2.1.2 := by
 obtain ⟨b, off, hA, hb, cs, h1, ⟨v, h2, h4⟩, h3⟩ := h.at_ hk
 subst h2
 exact ⟨b, off, v, hA, hb, by simpa [sv] using h3 0 _ rfl, by simpa [Nat.add_assoc, sv] using h3 1 _ rfl, by simpa [Nat.add_assoc] using h3 2 _ rfl, by simpa [Nat.add_assoc, sv] using h3 3 _ rfl, by simpa [Nat.add_assoc, sv] using h3 4 _ rfl, by simpa [Nat.add_assoc, sv] using h3 5 _ rfl, h4⟩
def OkO (o : OpT) : Prop := LightE (B o.2.1.1) o.2.1.2 ∧ o.2.2.1.length ≤ 300 ∧ o.2.2.2.1.length ≤ 300 ∧ o.2.2.2.2.length ≤ 300
def FewL (l : List OpT) : Prop := l.length ≤ 12 ∧ ∀ o ∈ l, OkO o
theorem few11_any (v : Value) (l : List OpT) (w : World) (hv : OpsV w w.heap.size v l) (hl : l.length ≤ 1048576) (hg : ∀ o ∈ l, ALen8 o.2.1.2 ∧ o.2.1.1.length ≤ 9223372036854775807) : Calls Tryz.prog 11 #[v] w (RetY w (FewL l)) := by
 obtain ⟨A, c, rfl, _⟩ := SlV.shape hv
 go_enter Tryz.func11, Tryz.ntmps11
 go_wp2_with fail
 go_loopw [3] (fun i wr => ∃ k : Nat, k ≤ l.length ∧ i = .int .i64 k ∧ Below w.heap.size w wr ∧ Hid (∀ o ∈ l.take k, OkO o)) (fun i _ => l.length - (intOf i).toNat)
 case atStart => exact ⟨0, Nat.zero_le _, rfl, Below.refl _ _, fun t ht => by simp at ht⟩
 case round =>
  obtain ⟨k, hk, rfl, hb, hinv⟩ := hrel
  by_cases hlt : k < l.length
  ·obtain ⟨b, off, va, hAd, _, d0, d1, d2, d3, d4, d5, hva⟩ := OpsV.cell (OpsV.mono (OpsV.keepP hv fun b off u hb' hc => cell_later hb hc) hb.size) hlt
   subst hAd
   obtain ⟨Av, cv, rfl, _⟩ := SlV.shape hva
   obtain ⟨g1, g2⟩ := hg _ (List.getElem_mem hlt)
   have hL := fun W (hW : Below wr.heap.size wr W) => light_any (B l[k].2.1.1) _ l[k].2.1.2 W (AttsV.mono (AttsV.keep hva hW) hW.size) g1 (by rw [Idn.size_B]; exact g2)
   have hltI : (k : Int) < (l.length : Int) := by omega
   have hnx : OkO l[k] → Hid (∀ o ∈ l.take (k + 1), OkO o) := fun h => take_allP hinv.out hlt h
   have hok : LightE (B l[k].2.1.1) l[k].2.1.2 → l[k].2.2.1.length ≤ 300 → l[k].2.2.2.1.length ≤ 300 → l[k].2.2.2.2.length ≤ 300 → OkO l[k] := fun a b c d => ⟨a, b, c, d⟩
   have z3 := Idn.size_B l[k].2.2.1
   have z4 := Idn.size_B l[k].2.2.2.1
   have z5 := Idn.size_B l[k].2.2.2.2
   generalize OkO l[k] = Ok at *
   generalize l[k] = o at *
   obtain ⟨ok, ⟨en, ea⟩, on, ol, oh⟩ := o
   dsimp only at d0 d1 d2 d3 d4 d5 hL hok z3 z4 z5 hva g1 g2
   clear hinv
   go_wp2_with fail
   refine (hL wr (Below.refl _ _)).mono ?_
   rintro e w5 ⟨r, rfl, hr, hb5⟩
   have hr' := Lib.hid hr
   replace d3 := cell_later hb5 d3
   replace d4 := cell_later hb5 d4
   replace d5 := cell_later hb5 d5
   have hbw5 := hb.trans (hb5.mono hb.size)
   clear hL hr d0 d1 d2 hva
   cases r with
   | false =>
    clear hr' hnx hok
    go_wp2_with fail
    go_ret
    exact RetY.no hbw5
   | true =>
    have hlg := Lib.hid (hr'.out rfl)
    clear hr'
    by_cases h3 : (300 : Int) < ((B on).size : Int)
    ·clear hnx hok hlg
     go_wp2_with fail
     go_ret
     exact RetY.no hbw5
    by_cases h4 : (300 : Int) < ((B ol).size : Int)
    ·clear hnx hok hlg
     go_wp2_with fail
     go_ret
     exact RetY.no hbw5
    by_cases h5 : (300 : Int) < ((B oh).size : Int)
    ·clear hnx hok hlg
     go_wp2_with fail
     go_ret
     exact RetY.no hbw5
    have HF := hnx (hok hlg.out (by omega) (by omega) (by omega))
    clear hnx hok hlg
    go_wp2_with fail
    go_roundw
    case rel => exact ⟨k + 1, by omega, by go_num, hbw5, HF⟩
    case measure => simp [intOf]; omega
  ·have hltI : ¬ (k : Int) < (l.length : Int) := by omega
   have HF : Hid (∀ o ∈ l, OkO o) := by
    have h := hinv.out
    rwa [List.take_of_length_le (by omega)] at h
   clear hinv
   by_cases h1 : l.length ≤ 12
   ·have h1' : (l.length : Int) ≤ 12 := by omega
    go_wp2_with fail
    go_ret
    exact RetY.yes ⟨h1, HF.out⟩ hb
   ·have h1' : ¬ (l.length : Int) ≤ 12 := by omega
    go_wp2_with fail
    go_ret
    exact RetY.no hb
end Go.Proofs.YtgjllfonmgfhgaaGreatDoor
/- The second form's bound at lists of calls of identitylaw11. -/
namespace Go.Proofs.YtgjllfonmgfhgaaGreatDoor
open Go.RowKit Go.Sort Go.ChangeShapes Go.WideShapes Go.ChangeAt
open Idn (L B Bs)
def GOp (o : OpT) (n : Nat) : Prop := GE o.2.1 n ∧ o.2.2.1.length ≤ n ∧ o.2.2.2.1.length ≤ n ∧ o.2.2.2.2.length ≤ n
theorem GOp.mono {x : OpT} {n m : Nat} (h : GOp x n) (hn : n ≤ m) : GOp x m := ⟨h.1.mono hn, Nat.le_trans h.2.1 hn, Nat.le_trans h.2.2.1 hn, Nat.le_trans h.2.2.2 hn⟩
section
variable {H : Type} {enc : TypeId × Value → H} {W : World}
theorem cellsOf_Op : Tryz.prog.cellsOf 43 = 6 := by kernel_rfl
theorem cellsOf_int9 : Tryz.prog.cellsOf 3 = 1 := by kernel_rfl
theorem ops_openB {r : Reach} {b0 : Nat} {v : Value} {d : DataW H} {p : List MemPlace} (hv : Value.okWide Tryz.prog W r b0 27 v) (h : DataW.Trod enc Tryz.prog W 0 (fun _ => true) true 27 v d p) : ∃ l, OpsV W W.heap.size v l ∧ l.length ≤ Rows.uptoBulk d ∧ ∀ o ∈ l, GOp o (Rows.uptoBulk d) := by
 obtain ⟨fuel, hf⟩ := slice_openG Tryz.underlying27 hv h
 refine sl_openB (E := EOp W W.heap.size) (G := GOp) (fun _ _ _ h1 h2 => h1.mono h2) Tryz.underlying27 cellsOf_Op (by decide) hf fun cs n y hy => ?_
 obtain ⟨xs, m, rfl, hyy, hl, hxs, hg⟩ := DataW.trod_struct Tryz.underlying43 hy
 rw [cellsOf_Op] at hl
 match cs, hl with
 | [a0, a1, a2, a3, a4, a5], _ =>
 match xs, hxs with
 | [y0, y1, y2, y3, y4], _ =>
 have h0 : DataW.trod enc Tryz.prog W 0 (fun _ => true) true m 3 [a0] = some y0 := by have := hg 0 _ rfl; simpa [cellsOf_int9] using this
 have h1 : DataW.trod enc Tryz.prog W 0 (fun _ => true) true m 41 [a1, a2] = some y1 := by have := hg 1 _ rfl; simpa [cellsOf_int9, cellsOf_Ent] using this
 have h2 : DataW.trod enc Tryz.prog W 0 (fun _ => true) true m 9 [a3] = some y2 := by have := hg 2 _ rfl; simpa [cellsOf_int9, cellsOf_Ent, cellsOf_string] using this
 have h3 : DataW.trod enc Tryz.prog W 0 (fun _ => true) true m 9 [a4] = some y3 := by have := hg 3 _ rfl; simpa [cellsOf_int9, cellsOf_Ent, cellsOf_string] using this
 have h4 : DataW.trod enc Tryz.prog W 0 (fun _ => true) true m 9 [a5] = some y4 := by have := hg 4 _ rfl; simpa [cellsOf_int9, cellsOf_Ent, cellsOf_string] using this
 obtain ⟨k, e0, _, _⟩ := DataW.trod_int Tryz.underlying3 h0
 obtain ⟨s2, e2, f2, _⟩ := DataW.trod_string Tryz.underlying9 h2
 obtain ⟨s3, e3, f3, _⟩ := DataW.trod_string Tryz.underlying9 h3
 obtain ⟨s4, e4, f4, _⟩ := DataW.trod_string Tryz.underlying9 h4
 obtain ⟨z0, z1, m', hzz, hl, g0, g1⟩ := trod_struct2 Tryz.underlying41 h1
 obtain ⟨s, q0, j0, _⟩ := DataW.trod_string Tryz.underlying9 g0
 simp [cellsOf_string] at q0
 simp at e0 e2 e3 e4
 subst q0 e0 e2 e3 e4
 have g1' : DataW.trod enc Tryz.prog W 0 (fun _ => true) true m' 39 [a2] = some z1 := by simpa [cellsOf_string, cellsOf_atts] using g1
 obtain ⟨l2, t1, t2⟩ := atts_openB g1'
 subst hzz
 subst hyy
 have hb : ∀ y ∈ [y0, (.agg [z0.1, z1.1], z0.2 ++ z1.2), y2, y3, y4], Rows.uptoBulk y.1 ≤ Rows.uptoBulk (.agg [y0.1, .agg [z0.1, z1.1], y2.1, y3.1, y4.1] : DataW H) := fun y hy => bk_agg (by
  simp at hy
  rcases hy with rfl | rfl | rfl | rfl | rfl <;> simp)
 obtain ⟨k0, k1⟩ := bk_a2 z0.1 z1.1
 have hbe := hb (.agg [z0.1, z1.1], z0.2 ++ z1.2) (by simp)
 refine ⟨(k, (L s, l2), L s2, L s3, L s4), rfl, ⟨a2, by simp [sv, Idn.B_L], t1⟩, ⟨Nat.le_trans (bk_of j0) (Nat.le_trans k0 hbe), t2.mono (Nat.le_trans k1 hbe)⟩, Nat.le_trans (bk_of f2) (hb y2 (by simp)), Nat.le_trans (bk_of f3) (hb y3 (by simp)), Nat.le_trans (bk_of f4) (hb y4 (by simp))⟩
end
end Go.Proofs.YtgjllfonmgfhgaaGreatDoor
/- law11: IndexPlays. -/
namespace Go.Proofs.YtgjllfonmgfhgaaGreatDoor
open Go.RowKit Go.Sort
open Idn (L B Bs drop_L take_L size_L)
section
variable {w w' w0 : World} {lo0 hs lo px : Nat} {s : Idn.Sch} {ns : List Bs} {ta cb : Value} {eb vb : Nat} {ts : List (Bs × Nat)} {hs' lo' rx : Nat} {ta' cb' nv' : Value} {ex ey : List IxE}
theorem two_lenx (h : Two w hs lo px s ns ta cb eb vb ts hs' lo' rx ta' cb' nv' ex ey) (hG : GdI s ns ex) : Calls Tryz.prog 24 #[.pointer (some ⟨px, 0, none⟩)] w fun e w' => e = .returned (.int .i64 ex.length) ∧ w = w' := by
 obtain ⟨g, G, lv, qs, hI, hJ⟩ := h
 exact ixLen_any hI hG
theorem two_leny (h : Two w hs lo px s ns ta cb eb vb ts hs' lo' rx ta' cb' nv' ex ey) : Calls Tryz.prog 25 #[.pointer (some ⟨rx, 0, none⟩)] w fun e w' => e = .returned (.int .i64 ey.length) ∧ w = w' := by
 obtain ⟨g, G, lv, qs, hI, hJ⟩ := h
 exact r11_Len_any hJ
theorem two_findx (h : Two w hs lo px s ns ta cb eb vb ts hs' lo' rx ta' cb' nv' ex ey) (hG : GdI s ns ex) (hb0 : Below lo0 w0 w) (hlo : lo0 ≤ w.heap.size) (hE : ∀ W, Below lo0 w0 W → Env W ∧ EnvU W) (a x : Bs) (ha : a.length ≤ 1000000) (hx : x.length ≤ 1000000) :
  Calls Tryz.prog 19 #[.pointer (some ⟨px, 0, none⟩), .string (B a), .string (B x)] w (RetC w (ixFind s (ns.map Idn.lower) ex a x)) := by
 obtain ⟨g, G, lv, qs, hI, hJ⟩ := h
 have := fnd11_any hI hG w0 hb0 hlo hE (B a) (B x) (by rw [Idn.size_B]; omega) (by rw [Idn.size_B]; omega)
 rwa [Idn.L_B, Idn.L_B] at this
theorem two_findy (h : Two w hs lo px s ns ta cb eb vb ts hs' lo' rx ta' cb' nv' ex ey) (hB : BdR s (ns.map Idn.lower) ey) (a x : Bs) (ha : a.length ≤ 1000000) (hx : x.length ≤ 1000000) :
  Calls Tryz.prog 20 #[.pointer (some ⟨rx, 0, none⟩), .string (B a), .string (B x)] w (RetC w (ixFind s (ns.map Idn.lower) ey a x)) := by
 obtain ⟨g, G, lv, qs, hI, hJ⟩ := h
 have := r11_Find_any hJ hB (B a) (B x) (by rw [Idn.size_B]; omega) (by rw [Idn.size_B]; omega)
 rwa [Idn.L_B, Idn.L_B, refFind_eq] at this
theorem two_rngx (h : Two w hs lo px s ns ta cb eb vb ts hs' lo' rx ta' cb' nv' ex ey) (hG : GdI s ns ex) (hb0 : Below lo0 w0 w) (hlo : lo0 ≤ w.heap.size) (hE : ∀ W, Below lo0 w0 W → Env W ∧ EnvU W) (a x y : Bs) (ha : a.length ≤ 1000000) (hx : x.length ≤ 1000000) (hy : y.length ≤ 1000000) :
  Calls Tryz.prog 22 #[.pointer (some ⟨px, 0, none⟩), .string (B a), .string (B x), .string (B y)] w (RetC w (ixRange s (ns.map Idn.lower) ex a x y)) := by
 obtain ⟨g, G, lv, qs, hI, hJ⟩ := h
 have := rng11_any hI hG w0 hb0 hlo hE (B a) (B x) (B y) (by rw [Idn.size_B]; omega) (by rw [Idn.size_B]; omega) (by rw [Idn.size_B]; omega)
 rwa [Idn.L_B, Idn.L_B, Idn.L_B] at this
theorem two_rngy (h : Two w hs lo px s ns ta cb eb vb ts hs' lo' rx ta' cb' nv' ex ey) (hB : BdR s (ns.map Idn.lower) ey) (a x y : Bs) (ha : a.length ≤ 1000000) (hx : x.length ≤ 1000000) (hy : y.length ≤ 1000000) :
  Calls Tryz.prog 23 #[.pointer (some ⟨rx, 0, none⟩), .string (B a), .string (B x), .string (B y)] w (RetC w (ixRange s (ns.map Idn.lower) ey a x y)) := by
 obtain ⟨g, G, lv, qs, hI, hJ⟩ := h
 have := r11_Range_any hJ hB (B a) (B x) (B y) (by rw [Idn.size_B]; omega) (by rw [Idn.size_B]; omega) (by rw [Idn.size_B]; omega)
 rwa [Idn.L_B, Idn.L_B, Idn.L_B, refRange_eq] at this
end
theorem find_len {s : Idn.Sch} {idx : List Bs} {es : List IxE} (h : OkE es) (hl : es.length ≤ 256) (a x : Bs) : (ixFind s idx es a x).1.length ≤ 1000000000000 := by
 have hc : CdE es (ixFind s idx es a x).1 := by
  rw [← refFind_eq]
  unfold refFind
  split
  ·exact CdE.nil _
  ·rw [refRange_eq]; exact range_ok h _ _ _
 have := hc.len h
 omega
theorem range_len {s : Idn.Sch} {idx : List Bs} {es : List IxE} (h : OkE es) (hl : es.length ≤ 256) (a x y : Bs) : (ixRange s idx es a x y).1.length ≤ 1000000000000 := by
 have := (range_ok (s := s) (idx := idx) h a x y).len h
 omega
theorem indexPlays_any (sv0 : Value) (s : Idn.Sch) (nv : Value) (ns : List Bs) (ov : Value) (l : List OpT) (w : World) (hS : SchV w w.heap.size sv0 s) (hg : GSch s 1048576) (hN : StrsV w w.heap.size nv ns) (hgn : GS ns 1048576) (hO : OpsV w w.heap.size ov l) (hol : l.length ≤ 1048576) (hoo : ∀ o ∈ l, GOp o 1048576) (hE : Env w) (hU : EnvU w) :
    Calls Tryz.prog 3 #[sv0, nv, ov] w fun e w' => e = .returned (.bool true) ∧ Below w.heap.size w w' := by
 have hEv : ∀ W, Below w.heap.size w W → Env W ∧ EnvU W := fun W hW => ⟨hE.keep hW, hU.keep hW⟩
 have hssm : SSm s := hg.ssm (by decide)
 have kb := fun W (hW : Below w.heap.size w W) => brief11_any sv0 s W (SchV.mono (SchV.keep hS hW) hW.size) ⟨by have := hg.1.1; omega, by have := hg.2.1; omega⟩
 have ks := fun W (hW : Below w.heap.size w W) => short11_any nv ns W (SlV.mono (SlV.keep hN hW) hW.size) (by have := hgn.1; omega)
 have kr := fun W (hW : Below w.heap.size w W) => few11_any ov l W (OpsV.mono (OpsV.keepP hO fun b off u hb hc => (hW.cell (p := ⟨b, off, none⟩) hb).trans hc) hW.size) hol (fun o ho => by
  have h := (hoo o ho).1
  exact ⟨⟨by have := h.2.1; omega, fun a ha => by have := (h.2.2 a ha).2.1; omega⟩, by have := h.1; omega⟩)
 have ka := fun W (hW : Below w.heap.size w W) => alive11_any W (hE.keep hW) (hU.keep hW)
 have kn := fun (hbs : BriefS s) (hsh : ShortL ns) W (hW : Below w.heap.size w W) => ixNew_any sv0 nv s ns W (SchV.mono (SchV.keep hS hW) hW.size) hssm (by have := hbs.1.1; omega) (by have := hbs.2.1; omega) (fun c hc => by obtain ⟨_, _, q1, q2⟩ := hg.2.2 c hc; exact ⟨by have := q1.1; omega, by have := q2.1; omega⟩) (SlV.mono (SlV.keep hN hW) hW.size) (by have := hsh.1; omega) (fun n hn => by have := hsh.2 n hn; omega)
 have krn := fun (hsh : ShortL ns) W (hW : Below w.heap.size w W) => r11_New_any sv0 nv s ns W (SchV.mono (SchV.keep hS hW) hW.size) hssm (SlV.mono (SlV.keep hN hW) hW.size) (by have := hsh.1; omega) (fun n hn => by have := hsh.2 n hn; omega)
 obtain ⟨sa, sb, rfl, hT, hC⟩ := hS
 obtain ⟨A1, c1, rfl, _⟩ := SlV.shape hT
 obtain ⟨A2, c2, rfl, _⟩ := SlV.shape hC
 obtain ⟨A0, cn, rfl, _⟩ := SlV.shape hN
 obtain ⟨A3, c3, rfl, _⟩ := SlV.shape hO
 clear hT hC hN hg hoo
 go_enter Tryz.func3, Tryz.ntmps3
 go_upto_region 1 with fail
 with_reducible refine gen1 (R := fun W => Code.wp Tryz.prog _ _ _ W) ?_
 intro W hbW _ hc1 _
 have s0 : W.cell? ⟨w.heap.size, 0, none⟩ = some (.slice A1 s.types.length c1) := hc1 0 _ rfl
 have s1 : W.cell? ⟨w.heap.size, 1, none⟩ = some (.slice A2 s.classes.length c2) := hc1 1 _ rfl
 clear hc1
 go_wp2_with fail
 refine (kb W hbW).mono ?_
 rintro e w1 ⟨r1, rfl, hr1, hb1⟩
 have hl1 := Cls.of_below hb1
 replace s0 := hl1.cell s0
 replace s1 := hl1.cell s1
 have hbw1 := hbW.trans (hb1.mono hbW.size)
 have H1 := Lib.hid hr1
 clear kb hb1 hr1 hbW hl1
 cases r1
 case false =>
  clear ks kr kn krn H1 s0 s1
  go_wp2_with fail
  refine (ka w1 hbw1).mono ?_
  rintro e w99 ⟨rfl, hb99⟩
  go_wp2_with fail
  go_ret
  exact ⟨rfl, hbw1.trans (hb99.mono hbw1.size)⟩
 have G1 := Lib.hid (H1.out rfl)
 clear H1
 go_wp2_with fail
 refine (ks w1 hbw1).mono ?_
 rintro e w2 ⟨r2, rfl, hr2, hb2⟩
 have hl2 := Cls.of_below hb2
 replace s0 := hl2.cell s0
 replace s1 := hl2.cell s1
 have hbw2 := hbw1.trans (hb2.mono hbw1.size)
 have H2 := Lib.hid hr2
 clear ks hb2 hr2 hbw1 hl2
 cases r2
 case false =>
  clear kr kn krn H2 G1 s0 s1
  go_wp2_with fail
  refine (ka w2 hbw2).mono ?_
  rintro e w99 ⟨rfl, hb99⟩
  go_wp2_with fail
  go_ret
  exact ⟨rfl, hbw2.trans (hb99.mono hbw2.size)⟩
 have G2 := Lib.hid (H2.out rfl)
 clear H2
 go_wp2_with fail
 refine (kr w2 hbw2).mono ?_
 rintro e w3 ⟨r3, rfl, hr3, hb3⟩
 have hl3 := Cls.of_below hb3
 replace s0 := hl3.cell s0
 replace s1 := hl3.cell s1
 have hbw3 := hbw2.trans (hb3.mono hbw2.size)
 have H3 := Lib.hid hr3
 clear kr hb3 hr3 hbw2 hl3
 cases r3
 case false =>
  clear kn krn H3 G1 G2 s0 s1
  go_wp2_with fail
  refine (ka w3 hbw3).mono ?_
  rintro e w99 ⟨rfl, hb99⟩
  go_wp2_with fail
  go_ret
  exact ⟨rfl, hbw3.trans (hb99.mono hbw3.size)⟩
 have G3 := Lib.hid (H3.out rfl)
 clear H3
 replace kn := kn G1.out G2.out
 replace krn := krn G2.out
 have hl9 := G3.out.1
 have hnl : ns.length ≤ 1000000000 := by have := G2.out.1; omega
 have hlE : ∀ (k : Nat) (hk : k < l.length), OkO l[k] := fun k hk => G3.out.2 _ (List.getElem_mem hk)
 clear G1 G2 G3
 -- New twice
 have hGz := fun h => Lib.hid (nwE_zero (s := s) (ns := ns) hssm h)
 generalize hnw : nwE s ns = ec at *
 have hnw' := Lib.hid hnw
 clear hnw
 go_wp2_with fail
 refine (kn w3 hbw3).mono ?_
 rintro e w5 ⟨hb5, ⟨hz, px, eb, vb, hs, ta, cb, ts, rfl, hhs, hI⟩ | ⟨hz, rfl⟩⟩
 case inr =>
  have hbw5 := hbw3.trans (hb5.mono hbw3.size)
  have ht : (ec == ec) = true := beq_self_eq_true ec
  clear hGz
  replace s0 := (Cls.of_below hb5).cell s0
  replace s1 := (Cls.of_below hb5).cell s1
  clear kn hb5
  go_wp2_with fail
  refine (krn w5 hbw5).mono ?_
  rintro e w6 ⟨hb6, ⟨hz2, _⟩ | ⟨_, rfl⟩⟩
  ·exact absurd hz2 hz
  have hbw6 := hbw5.trans (hb6.mono hbw5.size)
  clear krn s0 s1 hb6 hbw5 hnw'
  go_wp2_with fail
  refine (ka w6 hbw6).mono ?_
  rintro e w99 ⟨rfl, hb99⟩
  go_wp2_with fail
  go_ret
  exact ⟨rfl, hbw6.trans (hb99.mono hbw6.size)⟩
 subst hz
 have hG0 := hGz rfl
 have hhw : w.heap.size ≤ hs := Nat.le_trans hbw3.size hhs
 have hbw5 := hbw3.trans (hb5.mono hbw3.size)
 replace s0 := (Cls.of_below hb5).cell s0
 replace s1 := (Cls.of_below hb5).cell s1
 clear kn hb5 hhs hbw3
 have hpx : px < w5.heap.size := World.block_lt_of_cell? _ _ hI.c0
 have hhs5 : hs ≤ w5.heap.size := hI.hsz
 go_wp2_with fail
 refine (krn w5 hbw5).mono ?_
 rintro e w6 ⟨hb6, ⟨_, rx, lo', ta', cb', nv', rfl, hrx, hJ⟩ | ⟨hz2, _⟩⟩
 case inr => exact absurd rfl hz2
 have hbw6 := hbw5.trans (hb6.mono hbw5.size)
 replace hI := (hI.keep hb6).raise (Nat.le_refl _)
 have hrx6 : rx < w6.heap.size := World.block_lt_of_cell? _ _ hJ.c0
 have hwx : w.heap.size ≤ rx := Nat.le_trans hbw5.size hrx
 have hF : rx ≠ px ∧ hs ≤ rx ∧ rx < w6.heap.size := ⟨by omega, by omega, hrx6⟩
 have hT0 : Two w6 hs w6.heap.size px s ns ta cb eb vb ts w5.heap.size lo' rx ta' cb' nv' [] [] := ⟨_, _, _, _, hI, hJ⟩
 have hO6 : OpsV w6 w.heap.size (.slice A3 l.length c3) l := OpsV.keepP hO fun b off u hb hc => (hbw6.cell (p := ⟨b, off, none⟩) hb).trans hc
 clear krn hb6 hbw5 hGz hnw' hO hI hJ s0 s1
 -- the calls
 go_wp2_with fail
 go_loopw [11, 12, 13, 14, 15, 16, 17, 18, 19, 20, 107, 118, 128] (fun i _ _ _ _ _ _ _ _ _ _ _ _ wr => ∃ (k : Nat) (ek : List IxE), k ≤ l.length ∧ i = .int .i64 k ∧ Two wr hs w6.heap.size px s ns ta cb eb vb ts w5.heap.size lo' rx ta' cb' nv' ek ek ∧ Hid (GdI s ns ek) ∧ ek.length ≤ k ∧ Below w.heap.size w wr ∧ w6.heap.size ≤ wr.heap.size ∧ Hid (Kpx rx w6 wr)) (fun i _ _ _ _ _ _ _ _ _ _ _ _ _ => l.length - (intOf i).toNat)
 case atStart => exact ⟨0, [], Nat.zero_le _, rfl, hT0, hG0, Nat.le_refl _, hbw6, Nat.le_refl _, Kpx.refl _ _⟩
 case round =>
  obtain ⟨k, ek, hk, rfl, hTk, hGk, hekl, hbk, hz6, hkp⟩ := hrel
  clear hT0 hG0
  by_cases hlt : k < l.length
  ·have hltI : (k : Int) < (l.length : Int) := by omega
   obtain ⟨b, off, va, hAd, hbl, d0, d1, d2, d3, d4, d5, hva⟩ := OpsV.cell (OpsV.keepP hO6 fun b off u hb hc => hkp.out b off u (by omega) hc) hlt
   subst hAd
   obtain ⟨Av, cv, rfl, _⟩ := SlV.shape hva
   have hok := hlE k hlt
   generalize l[k] = o at *
   obtain ⟨kd, ⟨xn, xa⟩, on, ol, oh⟩ := o
   dsimp only at d0 d1 d2 d3 d4 d5 hva
   obtain ⟨hli, hn1, hn2, hn3⟩ := hok
   dsimp only at hli hn1 hn2 hn3
   have hxl : xn.length ≤ 1000000 := by have := hli.1; rw [Idn.size_B] at this; omega
   have hva7 := light_asm7 hli
   have hek : ek.length < 256 := by omega
   clear hli
   go_upto_region 13 with fail
   with_reducible refine gen1 (R := fun W => Code.wp Tryz.prog _ _ _ W) ?_
   intro W8 hb8 _ hc8 _
   have o0 : W8.cell? ⟨wr.heap.size, 0, none⟩ = some (.int .i64 kd) := hc8 0 _ rfl
   have o1 : W8.cell? ⟨wr.heap.size, 1, none⟩ = some (.string (B xn)) := hc8 1 _ rfl
   have o2 : W8.cell? ⟨wr.heap.size, 2, none⟩ = some (.slice Av xa.length cv) := hc8 2 _ rfl
   have o3 : W8.cell? ⟨wr.heap.size, 3, none⟩ = some (.string (B on)) := hc8 3 _ rfl
   have o4 : W8.cell? ⟨wr.heap.size, 4, none⟩ = some (.string (B ol)) := hc8 4 _ rfl
   have o5 : W8.cell? ⟨wr.heap.size, 5, none⟩ = some (.string (B oh)) := hc8 5 _ rfl
   have hT8 := hTk.keep hb8
   have hbw8 := hbk.trans (hb8.mono hbk.size)
   have hkp8 : Hid (Kpx rx w6 W8) := hkp.out.trans (Kpx.of_below hb8)
   have hva8 : AttsV W8 w.heap.size (.slice Av xa.length cv) xa := AttsV.keepC hva fun _ _ _ _ hc => cell_later hb8 hc
   have hz8 : w6.heap.size ≤ W8.heap.size := Nat.le_trans hz6 hb8.size
   have hzx : wr.heap.size ≠ rx := by omega
   have hw8 : w.heap.size ≤ W8.heap.size := hbw8.size
   clear hc8 d0 d1 d2 d3 d4 d5 hTk hva hkp hb8 hbk hO6
   by_cases k0 : kd = 0
   ·subst k0
    have hel2 : (ixPut ek xn xa).2.length ≤ k + 1 := Nat.le_trans (put_len hGk.out.ok _ _) (by omega)
    have hG9 : Hid (GdI s ns (ixPut ek xn xa).2) := hGk.out.put hxl (by omega)
    have hvs : ∀ W' : World, w.heap.size ≤ W'.heap.size → Kpx rx W8 W' → AttsV W' W'.heap.size (.slice Av xa.length cv) xa := fun W' h1 h2 => AttsV.mono (AttsV.keepC hva8 fun b off u hb hc => h2 b off u (by omega) hc) h1
    have hput := fun W' (hW : Below W8.heap.size W8 W') => two_putx (hT8.keep hW) hGk.out hek hhw (hbw8.trans (hW.mono hbw8.size)) hEv xn hxl _ xa (hvs W' (Nat.le_trans hw8 hW.size) (Kpx.of_below hW)) hva7
    have hputR := fun (w8 : World) (hT : Two w8 hs w6.heap.size px s ns ta cb eb vb ts w5.heap.size lo' rx ta' cb' nv' (ixPut ek xn xa).2 ek) (hb8 : Below w.heap.size w w8) (hz : W8.heap.size ≤ w8.heap.size) (hp : Kpx rx W8 w8) W' (hW : Below w8.heap.size w8 W') => two_puty (hT.keep hW) hGk.out hF hwx (hb8.trans (hW.mono hb8.size)).size (hb8.trans (hW.mono hb8.size)) xn hxl _ xa (hvs W' (hb8.trans (hW.mono hb8.size)).size (hp.trans (Kpx.of_below hW))) hva7
    clear hvs
    generalize ixPut ek xn xa = r at *
    obtain ⟨ri, re⟩ := r
    dsimp only at hput hputR hel2 hG9
    have hrr : (ri == ri) = true := beq_self_eq_true ri
    have hSt : ∀ W' : World, Kpx rx W8 W' → W'.cell? ⟨wr.heap.size, 1, none⟩ = some (.string (B xn)) ∧ W'.cell? ⟨wr.heap.size, 2, none⟩ = some (.slice Av xa.length cv) := fun W' h => ⟨h _ _ _ hzx o1, h _ _ _ hzx o2⟩
    have hKd : ∀ V W' : World, Below V.heap.size V W' → Kpx rx V W' := fun V W' h => Kpx.of_below h
    go_upto_region 19 with fail
    go_region_held3 (fun W' => W'.cell? ⟨wr.heap.size, 1, none⟩ = some (.string (B xn)) ∧ W'.cell? ⟨wr.heap.size, 2, none⟩ = some (.slice Av xa.length cv))
     (first | exact hSt _ (Kpx.refl _ _) | exact hSt _ hp8.out | exact hSt _ hp9.out)
     (first
      | (go_at_call 15; refine (hput _ (by repeat (first | with_reducible exact Below.refl _ _ | with_reducible apply Below.drew))).mono ?_; rintro e w8 ⟨rfl, hT9, hb8, hz9, hp8'⟩; have hp8 : Hid (Kpx rx W8 w8) := hp8')
      | (go_at_call 16; refine (hputR w8 hT9 hb8 hz9 hp8.out _ (by repeat (first | with_reducible exact Below.refl _ _ | with_reducible apply Below.drew))).mono ?_; rintro e w9 ⟨rfl, hT10, hb9, hz10, hp9'⟩; have hp9 : Hid (Kpx rx W8 w9) := hp8.out.trans hp9'))
    have hz99 : w6.heap.size ≤ w9.heap.size := Nat.le_trans hz8 (Nat.le_trans hz9 hz10)
    have hkp9 : Hid (Kpx rx w6 w9) := hkp8.out.trans hp9.out
    clear hput hputR hSt hKd hp8 hp9 hp8' hp9' hT9 hGk hT8
    have hlx := two_lenx hT10 hG9.out
    have hly := two_leny hT10
    clear hlE
    go_wp2_with fail
    refine hlx.mono ?_
    rintro e _ ⟨rfl, rfl⟩
    go_wp2_with fail
    refine hly.mono ?_
    rintro e _ ⟨rfl, rfl⟩
    clear hlx hly
    go_wp2_with fail
    go_roundw
    case rel => exact ⟨k + 1, re, by omega, by go_num, hT10, hG9, hel2, hb9, hz99, hkp9⟩
    case measure => simp [intOf]; omega
   have kb0 : (kd == 0) = false := beq_eq_false_iff_ne.2 k0
   by_cases k1 : kd = 1
   ·subst k1
    have hG9 : Hid (GdI s ns (ixDrop ek on)) := hGk.out.drop on
    have hel2 : (ixDrop ek on).length ≤ k + 1 := Nat.le_trans (drop_len ek on) (by omega)
    have hdx := two_dropx hT8 hGk.out hhw hbw8 hEv on (by omega)
    go_wp2_with fail
    refine hdx.mono ?_
    rintro e w8 ⟨rfl, hT9, hb9, hz9, hp9⟩
    replace o3 := hp9 _ _ _ hzx o3
    have hdy := two_dropy hT9 hGk.out hF hwx hb9.size hb9 on (by omega)
    clear hdx hT8
    go_wp2_with fail
    refine hdy.mono ?_
    rintro e w9 ⟨rfl, hT10, hb10, hz10, hp10⟩
    have hz99 : w6.heap.size ≤ w9.heap.size := Nat.le_trans hz8 (Nat.le_trans hz9 hz10)
    have hkp9 : Hid (Kpx rx w6 w9) := (hkp8.out.trans hp9).trans hp10
    generalize ixDrop ek on = re at *
    clear hdy hp9 hp10 hT9 hGk
    have hlx := two_lenx hT10 hG9.out
    have hly := two_leny hT10
    clear hlE
    go_wp2_with fail
    refine hlx.mono ?_
    rintro e _ ⟨rfl, rfl⟩
    go_wp2_with fail
    refine hly.mono ?_
    rintro e _ ⟨rfl, rfl⟩
    clear hlx hly
    go_wp2_with fail
    go_roundw
    case rel => exact ⟨k + 1, re, by omega, by go_num, hT10, hG9, hel2, hb10, hz99, hkp9⟩
    case measure => simp [intOf]; omega
   have kb1 : (kd == 1) = false := beq_eq_false_iff_ne.2 k1
   have hbd := hGk.out.bdr hnl
   by_cases k2 : kd = 2
   ·subst k2
    have hfl := find_len (s := s) (idx := ns.map Idn.lower) hGk.out.ok hGk.out.len on ol
    have hfx := two_findx hT8 hGk.out hbw8 hw8 hEv on ol (by omega) (by omega)
    have hfy := fun W (hW : Below W8.heap.size W8 W) => two_findy (hT8.keep hW) hbd on ol (by omega) (by omega)
    generalize ixFind s (ns.map Idn.lower) ek on ol = r at *
    obtain ⟨rl, ro⟩ := r
    dsimp only at hfl
    have hoo : (ro != ro) = false := by cases ro <;> rfl
    go_wp2_with fail
    refine hfx.mono ?_
    intro e w8 hret
    obtain ⟨A8, c8, rfl, S8, hb8⟩ := hret.open_
    dsimp only at S8
    replace o3 := cell_later hb8 o3
    replace o4 := cell_later hb8 o4
    clear hfx hret
    go_wp2_with fail
    refine (hfy w8 hb8).mono ?_
    intro e w9 hret
    obtain ⟨A9, c9, rfl, S9, hb9⟩ := hret.open_
    dsimp only at S9
    have hLs := r_lists_any _ _ _ _ w9 (SlV.mono (SlV.keep S8 hb9) hb9.size) S9 hfl hfl
    rw [decide_eq_true rfl] at hLs
    clear hfy hret S8 S9
    go_wp2_with fail
    refine hLs.mono ?_
    rintro e w10 ⟨rfl, hb10⟩
    have hb810 := Below.on (Below.on hb8 hb9) hb10
    have hT10 := hT8.keep hb810
    have hb99 := hbw8.trans (hb810.mono hbw8.size)
    have hz99 : w6.heap.size ≤ w10.heap.size := Nat.le_trans hz8 hb810.size
    have hkp9 : Hid (Kpx rx w6 w10) := hkp8.out.trans (Kpx.of_below hb810)
    have hel2 : ek.length ≤ k + 1 := by omega
    clear hLs hT8 hbd
    have hlx := two_lenx hT10 hGk.out
    have hly := two_leny hT10
    clear hlE
    go_wp2_with fail
    refine hlx.mono ?_
    rintro e _ ⟨rfl, rfl⟩
    go_wp2_with fail
    refine hly.mono ?_
    rintro e _ ⟨rfl, rfl⟩
    clear hlx hly
    go_wp2_with fail
    go_roundw
    case rel => exact ⟨k + 1, ek, by omega, by go_num, hT10, hGk, hel2, hb99, hz99, hkp9⟩
    case measure => simp [intOf]; omega
   have kb2 : (kd == 2) = false := beq_eq_false_iff_ne.2 k2
   have hfl := range_len (s := s) (idx := ns.map Idn.lower) hGk.out.ok hGk.out.len on ol oh
   have hfx := two_rngx hT8 hGk.out hbw8 hw8 hEv on ol oh (by omega) (by omega) (by omega)
   have hfy := fun W (hW : Below W8.heap.size W8 W) => two_rngy (hT8.keep hW) hbd on ol oh (by omega) (by omega) (by omega)
   generalize ixRange s (ns.map Idn.lower) ek on ol oh = r at *
   obtain ⟨rl, ro⟩ := r
   dsimp only at hfl
   have hoo : (ro != ro) = false := by cases ro <;> rfl
   go_wp2_with fail
   refine hfx.mono ?_
   intro e w8 hret
   obtain ⟨A8, c8, rfl, S8, hb8⟩ := hret.open_
   dsimp only at S8
   replace o3 := cell_later hb8 o3
   replace o4 := cell_later hb8 o4
   replace o5 := cell_later hb8 o5
   clear hfx hret
   go_wp2_with fail
   refine (hfy w8 hb8).mono ?_
   intro e w9 hret
   obtain ⟨A9, c9, rfl, S9, hb9⟩ := hret.open_
   dsimp only at S9
   have hLs := r_lists_any _ _ _ _ w9 (SlV.mono (SlV.keep S8 hb9) hb9.size) S9 hfl hfl
   rw [decide_eq_true rfl] at hLs
   clear hfy hret S8 S9
   go_wp2_with fail
   refine hLs.mono ?_
   rintro e w10 ⟨rfl, hb10⟩
   have hb810 := Below.on (Below.on hb8 hb9) hb10
   have hT10 := hT8.keep hb810
   have hb99 := hbw8.trans (hb810.mono hbw8.size)
   have hz99 : w6.heap.size ≤ w10.heap.size := Nat.le_trans hz8 hb810.size
   have hkp9 : Hid (Kpx rx w6 w10) := hkp8.out.trans (Kpx.of_below hb810)
   have hel2 : ek.length ≤ k + 1 := by omega
   clear hLs hT8 hbd
   have hlx := two_lenx hT10 hGk.out
   have hly := two_leny hT10
   clear hlE
   go_wp2_with fail
   refine hlx.mono ?_
   rintro e _ ⟨rfl, rfl⟩
   go_wp2_with fail
   refine hly.mono ?_
   rintro e _ ⟨rfl, rfl⟩
   clear hlx hly
   go_wp2_with fail
   go_roundw
   case rel => exact ⟨k + 1, ek, by omega, by go_num, hT10, hGk, hel2, hb99, hz99, hkp9⟩
   case measure => simp [intOf]; omega
  ·have hltI : ¬ (k : Int) < (l.length : Int) := by omega
   clear hTk hGk hkp hlE hO6
   go_wp2_with fail
   refine (ka wr hbk).mono ?_
   rintro e w99 ⟨rfl, hb99⟩
   go_wp2_with fail
   go_ret
   exact ⟨rfl, hbk.trans (hb99.mono hbk.size)⟩
end Go.Proofs.YtgjllfonmgfhgaaGreatDoor
/- IndexPlays: the contract as the row asks it, the statement, the card. -/
namespace Go.Proofs.YtgjllfonmgfhgaaGreatDoor
open Go.RowKit Go.Sort Go.Shelf Go.ChangeShapes Go.WideShapes Go.ChangeAt Go.ChangeMaps
theorem laid_eqIP : Rows.indexPlaysUptoRow.laid = laidL := by
 unfold laidL
 rw [← pow_eq, ← acc_eq, ← first_eq, ← case_eq]
 rfl
theorem cIP_contract (F : Stop.Interp) (H : Type) (enc : TypeId × Value → H) (W : World) (base : Nat) (args : Array Value) (ds gs : List (DataW H)) (before : List MemPlace)
  (hval : ∀ (j : Nat) t v, Tryz.f3.params[j]? = some t → args[j]? = some v → Value.okWide Tryz.prog W .any base t v)
  (hW : DataW.Whole enc Tryz.prog Tryz.f3.params.toList Rows.indexPlaysSpec.vars false W args.toList ds gs before) (hL : laidMet Tryz.prog laidL W) (hsh : W.ShapedOpen Tryz.prog) (hk : Rows.uptoSmall H (ds ++ gs) = true) :
  Calls Tryz.prog 3 args W fun e W' => ∃ v, e = .returned v ∧ ((Rows.OpenSpec.upto Rows.indexPlaysSpec).at F).post enc Tryz.prog Tryz.f3 false true false false W args v W' := by
 have hW' := hW
 obtain ⟨p, q, hA0, hV0, rfl, _, _⟩ := hW
 have hA : DataW.TrodAll enc Tryz.prog W 0 (fun _ => true) true Tryz.f3.params.toList args.toList ds p := hA0
 rw [Tryz.params3] at hA hval
 obtain ⟨v0, v1, v2, d0, d1, d2, p0, p1, p2, rfl, rfl, rfl, h0, h1, h2⟩ := trodAll_three hA
 obtain ⟨rfl, rfl⟩ := trodVars_none hV0
 have hB := bk_bound hk
 have hb0 := hB d0 (by simp)
 have hb1 := hB d1 (by simp)
 have hb2 := hB d2 (by simp)
 obtain ⟨s0, hS0, hg0⟩ := schema_openB (hval 0 25 v0 rfl rfl) h0
 obtain ⟨l1, hL1, hg1⟩ := strings_openB (hval 1 26 v1 rfl rfl) h1
 obtain ⟨l2, hL2, hc2, hg2⟩ := ops_openB (hval 2 27 v2 rfl rfl) h2
 clear hA0 hV0 hval
 simp only [List.append_nil, List.append_assoc] at hW'
 have hlt : ∀ x ∈ p0 ++ (p1 ++ p2), x.block < W.heap.size := fun x hx => by simpa using hW'.lt x (by simpa using hx)
 obtain ⟨hE, hU⟩ := env_of hL hsh
 refine (indexPlays_any v0 s0 v1 l1 v2 l2 W hS0 (hg0.mono hb0) hL1 (hg1.mono hb1) hL2 (Nat.le_trans hc2 hb2) (fun e he => (hg2 e he).mono hb2) hE hU).mono ?_
 rintro e W' ⟨rfl, bel⟩
 have e1 : ((Rows.OpenSpec.upto Rows.indexPlaysSpec).at F).fn H ([d0, d1, d2] ++ []) = { results := [.lit (.bool true)], args := [d0, d1, d2] } := rfl
 refine ⟨_, rfl, _, _, _, [], (p0 ++ (p1 ++ p2)), [], hW', ?_, ?_, ?_, bel.frame _, fun h => by cases h⟩
 ·rw [e1]; exact trodAll_mk1 (shut_bool Tryz.underlying4 _)
 ·rw [e1]; exact trodAll_mk3 (Below.trod laidOut (by kernel_rfl) (of_decide_eq_true (by kernel_rfl)) h0 bel (fun x hx => hlt x (List.mem_append_left _ hx))) (Below.trod laidOut (by kernel_rfl) (of_decide_eq_true (by kernel_rfl)) h1 bel (fun x hx => hlt x (List.mem_append_right _ (List.mem_append_left _ hx)))) (Below.trod laidOut (by kernel_rfl) (of_decide_eq_true (by kernel_rfl)) h2 bel (fun x hx => hlt x (List.mem_append_right _ (List.mem_append_right _ hx))))
 ·rw [e1]; rfl
theorem noHandleIP {W : World} (h : laidMetH Tryz.prog Rows.indexPlaysUptoRow.laid W) : laidMet Tryz.prog laidL W := by
 have e : (Rows.indexPlaysUptoRow.laid.filter fun x => x.2.handleName?.isSome) = [] := by kernel_rfl
 unfold laidMetH at h
 rw [e] at h
 rw [← laid_eqIP]
 exact h
theorem laid_metIP (os : Os) (args : Array Value) : laidMet Tryz.prog Rows.indexPlaysUptoRow.laid ((laidWorld os).forCall (fun _ _ => 0) ⟨#[], args, []⟩).memory := by
 rw [laid_eqIP]
 exact laid_metW os args
theorem witness_rowIP (os : Os) {H : Type} (enc : TypeId × Value → H) :
  (Rows.OpenSpec.upto Rows.indexPlaysSpec).preRow enc Tryz.prog Tryz.f3 Rows.indexPlaysUptoRow.domain false Rows.indexPlaysUptoRow.laid ((laidWorld os).forCall (fun _ _ => 0) ⟨#[], #[.agg #[.slice none 0 0, .slice none 0 0], .slice none 0 0, .slice none 0 0], []⟩).memory #[.agg #[.slice none 0 0, .slice none 0 0], .slice none 0 0, .slice none 0 0] := by
 have hw : (DataW.whole enc Tryz.prog ((laidWorld os).forCall (fun _ _ => 0) ⟨#[], #[.agg #[.slice none 0 0, .slice none 0 0], .slice none 0 0, .slice none 0 0], []⟩).memory Tryz.f3.params.toList (Rows.OpenSpec.upto Rows.indexPlaysSpec).vars false #[Value.agg #[.slice none 0 0, .slice none 0 0], .slice none 0 0, .slice none 0 0].toList 8).map (fun x => (x.1, x.2.1)) =
   some ([.agg [.nil, .nil], .nil, .nil], []) := by kernel_rfl
 obtain ⟨⟨x1, x2, x3⟩, hx, hx1⟩ := Option.map_eq_some_iff.1 hw
 simp only [Prod.mk.injEq] at hx1
 obtain ⟨rfl, rfl⟩ := hx1
 exact OpenSpec.preRow_of_cond 8 hx (by kernel_rfl) (fun k hk => by cases hk; kernel_rfl) (by kernel_rfl) (laid_metIP os _)
theorem liftedIP (os : Os) (started : os.Started) (H : Type) (enc : TypeId × Value → H) (F : Stop.Interp) :
  ReturnsInHanded {} Tryz.checked os 3 .any ((Rows.OpenSpec.upto Rows.indexPlaysSpec).preRow enc Tryz.prog Tryz.f3 Rows.indexPlaysUptoRow.domain false Rows.indexPlaysUptoRow.laid) (((Rows.OpenSpec.upto Rows.indexPlaysSpec).at F).post enc Tryz.prog Tryz.f3 false true false false) := by
 refine returnsInHanded_of_row (C := Tryz.checked) (s := (Rows.OpenSpec.upto Rows.indexPlaysSpec)) own started (by kernel_rfl) Tryz.func3
  (witness_row_atRef (enc := enc) (C := Tryz.checked) false (laidWorld os) #[.agg #[.slice none 0 0, .slice none 0 0], .slice none 0 0, .slice none 0 0] rfl (by kernel_rfl) (by kernel_rfl) (by kernel_rfl) (witness_rowIP os enc)) ?_
 intro W base args ds gs before hval hW _ hcond _ hL hsh _
 exact cIP_contract F H enc W base args ds gs before hval hW (noHandleIP hL) hsh (hcond _ rfl)
end Go.Proofs.YtgjllfonmgfhgaaGreatDoor
/- IndexPlays: the statement. -/
namespace Go.Proofs.YtgjllfonmgfhgaaGreatDoor
open Go.RowKit Go.Sort Go.Shelf Go.ChangeShapes Go.WideShapes Go.ChangeAt Go.ChangeMaps
theorem closedIP : joinedFacts Tryz.pinned.checked.prog 3 Tryz.f3 (Rows.OpenSpec.upto Rows.indexPlaysSpec).bare Rows.indexPlaysUptoRow = true := by
 unfold joinedFacts
 simp only [Bool.and_eq_true]
 repeat' with_reducible apply And.intro
 all_goals (as_aux_lemma => kernel_rfl)
theorem saidIP : Rows.IndexPlaysUptoSaid :=
 OpenClaim.holds_of_cond 3 Tryz.f3 rfl rfl rfl rfl rfl rfl rfl ⟨rfl, rfl, rfl, rfl, rfl⟩ rfl rfl rfl rfl rfl (by kernel_rfl) Tryz.func3 closedIP
  (of_decide_eq_true (by kernel_rfl)) (by unfold Func.isWrapper; first | (rw [if_pos (by decide +kernel)]; kernel_rfl) | (rw [if_neg (by decide +kernel)]; exact ⟨rfl, rfl⟩))
  (fun os started H enc _ F => by rw [OpenClaim.pre_eq_preRow]; exact liftedIP os started H enc F)
end Go.Proofs.YtgjllfonmgfhgaaGreatDoor
/- IndexPlays: the card. -/
namespace Go.Proofs.YtgjllfonmgfhgaaGreatDoor
open Go.RowKit Go.Sort Go.Shelf Go.ChangeShapes Go.WideShapes Go.ChangeAt Go.ChangeMaps
theorem plainIP (f : FuncId) (fn : Func) (hf : Tryz.pinned.checked.prog.funcNamed "identity/identitylaw11.IndexPlays" = some f) (hfn : Tryz.pinned.checked.prog.funcs[f]? = some fn) :
  true = Tryz.pinned.checked.prog.looks [] ∧ ∀ (j : Nat) t, fn.params[j]? = some t → Tryz.pinned.checked.prog.wantsStandIn t = false := by
 obtain rfl : f = 3 := Option.some.inj ((show Tryz.prog.funcNamed "identity/identitylaw11.IndexPlays" = some 3 by kernel_rfl).symm.trans hf) |>.symm
 obtain rfl : fn = Tryz.f3 := (Option.some.inj (Tryz.func3.symm.trans hfn)).symm
 refine ⟨by kernel_rfl, fun j t ht => ?_⟩
 rw [Tryz.params3] at ht
 have hm := Array.mem_of_getElem? ht
 simp at hm
 rcases hm with rfl | rfl | rfl
 ·exact (show Tryz.prog.wantsStandIn 25 = false by kernel_rfl)
 ·exact (show Tryz.prog.wantsStandIn 26 = false by kernel_rfl)
 ·exact (show Tryz.prog.wantsStandIn 27 = false by kernel_rfl)
theorem indexPlays_card : Rows.IndexPlaysUptoCardSaid :=
 Claim7.holds_tied_plain_at .later [] _ _ _ _ saidIP (fun _ h => by cases h) (by kernel_rfl) (fun _ h => by cases h) indexPlaysUpto_row_tie rfl ⟨rfl, rfl⟩ (by kernel_rfl) rfl plainIP (by kernel_rfl)
#print axioms indexPlays_card
end Go.Proofs.YtgjllfonmgfhgaaGreatDoor
