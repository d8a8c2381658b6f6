/- Part 49 of the proof that identitylaw08.EntryApplies returns true: the package variables hold what the program lays; nothing else is asked. -/
import Derived.Test.YtoopoglkeeoamaaGreatDoorEap47
set_option linter.unusedVariables false
set_option linter.unusedSimpArgs false
set_option maxRecDepth 100000
set_option maxHeartbeats 8000000
/- identityref08: Normal. -/
namespace Go.Proofs.YtoopoglkeeoamaaGreatDoor
open Go.RowKit Go.Sort
open Idn (L B Bs drop_L take_L size_L)
def RetEv (w : World) (r : En × Int) (e : Ending) (w' : World) : Prop :=
 ∃ a ps, e = .returned (.tuple #[.agg #[.string (B r.1.1), a], .int .i64 r.2]) ∧ AttRow w' w.heap.size a ps ∧ ps.map (·.1) = r.1.2 ∧ Below w.heap.size w w'
theorem lastV_take (l : List Idn.Att) (n : Bs) (k : Nat) (hk : k < l.length) : Idn.lastV (l.take (k + 1)) n = if Idn.lower l[k].name = n then l[k].vals else Idn.lastV (l.take k) n := by
 unfold Idn.lastV
 rw [List.take_succ_eq_append_getElem hk, List.foldl_append]; rfl
theorem lastV_all {p : List Bs → Prop} (h0 : p []) (n : Bs) : ∀ (l : List Idn.Att) (acc : List Bs), p acc → (∀ a ∈ l, p a.vals) → p (l.foldl (fun acc a => if Idn.lower a.name = n then a.vals else acc) acc)
  | [], _, h, _ => h
  | a :: l, acc, h, hl => by
    rw [List.foldl_cons]
    refine lastV_all h0 n l _ ?_ fun b hb => hl b (List.mem_cons_of_mem _ hb)
    split
    · exact hl a List.mem_cons_self
    · exact h
theorem eAtt_ok {s : Idn.Sch} {n : Bs} {l : List Bs} (h : (eAtt s n l).2 = 0) : (eAtt s n l).1.length = l.length ∧ ∀ x ∈ (eAtt s n l).1, x.length ≤ 256 := by
 unfold eAtt at h ⊢
 split at h
 ·rename_i h1; exact absurd h (by simpa using h1)
 ·rename_i h1
  rw [if_neg h1]
  split at h
  ·cases h
  ·rename_i h2
   rw [if_neg h2]
   exact eVals_ok (by simpa using h1)
theorem eAttsK_at (s : Idn.Sch) (l : List Idn.Att) (k : Nat) (hk : k < l.length) (acc : List Idn.Att) (r : List Idn.Att × Int) (h : r = eAttsK s acc (l.drop k)) :
  ((eAtt s l[k].name l[k].vals).2 ≠ 0 → r = ([], (eAtt s l[k].name l[k].vals).2)) ∧ ((eAtt s l[k].name l[k].vals).2 = 0 → r = eAttsK s (acc ++ [⟨l[k].name, (eAtt s l[k].name l[k].vals).1⟩]) (l.drop (k + 1))) := by
 rw [List.drop_eq_getElem_cons hk, eAttsK] at h
 exact ⟨fun a => by rw [h, if_pos (by simpa using a)], fun a => by rw [h, if_neg (by simpa using a)]⟩
def named (l : List Idn.Att) (ns : List Bs) : List Idn.Att := ns.map fun n => ⟨n, Idn.lastV l n⟩
theorem named_at (l : List Idn.Att) (ns : List Bs) (k : Nat) (h : k < ns.length) : ∃ h' : k < (named l ns).length, (named l ns)[k] = ⟨ns[k], Idn.lastV l ns[k]⟩ := ⟨by unfold named; simpa using h, by unfold named; simp⟩
theorem rENormal_unf (s : Idn.Sch) (n : Bs) (l : List Idn.Att) : eNormal s n l = if (Idn.cleanN n).2 != 0 || (Idn.cleanN n).1.isEmpty then (([], []), 5)
 else if Idn.aCheck l != 0 then (([], []), Idn.aCheck l)
 else if (eAttsK s [] (named l (Idn.insAll (Idn.lows l)))).2 != 0 then (([], []), (eAttsK s [] (named l (Idn.insAll (Idn.lows l)))).2)
 else if sValid s (Idn.rSorted (eAttsK s [] (named l (Idn.insAll (Idn.lows l)))).1) != 0 then (([], []), sValid s (Idn.rSorted (eAttsK s [] (named l (Idn.insAll (Idn.lows l)))).1)) else (((Idn.cleanN n).1, Idn.rSorted (eAttsK s [] (named l (Idn.insAll (Idn.lows l)))).1), 0) := (rENormal_eq s n l).symm
theorem rSorted_names (l : List Idn.Att) : (Idn.rSorted l).map (·.name) = Idn.insAll (Idn.lows l) := by
 unfold Idn.rSorted
 rw [List.map_map]
 exact List.map_id _
theorem rSorted_sm {l : List Idn.Att} (hl : l.length ≤ 32) (h : ∀ a ∈ l, a.vals.length ≤ 16 ∧ a.name.length ≤ 1000000000 ∧ ∀ x ∈ a.vals, x.length ≤ 256) : ASm (Idn.rSorted l) ∧ ASm5 (Idn.rSorted l) ∧ Idn.ASm7 (Idn.rSorted l) := by
 have hlen := rSorted_len l
 have key : ∀ a ∈ Idn.rSorted l, a.name.length ≤ 1000000000 ∧ a.vals.length ≤ 1000 ∧ ∀ x ∈ a.vals, x.length ≤ 256 := fun a ha => by
  unfold Idn.rSorted at ha
  obtain ⟨n, hn, rfl⟩ := List.mem_map.1 ha
  refine ⟨?_, ?_, fun x hx => ?_⟩
  ·rw [Idn.insAll_mem] at hn
   unfold Idn.lows at hn
   obtain ⟨b, hb, rfl⟩ := List.mem_map.1 hn
   show (Idn.lower b.name).length ≤ _
   rw [Idn.length_lower]
   exact (h b (List.mem_filter.1 hb).1).2.1
  ·show (Idn.insAll (Idn.valsOf l n)).length ≤ _
   have h1 := insAll_len (Idn.valsOf l n)
   have h2 := vals_len (l := l) (c := 16) (fun a ha => (h a ha).1) n
   have h3 : l.length * 16 ≤ 32 * 16 := Nat.mul_le_mul_right _ hl
   omega
  ·have hx' : x ∈ Idn.insAll (Idn.valsOf l n) := hx
   rw [Idn.insAll_mem] at hx'
   unfold Idn.valsOf at hx'
   obtain ⟨b, hb, hx'⟩ := List.mem_flatMap.1 hx'
   exact (h b (List.mem_filter.1 hb).1).2.2 x hx'
 refine ⟨⟨by omega, fun a ha => ⟨(key a ha).1, by have := (key a ha).2.1; omega, fun x hx => by have := (key a ha).2.2 x hx; omega⟩⟩, fun a ha => ⟨(key a ha).1, fun x hx => by have := (key a ha).2.2 x hx; omega⟩, ⟨by omega, fun a ha => ⟨(key a ha).1, by have := (key a ha).2.1; omega, fun x hx => by have := (key a ha).2.2 x hx; omega⟩⟩⟩
theorem r8_Normal_any (u : Value) (s : Idn.Sch) (n : ByteArray) (a : Value) (l : List Idn.Att) (w : World) (hu : SchV w w.heap.size u s) (hs : SSm s) (hv : AttsV w w.heap.size a l) (hn : n.size ≤ 1000000000) (hsm : ASm l) (hs5 : ASm5 l) :
  Calls Tryz.prog 18 #[u, .agg #[.string n, a]] w (RetEv w (eNormal s (L n) l)) := by
 have hV := fun W (hW : Below w.heap.size w W) => SchV.mono (SchV.keep hu hW) hW.size
 have hA := fun W (hW : Below w.heap.size w W) => AttsV.mono (AttsV.keep hv hW) hW.size
 have hCl := fun W => r5_Clean_any n W hn
 have hCk := fun W (hW : Below w.heap.size w W) => r6_Check_any a l W (hA W hW) hsm
 have hNa := fun h7 W (hW : Below w.heap.size w W) => r6_Names_any a l W (hA W hW) h7
 have hNo := fun W (hW : Below w.heap.size w W) (an : ByteArray) v vs h1 h2 h3 h4 => r8_normals_any u s an v vs W (hV W hW) hs h1 h2 h3 h4
 have hVd := fun W (hW : Below w.heap.size w W) nm va q h1 h2 h3 h4 => r_Valid_any u s nm va q W (hV W hW) hs h1 h2 h3 h4
 obtain ⟨au, bu, rfl, hT, hC⟩ := hu
 obtain ⟨A1, c1, rfl, _⟩ := SlV.shape hT
 obtain ⟨A2, c2, rfl, _⟩ := SlV.shape hC
 obtain ⟨A, c, rfl, hc⟩ := SlV.shape hv
 have HR := Lib.hid (rENormal_unf s (L n) l)
 generalize eNormal s (L n) l = r at *
 generalize Idn.cleanN (L n) = cn at *
 obtain ⟨cN, cE⟩ := cn
 have hem : (B cN).toList.isEmpty = cN.isEmpty := by rw [toList_L, Idn.L_B]
 have hck := fun h => Idn.aCheck_all (l := l) h
 have hck2 := fun h => aCheck_zero (l := l) h
 rw [rSorted_names] at hNa
 have hnlen := Nat.le_trans (insAll_len (Idn.lows l)) (lows_len l)
 have hnm : ∀ x ∈ Idn.insAll (Idn.lows l), x.length ≤ 1000000000 := fun x hx => by
  rw [Idn.insAll_mem] at hx
  unfold Idn.lows at hx
  obtain ⟨b, hb, rfl⟩ := List.mem_map.1 hx
  rw [Idn.length_lower]
  exact (hs5 b (List.mem_filter.1 hb).1).1
 generalize Idn.aCheck l = ck at *
 generalize Idn.insAll (Idn.lows l) = NL at *
 dsimp only at hCl
 clear hT hC
 go_enter Tryz.func18, Tryz.ntmps18
 go_upto_region 1 with fail
 with_reducible refine gen3 (R := fun W => Code.wp Tryz.prog _ _ _ W) ?_
 intro W hbW hszW hc1 hc2 hc3 hfz
 have q0 : W.cell? ⟨w.heap.size, 0, none⟩ = some (.slice A1 s.types.length c1) := hc1 0 _ rfl
 have q1 : W.cell? ⟨w.heap.size, 1, none⟩ = some (.slice A2 s.classes.length c2) := hc1 1 _ rfl
 have e0 : W.cell? ⟨w.heap.size + 1, 0, none⟩ = some (.string n) := hc2 0 _ rfl
 have e1 : W.cell? ⟨w.heap.size + 1, 1, none⟩ = some (.slice A l.length c) := hc2 1 _ rfl
 have z0 : W.cell? ⟨w.heap.size + 1 + 1, 0, none⟩ = some (.string ⟨#[]⟩) := hc3 0 _ rfl
 have z1 : W.cell? ⟨w.heap.size + 1 + 1, 1, none⟩ = some (.slice none 0 0) := hc3 1 _ rfl
 have g0 := hfz 0
 have g1 := hfz 1
 have hzW : w.heap.size + 1 + 1 < W.heap.size := by omega
 have hzz : w.heap.size ≤ w.heap.size + 1 + 1 := by omega
 clear hc1 hc2 hc3 hfz hszW
 go_wp2_with fail
 refine (hCl W).mono ?_
 rintro e w1 ⟨rfl, hb1⟩
 have hbw1 := hbW.trans (hb1.mono hbW.size)
 have hws1 := hb1.size
 replace q0 := cell_later hb1 q0
 replace q1 := cell_later hb1 q1
 replace e1 := cell_later hb1 e1
 replace z0 := cell_later hb1 z0
 replace z1 := cell_later hb1 z1
 replace g0 := (hb1.frozen (p := ⟨w.heap.size + 1 + 1, 0, none⟩) hzW).trans g0
 replace g1 := (hb1.frozen (p := ⟨w.heap.size + 1 + 1, 1, none⟩) hzW).trans g1
 clear hCl e0 hbW hb1
 by_cases hce : cE = 0
 case neg =>
  have hI : (cE != 0) = true := by simpa using hce
  have HF : Hid (r = (([], []), 5)) := by show _ = _; rw [HR.out, hI]; rfl
  clear HR hce
  go_wp2_with fail
  exact bodyPost_ret (v := .tuple #[.agg #[.string ⟨#[]⟩, .slice none 0 0], .int .i64 5]) (by simp [results, Tryz.results18, go_sem, z0, z1, g0, g1]) rfl ⟨_, [], by rw [HF.out] <;> rfl, AttRow.nil _ _, by rw [HF.out] <;> rfl, (hbw1.setCell (p := ⟨w.heap.size + 1 + 1, 0, none⟩) hzz _).setCell (p := ⟨w.heap.size + 1 + 1, 1, none⟩) hzz _⟩
 subst hce
 cases hemp : cN.isEmpty
 case true =>
  rw [hemp] at hem
  have HF : Hid (r = (([], []), 5)) := by show _ = _; rw [HR.out, hemp]; rfl
  clear HR hemp
  go_wp2_with fail
  exact bodyPost_ret (v := .tuple #[.agg #[.string ⟨#[]⟩, .slice none 0 0], .int .i64 5]) (by simp [results, Tryz.results18, go_sem, z0, z1, g0, g1]) rfl ⟨_, [], by rw [HF.out] <;> rfl, AttRow.nil _ _, by rw [HF.out] <;> rfl, (hbw1.setCell (p := ⟨w.heap.size + 1 + 1, 0, none⟩) hzz _).setCell (p := ⟨w.heap.size + 1 + 1, 1, none⟩) hzz _⟩
 have hem2 : (!(B cN).toList.isEmpty) = true := by rw [hem, hemp]; rfl
 rw [hemp] at hem
 replace HR : Hid (r = if ck != 0 then (([], []), ck)
  else if (eAttsK s [] (named l NL)).2 != 0 then (([], []), (eAttsK s [] (named l NL)).2)
  else if sValid s (Idn.rSorted (eAttsK s [] (named l NL)).1) != 0 then (([], []), sValid s (Idn.rSorted (eAttsK s [] (named l NL)).1)) else ((cN, Idn.rSorted (eAttsK s [] (named l NL)).1), 0)) := by show _ = _; rw [HR.out, hemp]; rfl
 have hzW1 : w.heap.size + 1 + 1 < w1.heap.size := by omega
 clear hemp hzW hws1
 go_wp2_with fail
 refine (hCk w1 hbw1).mono ?_
 rintro e w2 ⟨rfl, hb2⟩
 have hbw2 := hbw1.trans (hb2.mono hbw1.size)
 have hws2 := hb2.size
 replace q0 := cell_later hb2 q0
 replace q1 := cell_later hb2 q1
 replace e1 := cell_later hb2 e1
 replace z0 := cell_later hb2 z0
 replace z1 := cell_later hb2 z1
 replace g0 := (hb2.frozen (p := ⟨w.heap.size + 1 + 1, 0, none⟩) hzW1).trans g0
 replace g1 := (hb2.frozen (p := ⟨w.heap.size + 1 + 1, 1, none⟩) hzW1).trans g1
 have hzW2 : w.heap.size + 1 + 1 < w2.heap.size := by omega
 clear hCk hbw1 hb2 hzW1 hws2
 by_cases hck0 : ck = 0
 case neg =>
  have hI : (ck != 0) = true := by simpa using hck0
  have HF : Hid (r = (([], []), ck)) := by show _ = _; rw [HR.out, if_pos hI]
  clear HR hck0 hck hck2
  go_wp2_with fail
  exact bodyPost_ret (v := .tuple #[.agg #[.string ⟨#[]⟩, .slice none 0 0], .int .i64 ck]) (by simp [results, Tryz.results18, go_sem, z0, z1, g0, g1]) rfl ⟨_, [], by rw [HF.out] <;> rfl, AttRow.nil _ _, by rw [HF.out] <;> rfl, (hbw2.setCell (p := ⟨w.heap.size + 1 + 1, 0, none⟩) hzz _).setCell (p := ⟨w.heap.size + 1 + 1, 1, none⟩) hzz _⟩
 subst hck0
 obtain ⟨hl32, _, _⟩ := hck rfl
 obtain ⟨_, hv16⟩ := hck2 rfl
 replace HR : Hid (r = if (eAttsK s [] (named l NL)).2 != 0 then (([], []), (eAttsK s [] (named l NL)).2)
  else if sValid s (Idn.rSorted (eAttsK s [] (named l NL)).1) != 0 then (([], []), sValid s (Idn.rSorted (eAttsK s [] (named l NL)).1)) else ((cN, Idn.rSorted (eAttsK s [] (named l NL)).1), 0)) := by show _ = _; rw [HR.out]; rfl
 have h7 : Idn.ASm7 l := ⟨by omega, fun a ha => ⟨(hsm.2 a ha).1, by have := (hv16 a ha).2; omega, (hsm.2 a ha).2.2⟩⟩
 have hNa2 := hNa h7
 have hlv : ∀ m, (Idn.lastV l m).length ≤ 16 ∧ ∀ x ∈ Idn.lastV l m, x.length ≤ 100000000 := fun m =>
  lastV_all (p := fun vs => vs.length ≤ 16 ∧ ∀ x ∈ vs, x.length ≤ 100000000) ⟨by simp, by simp⟩ m l [] ⟨by simp, by simp⟩ fun b hb => ⟨(hv16 b hb).2, (hs5 b hb).2⟩
 have HLV := Lib.hid hlv
 have HNM := Lib.hid hnm
 have HS5 := Lib.hid hs5
 have hN32 : NL.length ≤ 32 := by omega
 clear hck hck2 hNa hlv hnm h7 hnlen hs5 hsm hv16
 go_upto_region 8 with fail
 with_reducible refine gen1 (R := fun W => Code.wp Tryz.prog _ _ _ W) ?_
 intro W5 hbW5 hszW5 hc5 hfz5
 have o0 : W5.cell? ⟨w2.heap.size, 0, none⟩ = some (.string (B cN)) := hc5 0 _ rfl
 have o1 : W5.cell? ⟨w2.heap.size, 1, none⟩ = some (.slice none 0 0) := hc5 1 _ rfl
 have fo := hfz5 1
 have fo0 := hfz5 0
 replace q0 := cell_later hbW5 q0
 replace q1 := cell_later hbW5 q1
 replace e1 := cell_later hbW5 e1
 replace z0 := cell_later hbW5 z0
 replace z1 := cell_later hbW5 z1
 replace g0 := (hbW5.frozen (p := ⟨w.heap.size + 1 + 1, 0, none⟩) hzW2).trans g0
 replace g1 := (hbW5.frozen (p := ⟨w.heap.size + 1 + 1, 1, none⟩) hzW2).trans g1
 have hw25 : w2.heap.size < W5.heap.size := by omega
 have hwl : w.heap.size + 1 + 1 < w2.heap.size := hzW2
 have hbw5 := hbw2.trans (hbW5.mono hbw2.size)
 have hzW5 : w.heap.size + 1 + 1 < W5.heap.size := by omega
 clear hc5 hfz5 hszW5
 go_wp2_with fail
 refine (hNa2 W5 hbw5).mono ?_
 rintro e w6 ⟨v6, rfl, hown6, hb6⟩
 obtain ⟨AN, cN6, hv6⟩ := own_shape hown6
 subst hv6
 replace q0 := cell_later hb6 q0
 replace q1 := cell_later hb6 q1
 replace e1 := cell_later hb6 e1
 replace z0 := cell_later hb6 z0
 replace z1 := cell_later hb6 z1
 replace o0 := cell_later hb6 o0
 replace o1 := cell_later hb6 o1
 replace g0 := (hb6.frozen (p := ⟨w.heap.size + 1 + 1, 0, none⟩) hzW5).trans g0
 replace g1 := (hb6.frozen (p := ⟨w.heap.size + 1 + 1, 1, none⟩) hzW5).trans g1
 replace fo := (hb6.frozen (p := ⟨w2.heap.size, 1, none⟩) hw25).trans fo
 replace fo0 := (hb6.frozen (p := ⟨w2.heap.size, 0, none⟩) hw25).trans fo0
 have hbw6 := hbw5.trans (hb6.mono hbw5.size)
 have hws6 := hb6.size
 clear hNa2 hbW5 hb6 hbw5 hzW5 hbw2
 go_wp2_with fail
 go_loopw [11] (fun i wr => ∃ (k : Nat) (ov : Value) (xs : List (Idn.Att × Value)), k ≤ NL.length ∧ i = .int .i64 k ∧ AttRow wr W5.heap.size ov xs ∧ wr.ownsRow W5.heap.size 9 1 (.slice AN NL.length cN6) NL.length (NL.map sv) ∧ Below w2.heap.size w6 wr ∧ wr.cell? ⟨w2.heap.size, 0, none⟩ = some (.string (B cN)) ∧ wr.cell? ⟨w2.heap.size, 1, none⟩ = some ov ∧ wr.frozen? ⟨w2.heap.size, 1, none⟩ = false ∧ wr.frozen? ⟨w2.heap.size, 0, none⟩ = false ∧ Hid (eAttsK s [] (named l NL) = eAttsK s (xs.map (·.1)) ((named l NL).drop k)) ∧ Hid (xs.length = k) ∧ Hid (∀ a ∈ xs.map (·.1), a.vals.length ≤ 16 ∧ a.name.length ≤ 1000000000 ∧ ∀ x ∈ a.vals, x.length ≤ 256)) (fun i _ => NL.length - (intOf i).toNat)
 case atStart => exact ⟨0, .slice none 0 0, [], Nat.zero_le _, rfl, AttRow.nil _ _, hown6, Below.refl _ _, o0, o1, fo, fo0, by show _ = _; simp, rfl, by show ∀ a ∈ _, _; simp⟩
 case round =>
  obtain ⟨k, ov, xs, hk, rfl, hrow, hnr, hb, p0, p1, pf, pf0, hinv, hxl, hxs⟩ := hrel
  have hbw := hbw6.trans (hb.mono (by omega))
  have hwr := hb.size
  have hxk : xs.length ≤ 32 := by rw [hxl.out]; omega
  replace q0 := (hb.cell (p := ⟨w.heap.size, 0, none⟩) (by show w.heap.size < w2.heap.size; omega)).trans q0
  replace q1 := (hb.cell (p := ⟨w.heap.size, 1, none⟩) (by show w.heap.size < w2.heap.size; omega)).trans q1
  replace e1 := (hb.cell (p := ⟨w.heap.size + 1, 1, none⟩) (by show w.heap.size + 1 < w2.heap.size; omega)).trans e1
  replace z0 := (hb.cell (p := ⟨w.heap.size + 1 + 1, 0, none⟩) hwl).trans z0
  replace z1 := (hb.cell (p := ⟨w.heap.size + 1 + 1, 1, none⟩) hwl).trans z1
  replace g0 := (hb.frozen (p := ⟨w.heap.size + 1 + 1, 0, none⟩) hwl).trans g0
  replace g1 := (hb.frozen (p := ⟨w.heap.size + 1 + 1, 1, none⟩) hwl).trans g1
  obtain ⟨wo, hwo⟩ : ∃ wo : World, wo = wr := ⟨_, rfl⟩
  subst hwo
  obtain ⟨Ao, co, hov⟩ := own_shape hrow.1
  subst hov
  clear hown6 o0 o1 fo fo0
  by_cases hlt : k < NL.length
  ·have hltI : (k : Int) < (NL.length : Int) := by omega
   obtain ⟨hk', hka⟩ := named_at l NL k hlt
   obtain ⟨t1, t2⟩ := eAttsK_at s (named l NL) k hk' _ _ hinv.out
   rw [hka] at t1 t2
   dsimp only at t1 t2
   obtain ⟨gn, hAN, hcn⟩ := own_open hnr (by omega)
   have n0 : wo.cell? ⟨gn, k, none⟩ = some (.string (B NL[k])) := hcn k _ (by rw [List.getElem?_map, List.getElem?_eq_getElem hlt]; rfl)
   subst hAN
   have hgn := (hnr.lt gn rfl).2
   have hnx := HNM.out NL[k] (List.getElem_mem hlt)
   have hlk := HLV.out NL[k]
   have T1 := Lib.hid t1
   have T2 := Lib.hid t2
   clear t1 t2 hinv hcn hka hk'
   obtain ⟨nk, hnk⟩ : ∃ nk, nk = NL[k] := ⟨_, rfl⟩
   rw [← hnk] at n0 hnx hlk T1 T2
   clear hnk
   go_wp2_with fail
   go_loopw [12, 13] (fun vv i wx => ∃ (j : Nat), j ≤ l.length ∧ i = .int .i64 j ∧ Below wo.heap.size wo wx ∧ StrsV w w.heap.size vv (Idn.lastV (l.take j) nk)) (fun _ i _ => l.length - (intOf i).toNat)
   case atStart => exact ⟨0, Nat.zero_le _, rfl, Below.refl _ _, SlV.nil _ _ _ _⟩
   case round =>
    obtain ⟨j, hj, rfl, hbx, hvv⟩ := hrel
    obtain ⟨wi, hwi⟩ : ∃ wi : World, wi = wr := ⟨_, rfl⟩
    subst hwi
    have hbwi := hbw.trans (hbx.mono hbw.size)
    replace e1 := cell_later hbx e1
    have n0x := cell_later hbx n0
    by_cases hjl : j < l.length
    ·have hjI : (j : Int) < (l.length : Int) := by omega
     obtain ⟨b, off, va, hAl, hbl, c0, c1', hva⟩ := AttsV.cell hv hjl
     subst hAl
     obtain ⟨Av, cv, hvav, _⟩ := SlV.shape hva
     subst hvav
     have d0 := (hbwi.cell (p := ⟨b, off + j * 2, none⟩) hbl).trans c0
     have d1 := (hbwi.cell (p := ⟨b, off + j * 2 + 1, none⟩) hbl).trans c1'
     have hL := fun W => r_lower_any (B l[j].name) W (by rw [Idn.size_B]; have := (HS5.out _ (List.getElem_mem hjl)).1; omega)
     rw [Idn.L_B] at hL
     have hlt9 := lastV_take l nk j hjl
     have hsame : (((B (Idn.lower l[j].name)).toList == (B nk).toList)) = decide (Idn.lower l[j].name = nk) := by rw [str_beq, Idn.L_B, Idn.L_B]
     have j0 := cell_regrown d0
     have j1 := cell_regrown e1
     have j2 := cell_regrown n0x
     have y1 := cq (W := wi) fun W' _ => hL W'
     by_cases he : Idn.lower l[j].name = nk
     ·rw [decide_eq_true he] at hsame
      rw [if_pos he] at hlt9
      have hva9 : StrsV w w.heap.size (.slice Av l[j].vals.length cv) (Idn.lastV (l.take (j + 1)) nk) := by rw [hlt9]; exact hva
      clear hlt9 he hvv hva c0 c1' hL
      generalize Idn.lower l[j].name = ln at *
      generalize l[j].vals.length = vln at *
      generalize B l[j].name = bnm at *
      go_wp2
      refine wp_region_quiet_below (by kernel_rfl) (by kernel_rfl) ?_
      repeat (first | go_big_quiet_step ((go_at_call 55; exact y1 _ _)) | quiet_step ((go_at_call 55; exact y1 _ _)))
      refine wpQuiet_nil ?_
      intro _ hw'
      obtain ⟨⟨dq, osq⟩, hw''⟩ := hw'
      subst hw''
      have hb7 := below_regrown wi dq osq
      generalize grow (redrawn wi dq) osq = W7 at hb7 ⊢
      clear y1 j0 j1 j2
      replace d1 := cell_later hb7 d1
      replace e1 := cell_later hb7 e1
      go_wp2_with fail
      go_roundw
      case rel => exact ⟨j + 1, by omega, by go_num, hbx.trans (hb7.mono hbx.size), hva9⟩
      case measure => simp [intOf]; omega
     ·rw [decide_eq_false he] at hsame
      rw [if_neg he] at hlt9
      have hva9 : StrsV w w.heap.size u12 (Idn.lastV (l.take (j + 1)) nk) := by rw [hlt9]; exact hvv
      clear hlt9 he hvv hva c0 c1' hL d1
      generalize Idn.lower l[j].name = ln at *
      generalize B l[j].name = bnm at *
      go_wp2
      refine wp_region_quiet_below (by kernel_rfl) (by kernel_rfl) ?_
      repeat (first | go_big_quiet_step ((go_at_call 55; exact y1 _ _)) | quiet_step ((go_at_call 55; exact y1 _ _)))
      refine wpQuiet_nil ?_
      intro _ hw'
      obtain ⟨⟨dq, osq⟩, hw''⟩ := hw'
      subst hw''
      have hb7 := below_regrown wi dq osq
      generalize grow (redrawn wi dq) osq = W7 at hb7 ⊢
      clear y1 j0 j1 j2
      go_wp2_with fail
      go_roundw
      case rel => exact ⟨j + 1, by omega, by go_num, hbx.trans (hb7.mono hbx.size), hva9⟩
      case measure => simp [intOf]; omega
    ·have hjI : ¬ (j : Int) < (l.length : Int) := by omega
     rw [List.take_of_length_le (by omega)] at hvv
     obtain ⟨AV, cV, hvv9, _⟩ := SlV.shape hvv
     subst hvv9
     have hpo : w2.heap.size < wo.heap.size := World.block_lt_of_cell? _ _ p0
     have hzo : w.heap.size + 1 + 1 < wo.heap.size := by omega
     replace q0 := cell_later hbx q0
     replace q1 := cell_later hbx q1
     replace z0 := cell_later hbx z0
     replace z1 := cell_later hbx z1
     replace p0 := cell_later hbx p0
     replace p1 := cell_later hbx p1
     replace g0 := (hbx.frozen (p := ⟨w.heap.size + 1 + 1, 0, none⟩) hzo).trans g0
     replace g1 := (hbx.frozen (p := ⟨w.heap.size + 1 + 1, 1, none⟩) hzo).trans g1
     replace pf := (hbx.frozen (p := ⟨w2.heap.size, 1, none⟩) hpo).trans pf
     replace pf0 := (hbx.frozen (p := ⟨w2.heap.size, 0, none⟩) hpo).trans pf0
     have hrowx := hrow.keep hbx
     have hnrx := own_below hnr hbx
     have hbxx := hb.trans (hbx.mono (Nat.le_of_lt hpo))
     have hwix := hbxx.size
     clear hrow hnr hbx hb n0 hbw
     -- region 18: the values in normal form
     have hdr : Below wi.heap.size wi wi.drew := (Below.refl _ _).drew
     have hbwd := hbwi.trans (hdr.mono hbwi.size)
     have hNd := hNo wi.drew hbwd (B nk) _ (Idn.lastV l nk) (SlV.mono (SlV.keep hvv hbwd) hbwd.size) (by rw [Idn.size_B]; exact hnx) (by omega) hlk.2
     rw [Idn.L_B] at hNd
     have q0d : wi.drew.cell? ⟨w.heap.size, 0, none⟩ = some (.slice A1 s.types.length c1) := q0
     have q1d : wi.drew.cell? ⟨w.heap.size, 1, none⟩ = some (.slice A2 s.classes.length c2) := q1
     have n0d : wi.drew.cell? ⟨gn, k, none⟩ = some (.string (B nk)) := n0x
     have hok := fun h => eAtt_ok (s := s) (n := nk) (l := Idn.lastV l nk) h
     have hlk1 := hlk.1
     generalize eAtt s nk (Idn.lastV l nk) = ea at *
     obtain ⟨ex, ee⟩ := ea
     dsimp only at hok hNd
     generalize (Idn.lastV l nk).length = lvl at *
     clear hvv hlk
     go_wp2_with fail
     clear q0 q1
     go_region_law (
      go_simp
      go_at_call 56
      refine hNd.mono ?_
      rintro e w7 ⟨v7, rfl, hown7, hb7⟩
      obtain ⟨A7, c7, hv7⟩ := own_shape hown7
      subst hv7
      go_wp2_with fail)
     all_goals
      replace hown7 : w7.ownsRow wi.heap.size 9 1 (.slice A7 ex.length c7) ex.length (ex.map sv) := hown7
      have hb7i : Below wi.heap.size wi w7 := hdr.trans hb7
      have hzi : w.heap.size + 1 + 1 < wi.heap.size := by omega
      have hpi : w2.heap.size < wi.heap.size := World.block_lt_of_cell? _ _ p0
      replace z0 := cell_later hb7i z0
      replace z1 := cell_later hb7i z1
      replace p0 := cell_later hb7i p0
      replace p1 := cell_later hb7i p1
      replace g0 := (hb7i.frozen (p := ⟨w.heap.size + 1 + 1, 0, none⟩) hzi).trans g0
      replace g1 := (hb7i.frozen (p := ⟨w.heap.size + 1 + 1, 1, none⟩) hzi).trans g1
      replace pf := (hb7i.frozen (p := ⟨w2.heap.size, 1, none⟩) hpi).trans pf
      replace pf0 := (hb7i.frozen (p := ⟨w2.heap.size, 0, none⟩) hpi).trans pf0
      have hbw7 := hbwi.trans (hb7i.mono hbwi.size)
      clear hNd q0d q1d n0d hbwd
      by_cases hee : ee = 0
      case neg =>
       have hI : (ee != 0) = true := by simpa using hee
       have HE : eAttsK s [] (named l NL) = ([], ee) := T1.out hee
       have HF : Hid (r = (([], []), ee)) := by show _ = _; rw [HR.out, HE, if_pos hI]
       clear HR hee T1 T2 hok HE hown7 hrowx hnrx
       go_wp2_with fail
       exact bodyPost_ret (v := .tuple #[.agg #[.string ⟨#[]⟩, .slice none 0 0], .int .i64 ee]) (by simp [results, Tryz.results18, go_sem, z0, z1, g0, g1]) rfl ⟨_, [], by rw [HF.out] <;> rfl, AttRow.nil _ _, by rw [HF.out] <;> rfl, (hbw7.setCell (p := ⟨w.heap.size + 1 + 1, 0, none⟩) hzz _).setCell (p := ⟨w.heap.size + 1 + 1, 1, none⟩) hzz _⟩
      subst hee
      have HE : Hid (eAttsK s [] (named l NL) = eAttsK s (xs.map (·.1) ++ [⟨nk, ex⟩]) ((named l NL).drop (k + 1))) := T2.out rfl
      obtain ⟨hel, hex⟩ := hok rfl
      have hexl : ex.length ≤ 16 := by omega
      have HEX : Hid (∀ x ∈ ex, x.length ≤ 256) := hex
      have hrow7 := hrowx.keep hb7i
      have hnr7 := own_below hnrx hb7i
      have n07 := cell_later hb7i n0x
      have hbx7 := hbxx.trans (hb7i.mono (Nat.le_of_lt hpi))
      have hw57 : W5.heap.size ≤ w7.heap.size := by have := hb7i.size; omega
      clear T1 T2 hok hel hex hrowx hnrx n0x hb7i hb7 hdr
      have hrow7d : AttRow w7.drew W5.heap.size (.slice Ao xs.length co) xs := hrow7.keep (Below.drew (Below.refl w7.heap.size w7))
      have hnr7d : w7.drew.ownsRow W5.heap.size 9 1 (.slice (some ⟨gn, 0, none⟩) NL.length cN6) NL.length (NL.map sv) := hnr7
      have hu7d : w7.drew.ownsRow W5.heap.size 9 1 (.slice A7 ex.length c7) ex.length (ex.map sv) := own_base (w := w7.drew) hown7 (by omega)
      have p0d : w7.drew.cell? ⟨w2.heap.size, 0, none⟩ = some (.string (B cN)) := p0
      have p1d : w7.drew.cell? ⟨w2.heap.size, 1, none⟩ = some (.slice Ao xs.length co) := p1
      have pfd : w7.drew.frozen? ⟨w2.heap.size, 1, none⟩ = false := pf
      have n0d : w7.drew.cell? ⟨gn, k, none⟩ = some (.string (B nk)) := n07
      have p1a : (w7.alloc (.cells #[.string (B nk), .slice A7 ex.length c7] 48)).cell? ⟨w2.heap.size, 1, none⟩ = some (.slice Ao xs.length co) := cell_later ((Below.refl w7.heap.size w7).alloc (Nat.le_refl _) _) p1
      have hbx7d : Below w2.heap.size w6 w7.drew := hbx7.drew
      have hw57d : W5.heap.size ≤ w7.drew.heap.size := hw57
      have hp7 : w2.heap.size < w7.drew.heap.size := by omega
      have hneO : some w2.heap.size ≠ (Value.slice Ao xs.length co).ownBlock := fun e => by have := (hrow7d.1.lt _ e.symm).1; omega
      have hPA : PairAt w7.drew w2.heap.size (.string (B cN)) (.slice Ao xs.length co) := ⟨⟨p0d, p1d⟩, ⟨pf0, pfd⟩, hp7⟩
      clear hrow7 hnr7 p0 hbx7 n07 hown7
      go_wp2_with fail
      clear p1 pf
      go_region_law (refine step_push rfl _ _ 22 rfl W5.heap.size 48 (.agg #[.string ⟨#[]⟩, .slice none 0 0]) 2 40 Tryz.underlying22 info_attr rfl (by decide) _ _ _ hrow7d.1 rfl [.string (B nk), .slice A7 ex.length c7] rfl rfl (by intro u hu; simp at hu; rcases hu with rfl | rfl <;> rfl) (by omega) hw57d ?_ rfl; intro v9 w9 hown9 hg9 hat9; have hP9 := PairAt.grown hPA hg9 hneO hg9.size; obtain ⟨⟨t0, t1⟩, ⟨s0, s1⟩, _⟩ := id hP9; obtain ⟨A9, c9, hv9⟩ := own_shape hown9; subst hv9)
      all_goals
       have hrow9 := hrow7d.push (x := ⟨nk, ex⟩) hu7d (by simpa [sv] using hown9) hg9
       have hnr9 := own_kept hnr7d hg9 fun g h1 h2 => own_apart hrow7d.1 hnr7d (by decide) g h2 h1
       have hneP : (Value.slice A9 (xs.length + 1) c9).ownBlock ≠ some w2.heap.size := fun e => by have := (hown9.lt _ e).1; omega
       have hneN : (Value.slice (some ⟨gn, 0, none⟩) NL.length cN6).ownBlock ≠ some w2.heap.size := fun e => by have := (hnr9.lt _ e).1; omega
       have hrow10 : AttRow (w9.setCell ⟨w2.heap.size, 1, none⟩ (.slice A9 (xs.length + 1) c9)) W5.heap.size (.slice A9 (xs.length + 1) c9) (xs ++ [(⟨nk, ex⟩, .slice A7 ex.length c7)]) :=
        ⟨ownsRow_setCell_other (a := ⟨w2.heap.size, 1, none⟩) hrow9.1 hneP _, fun p hp => ownsRow_setCell_other (a := ⟨w2.heap.size, 1, none⟩) (hrow9.2 p hp) (fun e => by have := ((hrow9.2 p hp).lt w2.heap.size e).1; omega) _⟩
       have hnr10 := ownsRow_setCell_other (a := ⟨w2.heap.size, 1, none⟩) hnr9 hneN (.slice A9 (xs.length + 1) c9)
       have hP10 := PairAt.put hP9 (.slice A9 (xs.length + 1) c9)
       have hb10 : Below w2.heap.size w6 (w9.setCell ⟨w2.heap.size, 1, none⟩ (.slice A9 (xs.length + 1) c9)) := (hbx7d.grown hg9 (Nat.le_of_lt hp7) (fun g hg => by have := (hrow7d.1.lt g hg).1; omega)).setCell (Nat.le_refl _) _
       have HXS : Hid (∀ a ∈ (xs ++ [((⟨nk, ex⟩ : Idn.Att), Value.slice A7 ex.length c7)]).map (·.1), a.vals.length ≤ 16 ∧ a.name.length ≤ 1000000000 ∧ ∀ x ∈ a.vals, x.length ≤ 256) := by
        show ∀ a ∈ _, _
        intro a ha
        rw [List.map_append] at ha
        rcases List.mem_append.1 ha with ha | ha
        ·exact hxs.out a ha
        ·simp at ha; subst ha; exact ⟨hexl, hnx, HEX.out⟩
       have HE2 : Hid (eAttsK s [] (named l NL) = eAttsK s ((xs ++ [((⟨nk, ex⟩ : Idn.Att), Value.slice A7 ex.length c7)]).map (·.1)) ((named l NL).drop (k + 1))) := by show _ = _; rw [List.map_append]; exact HE.out
       have HXL : Hid ((xs ++ [((⟨nk, ex⟩ : Idn.Att), Value.slice A7 ex.length c7)]).length = k + 1) := by show _ = _; rw [List.length_append, hxl.out]; rfl
       clear hrow9 hnr9 hxs hxl HE
       go_wp2_with fail
       go_roundw
       case rel => exact ⟨k + 1, _, _, by omega, by go_num, hrow10, hnr10, hb10, hP10.1.1, hP10.1.2, hP10.2.1.2, hP10.2.1.1, HE2, HXL, HXS⟩
       case measure => simp [intOf]; omega
  ·have hltI : ¬ (k : Int) < (NL.length : Int) := by omega
   have HEX : eAttsK s [] (named l NL) = (xs.map (·.1), 0) := by rw [hinv.out, List.drop_eq_nil_of_le (by unfold named; simp; omega)]; rfl
   have hats := hrow.atts rfl
   have hx7 : Idn.ASm7 (xs.map (·.1)) := ⟨by simp; omega, fun a ha => ⟨(hxs.out a ha).2.1, by have := (hxs.out a ha).1; omega, fun x hx => by have := (hxs.out a ha).2.2 x hx; omega⟩⟩
   have hS := r_Sorted_any _ (xs.map (·.1)) wo hats hx7
   obtain ⟨hq1, hq2, hq3⟩ := rSorted_sm (l := xs.map (·.1)) (by simpa using hxk) hxs.out
   replace HR : Hid (r = if sValid s (Idn.rSorted (xs.map (·.1))) != 0 then (([], []), sValid s (Idn.rSorted (xs.map (·.1)))) else ((cN, Idn.rSorted (xs.map (·.1))), 0)) := by show _ = _; rw [HR.out, HEX]; rfl
   generalize Idn.rSorted (xs.map (·.1)) = sq at *
   have hpo : w2.heap.size < wo.heap.size := World.block_lt_of_cell? _ _ p0
   have hzo : w.heap.size + 1 + 1 < wo.heap.size := by omega
   clear hinv HEX hx7 hats hrow hnr hNo hxs HLV HNM HS5
   go_wp2_with fail
   refine hS.mono ?_
   rintro e w10 ⟨v10, ps10, rfl, hrow10, hps10, hb10⟩
   obtain ⟨A10, c10, hv10⟩ := own_shape hrow10.1
   subst hv10
   have HP10 := Lib.hid hps10
   replace q0 := cell_later hb10 q0
   replace q1 := cell_later hb10 q1
   replace p0 := cell_later hb10 p0
   replace p1 := cell_later hb10 p1
   replace z0 := cell_later hb10 z0
   replace z1 := cell_later hb10 z1
   replace g0 := (hb10.frozen (p := ⟨w.heap.size + 1 + 1, 0, none⟩) hzo).trans g0
   replace g1 := (hb10.frozen (p := ⟨w.heap.size + 1 + 1, 1, none⟩) hzo).trans g1
   replace pf := (hb10.frozen (p := ⟨w2.heap.size, 1, none⟩) hpo).trans pf
   have hbw10 := hbw.trans (hb10.mono hbw.size)
   have hsz10 := hb10.size
   clear hS hps10
   go_upto_region 23 with fail
   have hR11 : AttRow (w10.setCell ⟨w2.heap.size, 1, none⟩ (.slice A10 ps10.length c10)) wo.heap.size (.slice A10 ps10.length c10) ps10 :=
    ⟨ownsRow_setCell_other (a := ⟨w2.heap.size, 1, none⟩) hrow10.1 (fun e => by have := (hrow10.1.lt w2.heap.size e).1; omega) _, fun p hp => ownsRow_setCell_other (a := ⟨w2.heap.size, 1, none⟩) (hrow10.2 p hp) (fun e => by have := ((hrow10.2 p hp).lt w2.heap.size e).1; omega) _⟩
   have hb11 := hbw10.setCell (p := ⟨w2.heap.size, 1, none⟩) (by show w.heap.size ≤ w2.heap.size; omega) (.slice A10 ps10.length c10)
   have r0 : (w10.setCell ⟨w2.heap.size, 1, none⟩ (.slice A10 ps10.length c10)).cell? ⟨w.heap.size, 0, none⟩ = some (.slice A1 s.types.length c1) := by
    rw [World.cell?_setCell_other _ _ _ _ (by intro e; injection e with e; omega)]; exact q0
   have r1 : (w10.setCell ⟨w2.heap.size, 1, none⟩ (.slice A10 ps10.length c10)).cell? ⟨w.heap.size, 1, none⟩ = some (.slice A2 s.classes.length c2) := by
    rw [World.cell?_setCell_other _ _ _ _ (by intro e; injection e with e; omega)]; exact q1
   have s0 : (w10.setCell ⟨w2.heap.size, 1, none⟩ (.slice A10 ps10.length c10)).cell? ⟨w.heap.size + 1 + 1, 0, none⟩ = some (.string ⟨#[]⟩) := by
    rw [World.cell?_setCell_other _ _ _ _ (by intro e; injection e with e; omega)]; exact z0
   have s1 : (w10.setCell ⟨w2.heap.size, 1, none⟩ (.slice A10 ps10.length c10)).cell? ⟨w.heap.size + 1 + 1, 1, none⟩ = some (.slice none 0 0) := by
    rw [World.cell?_setCell_other _ _ _ _ (by intro e; injection e with e; omega)]; exact z1
   have o0' : (w10.setCell ⟨w2.heap.size, 1, none⟩ (.slice A10 ps10.length c10)).cell? ⟨w2.heap.size, 0, none⟩ = some (.string (B cN)) := by
    rw [World.cell?_setCell_other _ _ _ _ (by intro e; injection e with e1 e2; omega)]; exact p0
   have o1' : (w10.setCell ⟨w2.heap.size, 1, none⟩ (.slice A10 ps10.length c10)).cell? ⟨w2.heap.size, 1, none⟩ = some (.slice A10 ps10.length c10) := World.cell?_setCell_same _ _ _ p1
   have f0 : (w10.setCell ⟨w2.heap.size, 1, none⟩ (.slice A10 ps10.length c10)).frozen? ⟨w.heap.size + 1 + 1, 0, none⟩ = false := by simpa using g0
   have f1 : (w10.setCell ⟨w2.heap.size, 1, none⟩ (.slice A10 ps10.length c10)).frozen? ⟨w.heap.size + 1 + 1, 1, none⟩ = false := by simpa using g1
   have hsz11 : (w10.setCell ⟨w2.heap.size, 1, none⟩ (.slice A10 ps10.length c10)).heap.size = w10.heap.size := by simp
   have hws11 : w.heap.size + 1 + 1 < (w10.setCell ⟨w2.heap.size, 1, none⟩ (.slice A10 ps10.length c10)).heap.size := by omega
   clear q0 q1 z0 z1 p0 p1 g0 g1 pf hsz11 hrow10 hb10
   generalize w10.setCell ⟨w2.heap.size, 1, none⟩ (.slice A10 ps10.length c10) = W11 at *
   have hVl := hVd W11 hb11 (B cN) _ sq (hR11.atts HP10.out) hq1 hq2 hq3
   generalize sValid s sq = se at *
   clear hVd
   go_wp2_with fail
   refine hVl.mono ?_
   rintro e w12 ⟨rfl, hb12⟩
   replace s0 := cell_later hb12 s0
   replace s1 := cell_later hb12 s1
   replace o0' := cell_later hb12 o0'
   replace o1' := cell_later hb12 o1'
   replace f0 := (hb12.frozen (p := ⟨w.heap.size + 1 + 1, 0, none⟩) hws11).trans f0
   replace f1 := (hb12.frozen (p := ⟨w.heap.size + 1 + 1, 1, none⟩) hws11).trans f1
   have hbw12 := hb11.trans (hb12.mono hb11.size)
   have hA12 := hR11.keep hb12
   clear hVl r0 r1 hR11
   by_cases hse : se = 0
   ·subst hse
    have HF : Hid (r = ((cN, sq), 0)) := by show _ = _; rw [HR.out]; rfl
    have hfin : AttRow ((w12.setCell ⟨w.heap.size + 1 + 1, 0, none⟩ (.string (B cN))).setCell ⟨w.heap.size + 1 + 1, 1, none⟩ (.slice A10 ps10.length c10)) wo.heap.size (.slice A10 ps10.length c10) ps10 := by
     have hx : ∀ (W : World) (j : Nat) (x : Value), AttRow W wo.heap.size (.slice A10 ps10.length c10) ps10 → AttRow (W.setCell ⟨w.heap.size + 1 + 1, j, none⟩ x) wo.heap.size (.slice A10 ps10.length c10) ps10 := fun W j x h =>
      ⟨ownsRow_setCell_other (a := ⟨w.heap.size + 1 + 1, j, none⟩) h.1 (fun e => by have := (h.1.lt (w.heap.size + 1 + 1) e).1; omega) _, fun p hp => ownsRow_setCell_other (a := ⟨w.heap.size + 1 + 1, j, none⟩) (h.2 p hp) (fun e => by have := ((h.2 p hp).lt (w.heap.size + 1 + 1) e).1; omega) _⟩
     exact hx _ 1 _ (hx _ 0 _ hA12)
    have HFIN := Lib.hid hfin
    clear HR hA12 hfin
    go_wp2_with fail
    exact bodyPost_ret (v := .tuple #[.agg #[.string (B cN), .slice A10 ps10.length c10], .int .i64 0]) (by simp [results, Tryz.results18, go_sem, s0, s1, f0, f1]) rfl ⟨_, ps10, by rw [HF.out], HFIN.out.low (by omega), by rw [HF.out]; exact HP10.out, (hbw12.setCell (p := ⟨w.heap.size + 1 + 1, 0, none⟩) hzz _).setCell (p := ⟨w.heap.size + 1 + 1, 1, none⟩) hzz _⟩
   ·have hI : (se != 0) = true := by simpa using hse
    have HF : Hid (r = (([], []), se)) := by show _ = _; rw [HR.out, if_pos hI]
    clear HR hA12 hse
    go_wp2_with fail
    exact bodyPost_ret (v := .tuple #[.agg #[.string ⟨#[]⟩, .slice none 0 0], .int .i64 se]) (by simp [results, Tryz.results18, go_sem, s0, s1, f0, f1]) rfl ⟨_, [], by rw [HF.out] <;> rfl, AttRow.nil _ _, by rw [HF.out] <;> rfl, (hbw12.setCell (p := ⟨w.heap.size + 1 + 1, 0, none⟩) hzz _).setCell (p := ⟨w.heap.size + 1 + 1, 1, none⟩) hzz _⟩
end Go.Proofs.YtoopoglkeeoamaaGreatDoor
/- identityref06: Remove. -/
namespace Go.Proofs.YtoopoglkeeoamaaGreatDoor
open Go.RowKit Go.Sort
open Idn (L B Bs drop_L take_L size_L)
theorem rBad_step (old l : List Bs) (k : Nat) (hk : k < l.length) (r : Bool) (h : r = rBad old (l.take k) (l.drop k)) :
  (old.contains l[k] = false → r = true) ∧ (old.contains l[k] = true → (l.take k).contains l[k] = true → r = true) ∧ (old.contains l[k] = true → (l.take k).contains l[k] = false → r = rBad old (l.take (k + 1)) (l.drop (k + 1))) := by
 rw [List.drop_eq_getElem_cons hk, rBad] at h
 refine ⟨fun a => by rw [h, a]; simp, fun a b => by rw [h, a, b]; simp, fun a b => by rw [h, a, b, List.take_succ_eq_append_getElem hk]; simp⟩
theorem r6_Remove_any (v : Value) (l : List Idn.Att) (n : ByteArray) (mv : Value) (vals : List Bs) (w : World) (hv : AttsV w w.heap.size v l) (hm : StrsV w w.heap.size mv vals) (hs : Idn.ASm7 l) (hn : n.size ≤ 1000000000) (hml : vals.length ≤ 1100000) (hgn : (rGet l (L n)).length ≤ 10000) (hfin : Idn.ASm7 (Idn.rWo l (L n) ++ [⟨L n, rLeft (rGet l (L n)) vals⟩])) :
  Calls Tryz.prog 119 #[v, .string n, mv] w (RetAv w (rRemove l (L n) vals)) := by
 have hN := fun W => r_name_any n W (by omega)
 have hG := fun W (hW : Below w.heap.size w W) => r6_Get_any v l n W (AttsV.mono (AttsV.keep hv hW) hW.size) hs hn
 have hWo := fun W (hW : Below w.heap.size w W) => r6_without_any v l n W (AttsV.mono (AttsV.keep hv hW) hW.size) hs hn
 have hSo := fun (v2 : Value) W h => r_Sorted_any v2 (Idn.rWo l (L n) ++ [⟨L n, rLeft (rGet l (L n)) vals⟩]) W h hfin
 have hlen : (Idn.rWo l (L n)).length ≤ 900 := by have := hfin.1; rw [List.length_append] at this; omega
 have HR : Hid (rRemove l (L n) vals = if !Idn.name (L n) then ([], 5) else if (rGet l (L n)).length = 0 then ([], 6) else if rBad (rGet l (L n)) [] vals then ([], 6)
  else (Idn.rSorted (Idn.rWo l (L n) ++ [⟨L n, rLeft (rGet l (L n)) vals⟩]), 0)) := rfl
 have HL : Hid (rLeft (rGet l (L n)) vals = (rGet l (L n)).filter fun x => decide (0 < vals.length) && !vals.contains x) := rfl
 obtain ⟨A0, c0, rfl, hc0⟩ := SlV.shape hv
 have hm0 := hm
 obtain ⟨Am, cm, rfl, hcm⟩ := SlV.shape hm
 generalize rRemove l (L n) vals = r at *
 generalize Idn.rSorted (Idn.rWo l (L n) ++ [⟨L n, rLeft (rGet l (L n)) vals⟩]) = sq at *
 generalize rGet l (L n) = old at *
 generalize rLeft old vals = lft at *
 generalize Idn.rWo l (L n) = wol at *
 clear hs hv hfin
 cases hnm : Idn.name (L n)
 ·rw [hnm] at hN
  have HF : Hid (r = ([], 5)) := by show _ = _; rw [HR.out, hnm]; rfl
  clear HR hWo hSo hnm hG
  go_enter Tryz.func119, Tryz.ntmps119
  go_wp2_with fail
  refine (hN w).mono ?_
  rintro e w1 ⟨rfl, rfl⟩
  go_wp2_with fail
  go_ret2
  exact ⟨_, [], by rw [HF.out] <;> rfl, AttRow.nil _ _, by rw [HF.out] <;> rfl, Below.refl _ _⟩
 rw [hnm] at hN
 replace HR : Hid (r = if old.length = 0 then ([], 6) else if rBad old [] vals then ([], 6) else (sq, 0)) := by show _ = _; rw [HR.out, hnm]; rfl
 clear hnm
 go_enter Tryz.func119, Tryz.ntmps119
 go_wp2_with fail
 refine (hN w).mono ?_
 rintro e w0 ⟨rfl, rfl⟩
 clear hN
 go_wp2_with fail
 refine (hG w (Below.refl _ _)).mono ?_
 rintro e w1 ⟨A1, k1, c1, rfl, ho1, hb1⟩
 obtain rfl := SlV.len ho1
 clear hG
 by_cases hz : old.length = 0
 ·have hI : ((old.length : Int) == 0) = true := by rw [beq_iff_eq]; omega
  have HF : Hid (r = ([], 6)) := by show _ = _; rw [HR.out, if_pos hz]
  clear HR hz hSo hWo
  go_wp2_with fail
  go_ret2
  exact ⟨_, [], by rw [HF.out] <;> rfl, AttRow.nil _ _, by rw [HF.out] <;> rfl, hb1⟩
 have hI : ((old.length : Int) == 0) = false := by rw [beq_eq_false_iff_ne]; omega
 replace HR : Hid (r = if rBad old [] vals then ([], 6) else (sq, 0)) := by show _ = _; rw [HR.out, if_neg hz]
 have hm1 := SlV.mono (SlV.keep hm0 hb1) hb1.size
 clear hz
 go_wp2_with fail
 go_loopw [9] (fun i wr => ∃ k : Nat, k ≤ vals.length ∧ i = .int .i64 k ∧ Below w1.heap.size w1 wr ∧ Hid (rBad old [] vals = rBad old (vals.take k) (vals.drop k))) (fun i _ => vals.length - (intOf i).toNat)
 case atStart => exact ⟨0, Nat.zero_le _, rfl, Below.refl _ _, by show _ = _; simp⟩
 case round =>
  obtain ⟨k, hk, rfl, hb, hinv⟩ := hrel
  by_cases hlt : k < vals.length
  ·have hvr := SlV.keep hm1 hb
   obtain ⟨b, off, hAm, hbl, c00⟩ := StrsV.cell hvr hlt
   subst hAm
   have hltI : (k : Int) < (vals.length : Int) := by omega
   have hkc : (k : Int) ≤ (cm : Int) := by omega
   have hk0 : (0 : Int) ≤ (k : Int) := by omega
   obtain ⟨s1, s2, s3⟩ := rBad_step old vals k hlt _ hinv.out
   have hH1 := fun W (hW : Below wr.heap.size wr W) => r6_has_any _ old (B vals[k]) W (SlV.mono (SlV.keep (SlV.keep ho1 hb) (hW.mono hb.size)) (Nat.le_trans hb.size hW.size)) (by omega)
   have hH2 := fun W (hW : Below wr.heap.size wr W) => r6_has_any _ (vals.take k) (B vals[k]) W (SlV.take (SlV.mono (SlV.keep hvr (hW.mono hb.size)) (Nat.le_trans hb.size hW.size)) k hk) (by rw [List.length_take]; omega)
   rw [Idn.L_B] at hH1 hH2
   have k0 := cell_regrown c00
   have hbw := hb1.trans (hb.mono hb1.size)
   clear hinv
   cases h2 : old.contains vals[k]
   ·rw [h2] at hH1
    have HF : Hid (r = ([], 6)) := by show _ = _; rw [HR.out, if_pos (s1 h2)]
    have q1 := cq hH1
    clear s1 s2 s3 h2 hH1 hH2 HR hSo hWo
    go_wp2
    refine wp_region_quiet_below (by kernel_rfl) (by kernel_rfl) ?_
    repeat (first | go_big_quiet_step ((go_at_call 144; with_reducible exact q1 _ _)) | quiet_step ((go_at_call 144; with_reducible exact q1 _ _)))
    refine wpQuiet_nil ?_
    intro _ hw'
    obtain ⟨⟨dq, osq⟩, hw''⟩ := hw'
    subst hw''
    have hb4 := below_regrown wr dq osq
    generalize grow (redrawn wr dq) osq = W4 at hb4 ⊢
    go_wp2_with fail
    go_ret2
    exact ⟨_, [], by rw [HF.out] <;> rfl, AttRow.nil _ _, by rw [HF.out] <;> rfl, hbw.trans (hb4.mono hbw.size)⟩
   ·rw [h2] at hH1
    cases h3 : (vals.take k).contains vals[k]
    ·rw [h3] at hH2
     have HF : Hid (rBad old [] vals = rBad old (vals.take (k + 1)) (vals.drop (k + 1))) := s3 h2 h3
     have q1 := cq hH1
     have q2 := cq hH2
     clear s1 s2 s3 h2 h3 hH1 hH2
     go_wp2
     refine wp_region_quiet_below (by kernel_rfl) (by kernel_rfl) ?_
     repeat (first | go_big_quiet_step ((go_at_call 144; first | with_reducible exact q1 _ _ | with_reducible exact q2 _ _)) | quiet_step ((go_at_call 144; first | with_reducible exact q1 _ _ | with_reducible exact q2 _ _)))
     refine wpQuiet_nil ?_
     intro _ hw'
     obtain ⟨⟨dq, osq⟩, hw''⟩ := hw'
     subst hw''
     have hb4 := below_regrown wr dq osq
     generalize grow (redrawn wr dq) osq = W4 at hb4 ⊢
     go_wp2_with fail
     go_roundw
     case rel => exact ⟨k + 1, by omega, by go_num, hb.trans (hb4.mono hb.size), HF⟩
     case measure => simp [intOf]; omega
    ·rw [h3] at hH2
     have HF : Hid (r = ([], 6)) := by show _ = _; rw [HR.out, if_pos (s2 h2 h3)]
     have q1 := cq hH1
     have q2 := cq hH2
     clear s1 s2 s3 h2 h3 hH1 hH2 HR hSo hWo
     go_wp2
     refine wp_region_quiet_below (by kernel_rfl) (by kernel_rfl) ?_
     repeat (first | go_big_quiet_step ((go_at_call 144; first | with_reducible exact q1 _ _ | with_reducible exact q2 _ _)) | quiet_step ((go_at_call 144; first | with_reducible exact q1 _ _ | with_reducible exact q2 _ _)))
     refine wpQuiet_nil ?_
     intro _ hw'
     obtain ⟨⟨dq, osq⟩, hw''⟩ := hw'
     subst hw''
     have hb4 := below_regrown wr dq osq
     generalize grow (redrawn wr dq) osq = W4 at hb4 ⊢
     go_wp2_with fail
     go_ret2
     exact ⟨_, [], by rw [HF.out] <;> rfl, AttRow.nil _ _, by rw [HF.out] <;> rfl, hbw.trans (hb4.mono hbw.size)⟩
  ·have hltI : ¬ (k : Int) < (vals.length : Int) := by omega
   have hbad : rBad old [] vals = false := by rw [hinv.out, List.drop_eq_nil_of_le (by omega)]; rfl
   have HF : Hid (r = (sq, 0)) := by show _ = _; rw [HR.out, hbad]; rfl
   have hbw := hb1.trans (hb.mono hb1.size)
   have ho2 := SlV.mono (SlV.keep ho1 hb) hb.size
   have hm2 := SlV.mono (SlV.keep hm1 hb) hb.size
   obtain ⟨wn, hwn⟩ : ∃ wn : World, wn = wr := ⟨_, rfl⟩
   subst hwn
   clear hinv hbad HR ho1 hm1 hb1
   go_wp2_with fail
   go_loopw [10, 11] (fun o i wr => ∃ (k : Nat) (acc : List Bs), k ≤ old.length ∧ i = .int .i64 k ∧ wr.ownsRow wn.heap.size 9 1 o acc.length (acc.map sv) ∧ Below wn.heap.size wn wr ∧ Hid (acc = (old.take k).filter fun x => decide (0 < vals.length) && !vals.contains x) ∧ acc.length ≤ k) (fun _ i _ => old.length - (intOf i).toNat)
   case atStart => exact ⟨0, [], Nat.zero_le _, rfl, World.ownsRow_nil _ _ _ _, Below.refl _ _, rfl, Nat.le_refl _⟩
   case round =>
    obtain ⟨k, acc, hk2, rfl, hown, hbn, hacc, hal⟩ := hrel
    obtain ⟨wo, hwo⟩ : ∃ wo : World, wo = wr := ⟨_, rfl⟩
    subst hwo
    by_cases hkl : k < old.length
    ·have hklI : (k : Int) < (old.length : Int) := by omega
     obtain ⟨b, off, hA1, hbl, d0⟩ := StrsV.cell (SlV.keep ho2 hbn) hkl
     subst hA1
     have hstep := filter_take8 (fun x => decide (0 < vals.length) && !vals.contains x) old k hkl
     by_cases hv0 : 0 < vals.length
     ·have hv0I : (0 : Int) < (vals.length : Int) := by omega
      have hH := r6_has_any _ vals (B old[k]) wo (SlV.mono (SlV.keep hm2 hbn) hbn.size) (by omega)
      rw [Idn.L_B] at hH
      cases hcc : vals.contains old[k]
      ·rw [hcc] at hH
       have HA : Hid (acc ++ [old[k]] = (old.take (k + 1)).filter fun x => decide (0 < vals.length) && !vals.contains x) := by
        show _ = _; rw [hstep, if_pos (by rw [hcc, decide_eq_true hv0]; rfl), hacc.out]
       clear hstep hcc hacc hv0
       go_wp2_with fail
       refine hH.mono ?_
       rintro e w2 ⟨rfl, hb2⟩
       replace d0 := cell_later hb2 d0
       have hown2 := own_below hown hb2
       have hbn2 := hbn.trans (hb2.mono hbn.size)
       clear hH hown
       go_wp2_with (at_builtin; refine wpList_push w2 rfl _ _ 45 rfl wn.heap.size 9 (.string ⟨#[]⟩) 1 16 Tryz.underlying45 info_str rfl (by decide) _ acc.length _ hown2 rfl [.string (B old[k])] rfl rfl (by intro u hu; simp at hu; subst hu; rfl) (by omega) hbn2.size ?_ rfl)
       intro v3 w3 hown3 _ _ hb3 _
       clear hown2
       go_wp2
       go_roundw
       case rel => exact ⟨k + 1, acc ++ [old[k]], by omega, by go_num, by rw [List.length_append, List.map_append]; exact hown3, hbn2.trans hb3, HA, by rw [List.length_append]; simp; omega⟩
       case measure => simp [intOf]; omega
      ·rw [hcc] at hH
       have HA : Hid (acc = (old.take (k + 1)).filter fun x => decide (0 < vals.length) && !vals.contains x) := by
        show _ = _; rw [hstep, if_neg (by rw [hcc]; simp), List.append_nil, hacc.out]
       clear hstep hcc hacc hv0
       go_wp2_with fail
       refine hH.mono ?_
       rintro e w2 ⟨rfl, hb2⟩
       have hown2 := own_below hown hb2
       have hbn2 := hbn.trans (hb2.mono hbn.size)
       clear hH hown
       go_wp2_with fail
       go_roundw
       case rel => exact ⟨k + 1, acc, by omega, by go_num, hown2, hbn2, HA, by omega⟩
       case measure => simp [intOf]; omega
     ·have hv0I : ¬ (0 : Int) < (vals.length : Int) := by omega
      have HA : Hid (acc = (old.take (k + 1)).filter fun x => decide (0 < vals.length) && !vals.contains x) := by
       show _ = _; rw [hstep, if_neg (by rw [decide_eq_false hv0]; simp), List.append_nil, hacc.out]
      clear hstep hacc hv0
      go_wp2_with fail
      go_roundw
      case rel => exact ⟨k + 1, acc, by omega, by go_num, hown, hbn, HA, by omega⟩
      case measure => simp [intOf]; omega
    ·have hklI : ¬ (k : Int) < (old.length : Int) := by omega
     have hlf : acc = lft := by rw [HL.out, hacc.out, List.take_of_length_le (by omega)]
     subst hlf
     have hbwn := hbw.trans (hbn.mono hbw.size)
     have hWn := hWo wo hbwn
     have hlv := StrsV.of_own hown
     obtain ⟨Av, cv, hvv⟩ := own_shape hown
     subst hvv
     have hacl : acc.length ≤ 10000 := by omega
     clear hacc hown HL hWo
     go_wp2_with fail
     refine hWn.mono ?_
     rintro e w5 ⟨v5, qs, rfl, hrow, hqs, hb5⟩
     obtain ⟨A5, c5, hv5⟩ := own_shape hrow.1
     subst hv5
     have hql : qs.length ≤ 900 := by rw [← hqs, List.length_map] at hlen; exact hlen
     clear hWn hlen
     go_wp2_with (at_builtin; refine wpList_push w5 rfl _ _ 22 rfl wo.heap.size 48 (.agg #[.string ⟨#[]⟩, .slice none 0 0]) 2 40 Tryz.underlying22 info_attr rfl (by decide) _ qs.length _ hrow.1 rfl [.string n, .slice Av acc.length cv] rfl rfl (by intro u hu; simp at hu; rcases hu with rfl | rfl <;> rfl) (by omega) hb5.size ?_ rfl)
     intro v6 w6 hown6 hg6 _ hb6 _
     have hb56 := hb5.trans hb6
     have hats := row_more hrow hown6 hg6 hlv hb56 hqs
     have hS6 := hSo v6 w6 hats
     have hbw6 := hbwn.trans (hb56.mono hbwn.size)
     clear hSo hrow hown6 hg6 hqs hats
     go_wp2_with fail
     refine hS6.mono ?_
     rintro e w7 ⟨v7, ps7, rfl, hrow7, hps7, hb7⟩
     obtain ⟨A7, c7, hv7, _⟩ := SlV.shape (hrow7.atts hps7)
     subst hv7
     clear hS6
     go_wp2_with fail
     go_ret2
     exact ⟨_, ps7, by rw [HF.out] <;> rfl, hrow7.low hbw6.size, by rw [HF.out]; exact hps7, hbw6.trans (hb7.mono hbw6.size)⟩
end Go.Proofs.YtoopoglkeeoamaaGreatDoor
/- identityref08: apply. -/
namespace Go.Proofs.YtoopoglkeeoamaaGreatDoor
open Go.RowKit Go.Sort
open Idn (L B Bs drop_L take_L size_L)
theorem eMod_def (s : Idn.Sch) (l : List Idn.Att) (op : Int) (n : Bs) (vals : List Bs) : eMod s l ⟨op, n, vals⟩ = if op < 1 ∨ 3 < op then ([], 2)
 else if !(tyLook (sound s) n).2 then ([], 6)
 else if (eAtt s n vals).2 != 0 then ([], (eAtt s n vals).2)
 else if op = 2 then aRemove l n (eAtt s n vals).1
 else if op = 1 then (if 0 < (eAtt s n vals).1.length then aAdd l n (eAtt s n vals).1 else ([], 6))
 else aReplace l n (eAtt s n vals).1 := rfl
theorem eAtt_ok8 {s : Idn.Sch} {a : Bs} {l : List Bs} (h : (eAtt s a l).2 = 0) : (eAtt s a l).1.length = l.length ∧ ∀ x ∈ (eAtt s a l).1, x.length ≤ 256 := by
 rw [eAtt_unf] at h ⊢
 by_cases h1 : (eVals s a l).2 = 0
 ·have hk := eVals_ok h1
  cases h2 : dupK [] (eVals s a l).1
  ·simp [h1] at h ⊢; exact hk
  ·simp [h1, h2] at h
 ·simp [h1] at h
theorem Fit.wo7 {k : Nat} {l : List Idn.Att} (h : Fit k l) (hk : k ≤ 100) {n : Bs} {v : List Bs} (hn : n.length ≤ 1000000000) (hv : v.length ≤ 1050000) (hx : ∀ x ∈ v, x.length ≤ 1000000000) : Idn.ASm7 (Idn.rWo l n ++ [⟨n, v⟩]) := by
 have hl := h.2.1
 have hf : (Idn.rWo l n).length ≤ l.length := by unfold Idn.rWo; rw [h.1]; exact List.length_filter_le _ _
 refine ⟨by rw [List.length_append]; simp; omega, fun a ha => ?_⟩
 rcases List.mem_append.1 ha with ha | ha
 ·unfold Idn.rWo at ha
  rw [h.1] at ha
  obtain ⟨h1, h2, h3⟩ := h.2.2 a (List.mem_filter.1 ha).1
  exact ⟨by omega, by omega, fun x hx => by have := h3 x hx; omega⟩
 ·rw [List.mem_singleton] at ha; subst ha; exact ⟨hn, by show v.length ≤ _; omega, hx⟩
theorem r8_apply_any (u : Value) (s : Idn.Sch) (lv : Value) (l : List Idn.Att) (op : Int) (n : ByteArray) (mv : Value) (vals : List Bs) (k : Nat) (w : World) (hu : SchV w w.heap.size u s) (hs : SSm s) (hv : AttsV w w.heap.size lv l) (hm : StrsV w w.heap.size mv vals) (hf : Fit k l) (hk : k ≤ 90) (hn : n.size ≤ 1000000000) (hvl : vals.length ≤ 1048600) (hvx : ∀ x ∈ vals, x.length ≤ 100000000) :
    Calls Tryz.prog 61 #[u, lv, .agg #[.int .i64 op, .string n, mv]] w (RetAv w (eMod s l ⟨op, L n, vals⟩)) := by
  have hTy := fun W (hW : Below w.heap.size w W) => r_type_any u s n W (SchV.mono (SchV.keep hu hW) hW.size) hs hn
  have hNo := fun W (hW : Below w.heap.size w W) => r8_normals_any u s n mv vals W (SchV.mono (SchV.keep hu hW) hW.size) hs (SlV.mono (SlV.keep hm hW) hW.size) hn hvl hvx
  have hA := fun W (hW : Below w.heap.size w W) => AttsV.mono (AttsV.keep hv hW) hW.size
  have hLn : (L n).length ≤ 1000000000 := by rw [← size_L]; exact hn
  have h7 : Idn.ASm7 l := hf.asm7 (by omega)
  have hgl := hf.get (L n)
  have hRm := fun W (hW : Below w.heap.size w W) rv (q : List Bs) (h : StrsV W W.heap.size rv q) (h1 : q.length ≤ 1048600) => r6_Remove_any lv l n rv q W (hA W hW) h h7 hn (by omega) (by omega) (hf.wo7 (by omega) hLn (Nat.le_trans (List.length_filter_le _ _) (by omega)) (fun x hx => by have := hgl.2 x (List.mem_filter.1 hx).1; omega))
  have hAd := fun W (hW : Below w.heap.size w W) rv (q : List Bs) (h : StrsV W W.heap.size rv q) (h1 : q.length ≤ 1048600) (h2 : ∀ x ∈ q, x.length ≤ 256) => r6_Add_any lv l n rv q W (hA W hW) h h7 hn (by omega) (fun x hx => by have := h2 x hx; omega) (by omega) (hf.wo7 (by omega) hLn (by rw [List.length_append]; omega) (fun x hx => by
    rcases List.mem_append.1 hx with hx | hx
    · have := hgl.2 x hx; omega
    · have := h2 x hx; omega))
  have hRp := fun W (hW : Below w.heap.size w W) rv (q : List Bs) (h : StrsV W W.heap.size rv q) (h1 : q.length ≤ 1048600) (h2 : ∀ x ∈ q, x.length ≤ 256) => r6_Replace_any lv l n rv q W (hA W hW) h h7 hn (by omega) (fun x hx => by have := h2 x hx; omega) (hf.wo7 (by omega) hLn (by omega) (fun x hx => by have := h2 x hx; omega))
  have HR := Lib.hid (eMod_def s l op (L n) vals)
  have hex := fun h => eAtt_ok8 (s := s) (a := L n) (l := vals) h
  obtain ⟨sa, sb, rfl, hT, hC⟩ := hu
  obtain ⟨A1, c1, rfl, _⟩ := SlV.shape hT
  obtain ⟨A2, c2, rfl, _⟩ := SlV.shape hC
  obtain ⟨A, c, rfl, hc⟩ := SlV.shape hv
  obtain ⟨Am, cm, rfl, hcm⟩ := SlV.shape hm
  generalize eMod s l ⟨op, L n, vals⟩ = r at *
  generalize tyLook (sound s) (L n) = t at *
  obtain ⟨⟨tn, ty, ts⟩, ok⟩ := t
  generalize eAtt s (L n) vals = ev at *
  obtain ⟨ex, ee⟩ := ev
  unfold tyV sv at hTy
  dsimp only at hTy hNo hex
  clear hT hC hA hgl h7 hLn hs hvx
  go_enter Tryz.func61, Tryz.ntmps61
  go_upto_region 1 with fail
  with_reducible refine gen2 (R := fun W => Code.wp Tryz.prog _ _ _ W) ?_
  intro W hbW hszW hc1 hc2
  have q0 : W.cell? ⟨w.heap.size, 0, none⟩ = some (.slice A1 s.types.length c1) := hc1 0 _ rfl
  have q1 : W.cell? ⟨w.heap.size, 1, none⟩ = some (.slice A2 s.classes.length c2) := hc1 1 _ rfl
  have m0 : W.cell? ⟨w.heap.size + 1, 0, none⟩ = some (.int .i64 op) := hc2 0 _ rfl
  have m1 : W.cell? ⟨w.heap.size + 1, 1, none⟩ = some (.string n) := hc2 1 _ rfl
  have m2 : W.cell? ⟨w.heap.size + 1, 2, none⟩ = some (.slice Am vals.length cm) := hc2 2 _ rfl
  clear hc1 hc2 hszW
  by_cases h13 : op < 1 ∨ 3 < op
  · have HF : Hid (r = ([], 2)) := by show _ = _; rw [HR.out, if_pos h13]
    have hI1 : (op != 1) = true := by rw [bne_iff_ne]; omega
    have hI2 : (op != 2) = true := by rw [bne_iff_ne]; omega
    have hI3 : (op != 3) = true := by rw [bne_iff_ne]; omega
    clear HR hTy hNo hRm hAd hRp h13
    go_wp2_with fail
    go_ret2
    exact ⟨_, [], by rw [HF.out] <;> rfl, AttRow.nil _ _, by rw [HF.out] <;> rfl, hbW⟩
  have HR2 : Hid (r = if !ok then ([], 6)
    else if ee != 0 then ([], ee)
    else if op = 2 then aRemove l (L n) ex
    else if op = 1 then (if 0 < ex.length then aAdd l (L n) ex else ([], 6))
    else aReplace l (L n) ex) := by show _ = _; rw [HR.out, if_neg h13]
  have hop : op = 1 ∨ op = 2 ∨ op = 3 := by omega
  clear HR h13
  rcases hop with rfl | rfl | rfl
  all_goals
    go_wp2_with fail
    refine (hTy W hbW).mono ?_
    rintro e w1 ⟨rfl, hb1⟩
    clear hTy
    go_upto_region 4 with fail
    with_reducible refine gen1 (R := fun W => Code.wp Tryz.prog _ _ _ W) ?_
    intro W2 hbW2 _ _ _
    have hb12 := hb1.trans (hbW2.mono hb1.size)
    have hbw2 := hbW.trans (hb12.mono hbW.size)
    replace q0 := cell_later hb12 q0
    replace q1 := cell_later hb12 q1
    replace m0 := cell_later hb12 m0
    replace m1 := cell_later hb12 m1
    replace m2 := cell_later hb12 m2
    clear hb1 hbW2 hb12
    cases ok
    · have HF : Hid (r = ([], 6)) := HR2.out
      clear HR2 hNo hRm hAd hRp
      go_wp2_with fail
      go_ret2
      exact ⟨_, [], by rw [HF.out] <;> rfl, AttRow.nil _ _, by rw [HF.out] <;> rfl, hbw2⟩
    go_wp2_with fail
    refine (hNo W2 hbw2).mono ?_
    rintro e w4 ⟨v3, rfl, hown3, hb3⟩
    obtain ⟨A3, c3, hv3⟩ := own_shape hown3
    subst hv3
    have hbw4 := hbw2.trans (hb3.mono hbw2.size)
    replace m0 := cell_later hb3 m0
    replace m1 := cell_later hb3 m1
    clear q0 q1 m2 hNo hbW
    by_cases hee : ee = 0
    case neg =>
      have hI : (ee != 0) = true := by simpa using hee
      have HF : Hid (r = ([], ee)) := by show _ = _; rw [HR2.out, hI]; rfl
      clear HR2 hRm hAd hRp hee hown3
      go_wp2_with fail
      go_ret2
      exact ⟨_, [], by rw [HF.out] <;> rfl, AttRow.nil _ _, by rw [HF.out] <;> rfl, hbw4⟩
    subst hee
    obtain ⟨hxl, hxx⟩ := hex (by first | rfl | trivial)
    have hS4 := StrsV.of_own hown3
    have hxl2 : ex.length ≤ 1048600 := by omega
    clear hex hxl hown3
    have kR := hRm w4 hbw4 _ ex hS4 hxl2
    have kA := hAd w4 hbw4 _ ex hS4 hxl2 hxx
    have kP := hRp w4 hbw4 _ ex hS4 hxl2 hxx
    clear hRm hAd hRp hS4
  · clear kR kP
    have HR3 : Hid (r = if 0 < ex.length then rAdd l (L n) ex else ([], 6)) := by show _ = _; rw [HR2.out, rAdd_eq]; rfl
    clear HR2
    by_cases hx0 : 0 < ex.length
    · have hI : ((ex.length : Int) == 0) = false := by rw [beq_eq_false_iff_ne]; omega
      have HF : Hid (r = rAdd l (L n) ex) := by show _ = _; rw [HR3.out, if_pos hx0]
      clear hx0
      clear HR3
      generalize rAdd l (L n) ex = fin at *
      go_wp2_with fail
      refine kA.mono ?_
      rintro e w5 ⟨v5, ps5, rfl, hats5, hps5, hb5⟩
      clear kA
      go_wp2
      go_ret2
      exact ⟨_, ps5, by rw [HF.out] <;> rfl, hats5.low hbw4.size, by rw [HF.out]; exact hps5, hbw4.trans (hb5.mono hbw4.size)⟩
    · have hI : ((ex.length : Int) == 0) = true := by rw [beq_iff_eq]; omega
      have HF : Hid (r = ([], 6)) := by show _ = _; rw [HR3.out, if_neg hx0]
      clear HR3 hx0 kA
      go_wp2_with fail
      go_ret2
      exact ⟨_, [], by rw [HF.out] <;> rfl, AttRow.nil _ _, by rw [HF.out] <;> rfl, hbw4⟩
  · clear kA kP
    have HR3 := 0
    have HF : Hid (r = rRemove l (L n) ex) := by show _ = _; rw [HR2.out, rRemove_eq]; rfl
    clear HR2
    clear HR3
    generalize rRemove l (L n) ex = fin at *
    go_wp2_with fail
    refine kR.mono ?_
    rintro e w5 ⟨v5, ps5, rfl, hats5, hps5, hb5⟩
    clear kR
    go_wp2
    go_ret2
    exact ⟨_, ps5, by rw [HF.out] <;> rfl, hats5.low hbw4.size, by rw [HF.out]; exact hps5, hbw4.trans (hb5.mono hbw4.size)⟩
  · clear kA kR
    have HR3 := 0
    have HF : Hid (r = rReplace l (L n) ex) := by show _ = _; rw [HR2.out, rReplace_eq]; rfl
    clear HR2
    clear HR3
    generalize rReplace l (L n) ex = fin at *
    go_wp2_with fail
    refine kP.mono ?_
    rintro e w5 ⟨v5, ps5, rfl, hats5, hps5, hb5⟩
    clear kP
    go_wp2
    go_ret2
    exact ⟨_, ps5, by rw [HF.out] <;> rfl, hats5.low hbw4.size, by rw [HF.out]; exact hps5, hbw4.trans (hb5.mono hbw4.size)⟩
end Go.Proofs.YtoopoglkeeoamaaGreatDoor
/- identityref08: Apply. -/
namespace Go.Proofs.YtoopoglkeeoamaaGreatDoor
open Go.RowKit Go.Sort
open Idn (L B Bs drop_L take_L size_L)
theorem r8_Apply_any (u : Value) (s : Idn.Sch) (n : ByteArray) (a : Value) (l : List Idn.Att) (mv : Value) (ms : List Md) (w : World) (hu : SchV w w.heap.size u s) (hs : SSm s) (hv : AttsV w w.heap.size a l) (hn : n.size ≤ 1000000000) (hsm : ASm l) (hs5 : ASm5 l) (hl6 : l.length ≤ 1000000) (hm : ModsV w w.heap.size mv ms) (hms : MBig ms) :
  Calls Tryz.prog 22 #[u, .agg #[.string n, a], mv] w (RetEv w (eApply s (L n) l ms)) := by
 have hV := fun W (hW : Below w.heap.size w W) => SchV.mono (SchV.keep hu hW) hW.size
 have hA := fun W (hW : Below w.heap.size w W) => AttsV.mono (AttsV.keep hv hW) hW.size
 have hNm := fun W (hW : Below w.heap.size w W) => r8_Normal_any u s n a l W (hV W hW) hs (hA W hW) hn hsm hs5
 have hMd := fun W (hW : Below w.heap.size w W) lv cur op (nm : ByteArray) vv vs k h1 h2 h3 h4 h5 h6 h7 => r8_apply_any u s lv cur op nm vv vs k W (hV W hW) hs h1 h2 h3 h4 h5 h6 h7
 have hVd := fun W (hW : Below w.heap.size w W) nm va q h1 h2 h3 h4 => r_Valid_any u s nm va q W (hV W hW) hs h1 h2 h3 h4
 have hSm := fun W (hW : Below w.heap.size w W) (nm : ByteArray) va q rr hrr (h1 : AttsV W W.heap.size va q) h2 h3 => r8_Same_any nm n va a q l rr hrr W h1 (hA W hW) h2 (by omega) h3 (fun x hx => (hsm.2 x hx).2.1)
 have hfit := fun x h => fit_start (s := s) (n := L n) (l := l) (x := x) h
 have HR := Lib.hid (eApply_unf s (L n) l ms)
 obtain ⟨au, bu, rfl, hT, hC⟩ := hu
 obtain ⟨A1, c1, rfl, _⟩ := SlV.shape hT
 obtain ⟨A2, c2, rfl, _⟩ := SlV.shape hC
 obtain ⟨A, c, rfl, hc⟩ := SlV.shape hv
 obtain ⟨Am, cm, rfl, hcm⟩ := SlV.shape hm
 generalize eApply s (L n) l ms = r at *
 generalize eNormal s (L n) l = nr at *
 obtain ⟨⟨nN, nL⟩, nE⟩ := nr
 clear hT hC hV hA hs hsm hs5 hl6
 go_enter Tryz.func22, Tryz.ntmps22
 go_upto_region 1 with fail
 with_reducible refine gen3 (R := fun W => Code.wp Tryz.prog _ _ _ W) ?_
 intro W hbW hszW hc1 hc2 hc3 hfz
 have q0 : W.cell? ⟨w.heap.size, 0, none⟩ = some (.slice A1 s.types.length c1) := hc1 0 _ rfl
 have q1 : W.cell? ⟨w.heap.size, 1, none⟩ = some (.slice A2 s.classes.length c2) := hc1 1 _ rfl
 have e0 : W.cell? ⟨w.heap.size + 1, 0, none⟩ = some (.string n) := hc2 0 _ rfl
 have e1 : W.cell? ⟨w.heap.size + 1, 1, none⟩ = some (.slice A l.length c) := hc2 1 _ rfl
 have z0 : W.cell? ⟨w.heap.size + 1 + 1, 0, none⟩ = some (.string ⟨#[]⟩) := hc3 0 _ rfl
 have z1 : W.cell? ⟨w.heap.size + 1 + 1, 1, none⟩ = some (.slice none 0 0) := hc3 1 _ rfl
 have g0 := hfz 0
 have g1 := hfz 1
 have hzW : w.heap.size + 1 + 1 < W.heap.size := by omega
 have hzz : w.heap.size ≤ w.heap.size + 1 + 1 := by omega
 clear hc1 hc2 hc3 hfz hszW
 go_wp2_with fail
 refine (hNm W hbW).mono ?_
 rintro e w1 ⟨v1, ps1, rfl, hrow1, hps1, hb1⟩
 dsimp only at hps1
 have hats1 := hrow1.atts hps1
 obtain ⟨A1', c1', hv1, _⟩ := SlV.shape hats1
 subst hv1
 have hws1 := hb1.size
 replace q0 := cell_later hb1 q0
 replace q1 := cell_later hb1 q1
 replace e0 := cell_later hb1 e0
 replace e1 := cell_later hb1 e1
 replace z0 := cell_later hb1 z0
 replace z1 := cell_later hb1 z1
 replace g0 := (hb1.frozen (p := ⟨w.heap.size + 1 + 1, 0, none⟩) hzW).trans g0
 replace g1 := (hb1.frozen (p := ⟨w.heap.size + 1 + 1, 1, none⟩) hzW).trans g1
 have hzW1 : w.heap.size + 1 + 1 < w1.heap.size := by omega
 have hbw1 := hbW.trans (hb1.mono hbW.size)
 clear hNm hbW hb1
 go_upto_region 2 with fail
 with_reducible refine gen1 (R := fun W => Code.wp Tryz.prog _ _ _ W) ?_
 intro W2 hbW2 hszW2 hc2 _
 have p0 : W2.cell? ⟨w1.heap.size, 0, none⟩ = some (.string (B nN)) := hc2 0 _ rfl
 have p1 : W2.cell? ⟨w1.heap.size, 1, none⟩ = some (.slice A1' nL.length c1') := hc2 1 _ rfl
 replace q0 := cell_later hbW2 q0
 replace q1 := cell_later hbW2 q1
 replace e0 := cell_later hbW2 e0
 replace e1 := cell_later hbW2 e1
 replace z0 := cell_later hbW2 z0
 replace z1 := cell_later hbW2 z1
 replace g0 := (hbW2.frozen (p := ⟨w.heap.size + 1 + 1, 0, none⟩) hzW1).trans g0
 replace g1 := (hbW2.frozen (p := ⟨w.heap.size + 1 + 1, 1, none⟩) hzW1).trans g1
 have hbw2 := hbw1.trans (hbW2.mono hbw1.size)
 have hats2 := AttsV.mono (AttsV.keep hats1 hbW2) hbW2.size
 have hWW2 : W.heap.size ≤ W2.heap.size := Nat.le_trans hws1 hbW2.size
 have hrow2 := hrow1.keep hbW2
 have hzW2 : w.heap.size + 1 + 1 < W2.heap.size := by omega
 clear hc2 hszW2 hbW2 hats1 hrow1
 by_cases hnE : nE = 0
 case neg =>
  have hI : (nE != 0) = true := by simpa using hnE
  have HF : Hid (r = (([], []), 2)) := by show _ = _; rw [HR.out]; rw [hI]; rfl
  clear HR hnE hMd hVd hSm hfit hats2 hrow2 hps1
  go_wp2_with fail
  exact bodyPost_ret (v := .tuple #[.agg #[.string ⟨#[]⟩, .slice none 0 0], .int .i64 2]) (by simp [results, Tryz.results22, go_sem, z0, z1, g0, g1]) rfl ⟨_, [], by rw [HF.out] <;> rfl, AttRow.nil _ _, by rw [HF.out] <;> rfl, (hbw2.setCell (p := ⟨w.heap.size + 1 + 1, 0, none⟩) hzz _).setCell (p := ⟨w.heap.size + 1 + 1, 1, none⟩) hzz _⟩
 subst hnE
 have hfit1 : Fit 32 nL := hfit _ rfl
 clear hfit
 obtain ⟨b, hbb⟩ : ∃ b : Bool, b = true ↔ L (B nN) = L n ∧ nL = l := by
  by_cases h : L (B nN) = L n ∧ nL = l
  ·exact ⟨true, fun _ => h, fun _ => rfl⟩
  ·exact ⟨false, fun e => (by cases e), fun e => absurd e h⟩
 have HBB := Lib.hid hbb
 have hSa := hSm W2 hbw2 (B nN) _ nL b hbb hats2 (by have := hfit1.2.1; omega) (fun x hx => by have := (hfit1.2.2 x hx).2.1; omega)
 clear hSm hbb
 go_wp2_with fail
 refine hSa.mono ?_
 rintro e w3 ⟨rfl, hb3⟩
 have hbb := HBB.out
 clear HBB
 have hbw3 := hbw2.trans (hb3.mono hbw2.size)
 have hws3 := hb3.size
 have hWw3 : W.heap.size ≤ w3.heap.size := by omega
 replace q0 := cell_later hb3 q0
 replace q1 := cell_later hb3 q1
 replace p0 := cell_later hb3 p0
 replace p1 := cell_later hb3 p1
 replace z0 := cell_later hb3 z0
 replace z1 := cell_later hb3 z1
 replace g0 := (hb3.frozen (p := ⟨w.heap.size + 1 + 1, 0, none⟩) hzW2).trans g0
 replace g1 := (hb3.frozen (p := ⟨w.heap.size + 1 + 1, 1, none⟩) hzW2).trans g1
 have hats3 := AttsV.mono (AttsV.keep hats2 hb3) hb3.size
 have HROW3 : Hid (∃ ps, AttRow w3 W.heap.size (.slice A1' nL.length c1') ps ∧ ps.map (·.1) = nL) := ⟨ps1, hrow2.keep hb3, hps1⟩
 have hzW3 : w.heap.size + 1 + 1 < w3.heap.size := by omega
 clear hSa e0 e1 hats2 hzW2 hb3 hbw2 hbw1 hrow2 hps1
 rw [Idn.L_B] at hbb
 cases b
 case false =>
  have hne : (!decide (nN = L n) || !sameV nL l) = true := by
   by_cases h1 : nN = L n
   ·have h2 : sameV nL l = false := by
     cases h : sameV nL l
     ·rfl
     ·have := hbb.2 ⟨h1, sameV_eq h⟩; cases this
    rw [h2]; simp
   ·rw [decide_eq_false h1]; rfl
  have HF : Hid (r = (([], []), 2)) := by show _ = _; rw [HR.out]; (try dsimp only); rw [hne]; simp
  clear HR hbb hMd hVd hats3 hne
  go_wp2_with fail
  exact bodyPost_ret (v := .tuple #[.agg #[.string ⟨#[]⟩, .slice none 0 0], .int .i64 2]) (by simp [results, Tryz.results22, go_sem, z0, z1, g0, g1]) rfl ⟨_, [], by rw [HF.out] <;> rfl, AttRow.nil _ _, by rw [HF.out] <;> rfl, (hbw3.setCell (p := ⟨w.heap.size + 1 + 1, 0, none⟩) hzz _).setCell (p := ⟨w.heap.size + 1 + 1, 1, none⟩) hzz _⟩
 have hll := hbb.1 rfl
 have HR2 : Hid (r = if 32 < ms.length then (([], []), 3)
  else if (eModsK s l ms).2 != 0 then (([], []), (eModsK s l ms).2)
  else if sValid s (eModsK s l ms).1 != 0 then (([], []), sValid s (eModsK s l ms).1) else ((L n, (eModsK s l ms).1), 0)) := by
  show _ = _
  rw [HR.out]
  rw [hll.2, sameV_refl, hll.1]; simp
 have HL := Lib.hid hll
 clear HR hbb hll
 by_cases h32 : 32 < ms.length
 ·have hI : (32 : Int) < (ms.length : Int) := by omega
  have HF : Hid (r = (([], []), 3)) := by show _ = _; rw [HR2.out, if_pos h32]
  clear HR2 h32 hMd hVd hats3
  go_wp2_with fail
  exact bodyPost_ret (v := .tuple #[.agg #[.string ⟨#[]⟩, .slice none 0 0], .int .i64 3]) (by simp [results, Tryz.results22, go_sem, z0, z1, g0, g1]) rfl ⟨_, [], by rw [HF.out] <;> rfl, AttRow.nil _ _, by rw [HF.out] <;> rfl, (hbw3.setCell (p := ⟨w.heap.size + 1 + 1, 0, none⟩) hzz _).setCell (p := ⟨w.heap.size + 1 + 1, 1, none⟩) hzz _⟩
 have hI : ¬ (32 : Int) < (ms.length : Int) := by omega
 have HR3 : Hid (r = if (eModsK s l ms).2 != 0 then (([], []), (eModsK s l ms).2)
  else if sValid s (eModsK s l ms).1 != 0 then (([], []), sValid s (eModsK s l ms).1) else ((L n, (eModsK s l ms).1), 0)) := by show _ = _; rw [HR2.out, if_neg h32]
 have HFit := Lib.hid hfit1
 have HQ3 := Lib.hid hats3
 clear HR2 hfit1 hats3
 go_wp2_with fail
 go_loopw [10, 11] (fun av i wr => ∃ (k : Nat) (xs : List Idn.Att), k ≤ ms.length ∧ i = .int .i64 k ∧ AttsV wr wr.heap.size av xs ∧ Below w3.heap.size w3 wr ∧ Hid (eModsK s l ms = eModsK s xs (ms.drop k)) ∧ Hid (Fit (32 + k) xs) ∧ (∃ ps, AttRow wr W.heap.size av ps ∧ ps.map (·.1) = xs)) (fun _ i _ => ms.length - (intOf i).toNat)
 case atStart => exact ⟨0, nL, Nat.zero_le _, rfl, HQ3.out, Below.refl _ _, by show _ = _; rw [HL.out.2]; simp, by show Fit _ _; exact HFit.out, HROW3.out⟩
 case round =>
  obtain ⟨k, xs, hk, rfl, hats, hb, hinv, hfx, hrw⟩ := hrel
  obtain ⟨Ax, cx, hav, _⟩ := SlV.shape hats
  subst hav
  have HRW := Lib.hid hrw
  have hbw := hbw3.trans (hb.mono hbw3.size)
  have hwr := hb.size
  have hWr : W.heap.size ≤ wr.heap.size := by omega
  replace q0 := cell_later hb q0
  replace q1 := cell_later hb q1
  replace p0 := cell_later hb p0
  replace p1 := cell_later hb p1
  replace z0 := cell_later hb z0
  replace z1 := cell_later hb z1
  replace g0 := (hb.frozen (p := ⟨w.heap.size + 1 + 1, 0, none⟩) hzW3).trans g0
  replace g1 := (hb.frozen (p := ⟨w.heap.size + 1 + 1, 1, none⟩) hzW3).trans g1
  have hzr : w.heap.size + 1 + 1 < wr.heap.size := by omega
  obtain ⟨wo, hwo⟩ : ∃ wo : World, wo = wr := ⟨_, rfl⟩
  subst hwo
  clear hrw
  by_cases hlt : k < ms.length
  ·obtain ⟨bm, om, vk, hAm, hbk, d0, d1, d2, hvk⟩ := ModsV.cell (ModsV.keep hm hbw) hlt
   subst hAm
   obtain ⟨Ak, ck2, rfl, hck2⟩ := SlV.shape hvk
   have hltI : (k : Int) < (ms.length : Int) := by omega
   obtain ⟨y1, y2, y3⟩ := hms ms[k] (List.getElem_mem hlt)
   obtain ⟨t1, t2⟩ := eModsK_step s ms k hlt _ _ hinv.out
   have T1 := Lib.hid t1
   have T2 := Lib.hid t2
   have hfn := fun r (hq9 : eMod s xs ms[k] = (r, 0)) => eMod_fit hfx.out hq9
   have hk90 : 32 + k ≤ 90 := by omega
   have hdr : Below wo.heap.size wo wo.drew := (Below.refl _ _).drew
   have hbwd := hbw.trans (hdr.mono hbw.size)
   have hM := hMd wo.drew hbwd (.slice Ax xs.length cx) xs ms[k].op (B ms[k].name) (.slice Ak ms[k].vals.length ck2) ms[k].vals (32 + k) (AttsV.mono (AttsV.keep hats hdr) hdr.size) (SlV.mono (SlV.keep hvk (hdr.mono hbw.size)) hbwd.size) hfx.out hk90 (by rw [Idn.size_B]; exact y1) y2 y3
   rw [Idn.L_B] at hM
   have hM' : Calls Tryz.prog 61 _ wo.drew (RetAv wo.drew (eMod s xs ms[k])) := hM
   have q0d : wo.drew.cell? ⟨w.heap.size, 0, none⟩ = some (.slice A1 s.types.length c1) := q0
   have q1d : wo.drew.cell? ⟨w.heap.size, 1, none⟩ = some (.slice A2 s.classes.length c2) := q1
   have z0d : wo.drew.cell? ⟨w.heap.size + 1 + 1, 0, none⟩ = some (.string ⟨#[]⟩) := z0
   have z1d : wo.drew.cell? ⟨w.heap.size + 1 + 1, 1, none⟩ = some (.slice none 0 0) := z1
   have g0d : wo.drew.frozen? ⟨w.heap.size + 1 + 1, 0, none⟩ = false := g0
   have g1d : wo.drew.frozen? ⟨w.heap.size + 1 + 1, 1, none⟩ = false := g1
   have d0d : wo.drew.cell? ⟨bm, om + k * 3, none⟩ = some (.int .i64 ms[k].op) := d0
   have d1d : wo.drew.cell? ⟨bm, om + k * 3 + 1, none⟩ = some (.string (B ms[k].name)) := d1
   have d2d : wo.drew.cell? ⟨bm, om + k * 3 + 2, none⟩ = some (.slice Ak ms[k].vals.length ck2) := d2
   have hzd : w.heap.size + 1 + 1 < wo.drew.heap.size := hzr
   clear hM hMd t1 t2 hinv hVd hbk hvk hfx y1 y2 y3 hats
   generalize eMod s xs ms[k] = er at *
   obtain ⟨eL, eE⟩ := er
   go_wp2_with fail
   clear d0 d1 d2 q0 q1 z0 z1 g0 g1 p0 p1
   go_region_law (
    go_simp
    go_at_call 61
    refine hM'.mono ?_
    rintro e w7 ⟨v7, ps7, rfl, hrow7, hps7, hb7⟩
    obtain ⟨A7, c7, hv7, _⟩ := SlV.shape (hrow7.atts hps7)
    subst hv7
    go_wp2_with fail)
   all_goals
    have hbw7 := hbwd.trans (hb7.mono hbwd.size)
    have z0 := cell_later hb7 z0d
    have z1 := cell_later hb7 z1d
    have g0 := (hb7.frozen (p := ⟨w.heap.size + 1 + 1, 0, none⟩) hzd).trans g0d
    have g1 := (hb7.frozen (p := ⟨w.heap.size + 1 + 1, 1, none⟩) hzd).trans g1d
    by_cases hee : eE = 0
    case neg =>
     have hI9 : (eE != 0) = true := by simpa using hee
     have HM := T1.out hee
     have HF : Hid (r = (([], []), eE)) := by show _ = _; rw [HR3.out, HM]; (try dsimp only); rw [hI9]; rfl
     clear T1 T2 HR3 hfn hrow7 hps7 hee HM
     go_wp2_with fail
     exact bodyPost_ret (v := .tuple #[.agg #[.string ⟨#[]⟩, .slice none 0 0], .int .i64 eE]) (by simp [results, Tryz.results22, go_sem, z0, z1, g0, g1]) rfl ⟨_, [], by rw [HF.out] <;> rfl, AttRow.nil _ _, by rw [HF.out] <;> rfl, (hbw7.setCell (p := ⟨w.heap.size + 1 + 1, 0, none⟩) hzz _).setCell (p := ⟨w.heap.size + 1 + 1, 1, none⟩) hzz _⟩
    subst hee
    have HE : Hid (eModsK s l ms = eModsK s eL (ms.drop (k + 1))) := T2.out rfl
    have HFN : Hid (Fit (32 + (k + 1)) eL) := hfn _ rfl
    have hats7 := hrow7.atts hps7
    have HROW : Hid (∃ ps, AttRow w7 W.heap.size (.slice A7 eL.length c7) ps ∧ ps.map (·.1) = eL) := ⟨ps7, hrow7.low hWr, hps7⟩
    have hb07 := hb.trans ((hdr.trans hb7).mono hwr)
    clear hfn T1 T2 hrow7 hps7
    go_wp2_with fail
    go_roundw
    case rel => exact ⟨k + 1, eL, by omega, by go_num, hats7, hb07, HE.out, HFN.out, HROW.out⟩
    case measure => simp [intOf]; omega
  ·have hltI : ¬ (k : Int) < (ms.length : Int) := by omega
   have HEX : eModsK s l ms = (xs, 0) := by rw [hinv.out, List.drop_eq_nil_of_le (by omega)]; rfl
   obtain ⟨hq1, hq2⟩ := hfx.out.asm (by omega)
   have hq3 := hfx.out.asm7 (by omega)
   have HR4 : Hid (r = if sValid s xs != 0 then (([], []), sValid s xs) else ((L n, xs), 0)) := by show _ = _; rw [HR3.out, HEX]; rfl
   have hVl := fun W (hW : Below wo.heap.size wo W) => hVd W (hbw.trans (hW.mono hbw.size)) (B nN) _ xs (AttsV.mono (AttsV.keep hats hW) hW.size) hq1 hq2 hq3
   generalize sValid s xs = se at *
   obtain ⟨psE, hrowE, hpsE⟩ := HRW.out
   clear hinv HEX hfx HR3 hVd hMd hq1 hq2 hq3 hats HRW
   go_upto_region 15 with fail
   with_reducible refine gen1 (R := fun W => Code.wp Tryz.prog _ _ _ W) ?_
   intro W9 hbW9 hszW9 hc9 _
   have f0 : W9.cell? ⟨wo.heap.size, 0, none⟩ = some (.string (B nN)) := hc9 0 _ rfl
   have f1 : W9.cell? ⟨wo.heap.size, 1, none⟩ = some (.slice Ax xs.length cx) := hc9 1 _ rfl
   replace q0 := cell_later hbW9 q0
   replace q1 := cell_later hbW9 q1
   replace z0 := cell_later hbW9 z0
   replace z1 := cell_later hbW9 z1
   replace g0 := (hbW9.frozen (p := ⟨w.heap.size + 1 + 1, 0, none⟩) hzr).trans g0
   replace g1 := (hbW9.frozen (p := ⟨w.heap.size + 1 + 1, 1, none⟩) hzr).trans g1
   have hrow9 := hrowE.keep hbW9
   have hbw9 := hbw.trans (hbW9.mono hbw.size)
   have hz9 : w.heap.size + 1 + 1 < W9.heap.size := by omega
   have hV9 := hVl W9 hbW9
   clear hVl hrowE hbW9 hc9 hszW9 p0 p1
   go_wp2_with fail
   refine hV9.mono ?_
   rintro e w12 ⟨rfl, hb12⟩
   replace z0 := cell_later hb12 z0
   replace z1 := cell_later hb12 z1
   replace f0 := cell_later hb12 f0
   replace f1 := cell_later hb12 f1
   replace g0 := (hb12.frozen (p := ⟨w.heap.size + 1 + 1, 0, none⟩) hz9).trans g0
   replace g1 := (hb12.frozen (p := ⟨w.heap.size + 1 + 1, 1, none⟩) hz9).trans g1
   have hbw12 := hbw9.trans (hb12.mono hbw9.size)
   have hA12 := hrow9.keep hb12
   clear hV9 q0 q1 hrow9 hb12
   by_cases hse : se = 0
   ·subst hse
    have HF : Hid (r = ((L n, xs), 0)) := by show _ = _; rw [HR4.out]; rfl
    have hfin : AttRow ((w12.setCell ⟨w.heap.size + 1 + 1, 0, none⟩ (.string (B nN))).setCell ⟨w.heap.size + 1 + 1, 1, none⟩ (.slice Ax xs.length cx)) W.heap.size (.slice Ax xs.length cx) psE := by
     have hx : ∀ (W' : World) (j : Nat) (x : Value), AttRow W' W.heap.size (.slice Ax xs.length cx) psE → AttRow (W'.setCell ⟨w.heap.size + 1 + 1, j, none⟩ x) W.heap.size (.slice Ax xs.length cx) psE := fun W' j x h =>
      ⟨ownsRow_setCell_other (a := ⟨w.heap.size + 1 + 1, j, none⟩) h.1 (fun e => by have := (h.1.lt (w.heap.size + 1 + 1) e).1; omega) _, fun p hp => ownsRow_setCell_other (a := ⟨w.heap.size + 1 + 1, j, none⟩) (h.2 p hp) (fun e => by have := ((h.2 p hp).lt (w.heap.size + 1 + 1) e).1; omega) _⟩
     exact hx _ 1 _ (hx _ 0 _ hA12)
    have HFIN := Lib.hid hfin
    have HPSE := Lib.hid hpsE
    clear HR4 hA12 hfin hpsE
    go_wp2_with fail
    exact bodyPost_ret (v := .tuple #[.agg #[.string (B nN), .slice Ax xs.length cx], .int .i64 0]) (by simp [results, Tryz.results22, go_sem, z0, z1, g0, g1]) rfl ⟨_, psE, by rw [HF.out, HL.out.1], HFIN.out.low (by omega), by rw [HF.out]; exact HPSE.out, (hbw12.setCell (p := ⟨w.heap.size + 1 + 1, 0, none⟩) hzz _).setCell (p := ⟨w.heap.size + 1 + 1, 1, none⟩) hzz _⟩
   ·have hI9 : (se != 0) = true := by simpa using hse
    have HF : Hid (r = (([], []), se)) := by show _ = _; rw [HR4.out, if_pos hI9]
    clear HR4 hA12 hse hpsE
    go_wp2_with fail
    exact bodyPost_ret (v := .tuple #[.agg #[.string ⟨#[]⟩, .slice none 0 0], .int .i64 se]) (by simp [results, Tryz.results22, go_sem, z0, z1, g0, g1]) rfl ⟨_, [], by rw [HF.out] <;> rfl, AttRow.nil _ _, by rw [HF.out] <;> rfl, (hbw12.setCell (p := ⟨w.heap.size + 1 + 1, 0, none⟩) hzz _).setCell (p := ⟨w.heap.size + 1 + 1, 1, none⟩) hzz _⟩
end Go.Proofs.YtoopoglkeeoamaaGreatDoor
