/- Part 49 of the proof that the statement EntryNormals of identitylaw08 returns true at every argument of bulk at most 1048576: the package variables hold what the program lays; nothing else is asked. -/
import Derived.Test.YtoopoglkeeoamaaGreatDoorEnm22
import Derived.Test.YtoopoglkeeoamaaGreatDoorEnm33
import Derived.Test.YtoopoglkeeoamaaGreatDoorEnm41
import Derived.Test.YtoopoglkeeoamaaGreatDoorEnm42
import Derived.Test.YtoopoglkeeoamaaGreatDoorEnm43
import Derived.Test.YtoopoglkeeoamaaGreatDoorEnm44
import Derived.Test.YtoopoglkeeoamaaGreatDoorEnm46
import Derived.Test.YtoopoglkeeoamaaGreatDoorEnm47
set_option linter.unusedVariables false
set_option linter.unusedSimpArgs false
/- identityref08: Normal. -/
namespace Go.Proofs.YtoopoglkeeoamaaGreatDoor
open Go.RowKit Go.Sort
open Idn (L B Bs drop_L take_L size_L)
/-- an entry that reads, and an error -/
def RetEv (w : World) (r : En × Int) (e : Ending) (w' : World) : Prop :=
  ∃ a, e = .returned (.tuple #[.agg #[.string (B r.1.1), a], .int .i64 r.2]) ∧ AttsV w' w'.heap.size a r.1.2 ∧ Below w.heap.size w w'
theorem lastV_take (l : List Idn.Att) (n : Bs) (k : Nat) (hk : k < l.length) : Idn.lastV (l.take (k + 1)) n = if Idn.lower l[k].name = n then l[k].vals else Idn.lastV (l.take k) n := by
  unfold Idn.lastV
  rw [List.take_succ_eq_append_getElem hk, List.foldl_append]; rfl
theorem lastV_all {p : List Bs → Prop} (h0 : p []) (n : Bs) : ∀ (l : List Idn.Att) (acc : List Bs), p acc → (∀ a ∈ l, p a.vals) → p (l.foldl (fun acc a => if Idn.lower a.name = n then a.vals else acc) acc)
  | [], _, h, _ => h
  | a :: l, acc, h, hl => by
    rw [List.foldl_cons]
    refine lastV_all h0 n l _ ?_ fun b hb => hl b (List.mem_cons_of_mem _ hb)
    split
    · exact hl a List.mem_cons_self
    · exact h
theorem eAtt_ok {s : Idn.Sch} {n : Bs} {l : List Bs} (h : (eAtt s n l).2 = 0) : (eAtt s n l).1.length = l.length ∧ ∀ x ∈ (eAtt s n l).1, x.length ≤ 256 := by
  unfold eAtt at h ⊢
  split at h
  · rename_i h1; exact absurd h (by simpa using h1)
  · rename_i h1
    rw [if_neg h1]
    split at h
    · cases h
    · rename_i h2
      rw [if_neg h2]
      exact eVals_ok (by simpa using h1)
theorem eAttsK_at (s : Idn.Sch) (l : List Idn.Att) (k : Nat) (hk : k < l.length) (acc : List Idn.Att) (r : List Idn.Att × Int) (h : r = eAttsK s acc (l.drop k)) :
    ((eAtt s l[k].name l[k].vals).2 ≠ 0 → r = ([], (eAtt s l[k].name l[k].vals).2)) ∧ ((eAtt s l[k].name l[k].vals).2 = 0 → r = eAttsK s (acc ++ [⟨l[k].name, (eAtt s l[k].name l[k].vals).1⟩]) (l.drop (k + 1))) := by
  rw [List.drop_eq_getElem_cons hk, eAttsK] at h
  exact ⟨fun a => by rw [h, if_pos (by simpa using a)], fun a => by rw [h, if_neg (by simpa using a)]⟩
def named (l : List Idn.Att) (ns : List Bs) : List Idn.Att := ns.map fun n => ⟨n, Idn.lastV l n⟩
theorem named_at (l : List Idn.Att) (ns : List Bs) (k : Nat) (h : k < ns.length) : ∃ h' : k < (named l ns).length, (named l ns)[k] = ⟨ns[k], Idn.lastV l ns[k]⟩ := ⟨by unfold named; simpa using h, by unfold named; simp⟩
theorem rENormal_unf (s : Idn.Sch) (n : Bs) (l : List Idn.Att) : eNormal s n l = if (Idn.cleanN n).2 != 0 || (Idn.cleanN n).1.isEmpty then (([], []), 5)
  else if Idn.aCheck l != 0 then (([], []), Idn.aCheck l)
  else if (eAttsK s [] (named l (Idn.insAll (Idn.lows l)))).2 != 0 then (([], []), (eAttsK s [] (named l (Idn.insAll (Idn.lows l)))).2)
  else if sValid s (Idn.rSorted (eAttsK s [] (named l (Idn.insAll (Idn.lows l)))).1) != 0 then (([], []), sValid s (Idn.rSorted (eAttsK s [] (named l (Idn.insAll (Idn.lows l)))).1)) else (((Idn.cleanN n).1, Idn.rSorted (eAttsK s [] (named l (Idn.insAll (Idn.lows l)))).1), 0) := (rENormal_eq s n l).symm
theorem rSorted_names (l : List Idn.Att) : (Idn.rSorted l).map (·.name) = Idn.insAll (Idn.lows l) := by
  unfold Idn.rSorted
  rw [List.map_map]
  exact List.map_id _
theorem rSorted_sm {l : List Idn.Att} (hl : l.length ≤ 32) (h : ∀ a ∈ l, a.vals.length ≤ 16 ∧ a.name.length ≤ 1000000000 ∧ ∀ x ∈ a.vals, x.length ≤ 256) : ASm (Idn.rSorted l) ∧ ASm5 (Idn.rSorted l) ∧ Idn.ASm7 (Idn.rSorted l) := by
  have hlen := rSorted_len l
  have key : ∀ a ∈ Idn.rSorted l, a.name.length ≤ 1000000000 ∧ a.vals.length ≤ 1000 ∧ ∀ x ∈ a.vals, x.length ≤ 256 := fun a ha => by
    unfold Idn.rSorted at ha
    obtain ⟨n, hn, rfl⟩ := List.mem_map.1 ha
    refine ⟨?_, ?_, fun x hx => ?_⟩
    · rw [Idn.insAll_mem] at hn
      unfold Idn.lows at hn
      obtain ⟨b, hb, rfl⟩ := List.mem_map.1 hn
      show (Idn.lower b.name).length ≤ _
      rw [Idn.length_lower]
      exact (h b (List.mem_filter.1 hb).1).2.1
    · show (Idn.insAll (Idn.valsOf l n)).length ≤ _
      have h1 := insAll_len (Idn.valsOf l n)
      have h2 := vals_len (l := l) (c := 16) (fun a ha => (h a ha).1) n
      have h3 : l.length * 16 ≤ 32 * 16 := Nat.mul_le_mul_right _ hl
      omega
    · have hx' : x ∈ Idn.insAll (Idn.valsOf l n) := hx
      rw [Idn.insAll_mem] at hx'
      unfold Idn.valsOf at hx'
      obtain ⟨b, hb, hx'⟩ := List.mem_flatMap.1 hx'
      exact (h b (List.mem_filter.1 hb).1).2.2 x hx'
  refine ⟨⟨by omega, fun a ha => ⟨(key a ha).1, by have := (key a ha).2.1; omega, fun x hx => by have := (key a ha).2.2 x hx; omega⟩⟩, fun a ha => ⟨(key a ha).1, fun x hx => by have := (key a ha).2.2 x hx; omega⟩, ⟨by omega, fun a ha => ⟨(key a ha).1, by have := (key a ha).2.1; omega, fun x hx => by have := (key a ha).2.2 x hx; omega⟩⟩⟩
set_option maxHeartbeats 8000000 in
set_option maxRecDepth 100000 in
theorem r8_Normal_any (u : Value) (s : Idn.Sch) (n : ByteArray) (a : Value) (l : List Idn.Att) (w : World) (hu : SchV w w.heap.size u s) (hs : SSm s) (hv : AttsV w w.heap.size a l) (hn : n.size ≤ 1000000000) (hsm : ASm l) (hs5 : ASm5 l) :
    Calls Tryz.prog 18 #[u, .agg #[.string n, a]] w (RetEv w (eNormal s (L n) l)) := by
  have hV := fun W (hW : Below w.heap.size w W) => SchV.mono (SchV.keep hu hW) hW.size
  have hA := fun W (hW : Below w.heap.size w W) => AttsV.mono (AttsV.keep hv hW) hW.size
  have hCl := fun W => r5_Clean_any n W hn
  have hCk := fun W (hW : Below w.heap.size w W) => r6_Check_any a l W (hA W hW) hsm
  have hNa := fun h7 W (hW : Below w.heap.size w W) => r6_Names_any a l W (hA W hW) h7
  have hNo := fun W (hW : Below w.heap.size w W) (an : ByteArray) v vs h1 h2 h3 h4 => r8_normals_any u s an v vs W (hV W hW) hs h1 h2 h3 h4
  have hVd := fun W (hW : Below w.heap.size w W) nm va q h1 h2 h3 h4 => r_Valid_any u s nm va q W (hV W hW) hs h1 h2 h3 h4
  obtain ⟨au, bu, rfl, hT, hC⟩ := hu
  obtain ⟨A1, c1, rfl, _⟩ := SlV.shape hT
  obtain ⟨A2, c2, rfl, _⟩ := SlV.shape hC
  obtain ⟨A, c, rfl, hc⟩ := SlV.shape hv
  have HR := Lib.hid (rENormal_unf s (L n) l)
  generalize eNormal s (L n) l = r at *
  generalize Idn.cleanN (L n) = cn at *
  obtain ⟨cN, cE⟩ := cn
  have hem : (B cN).toList.isEmpty = cN.isEmpty := by rw [toList_L, Idn.L_B]
  have hck := fun h => Idn.aCheck_all (l := l) h
  have hck2 := fun h => aCheck_zero (l := l) h
  rw [rSorted_names] at hNa
  have hnlen := Nat.le_trans (insAll_len (Idn.lows l)) (lows_len l)
  have hnm : ∀ x ∈ Idn.insAll (Idn.lows l), x.length ≤ 1000000000 := fun x hx => by
    rw [Idn.insAll_mem] at hx
    unfold Idn.lows at hx
    obtain ⟨b, hb, rfl⟩ := List.mem_map.1 hx
    rw [Idn.length_lower]
    exact (hs5 b (List.mem_filter.1 hb).1).1
  generalize Idn.aCheck l = ck at *
  generalize Idn.insAll (Idn.lows l) = NL at *
  dsimp only at hCl
  clear hT hC
  go_enter Tryz.func18, Tryz.ntmps18
  go_upto_region 1 with fail
  with_reducible refine gen3 (R := fun W => Code.wp Tryz.prog _ _ _ W) ?_
  intro W hbW hszW hc1 hc2 hc3 hfz
  have q0 : W.cell? ⟨w.heap.size, 0, none⟩ = some (.slice A1 s.types.length c1) := hc1 0 _ rfl
  have q1 : W.cell? ⟨w.heap.size, 1, none⟩ = some (.slice A2 s.classes.length c2) := hc1 1 _ rfl
  have e0 : W.cell? ⟨w.heap.size + 1, 0, none⟩ = some (.string n) := hc2 0 _ rfl
  have e1 : W.cell? ⟨w.heap.size + 1, 1, none⟩ = some (.slice A l.length c) := hc2 1 _ rfl
  have z0 : W.cell? ⟨w.heap.size + 1 + 1, 0, none⟩ = some (.string ⟨#[]⟩) := hc3 0 _ rfl
  have z1 : W.cell? ⟨w.heap.size + 1 + 1, 1, none⟩ = some (.slice none 0 0) := hc3 1 _ rfl
  have g0 := hfz 0
  have g1 := hfz 1
  have hzW : w.heap.size + 1 + 1 < W.heap.size := by omega
  have hzz : w.heap.size ≤ w.heap.size + 1 + 1 := by omega
  clear hc1 hc2 hc3 hfz hszW
  go_wp2_with fail
  refine (hCl W).mono ?_
  rintro e w1 ⟨rfl, hb1⟩
  have hbw1 := hbW.trans (hb1.mono hbW.size)
  have hws1 := hb1.size
  replace q0 := cell_later hb1 q0
  replace q1 := cell_later hb1 q1
  replace e1 := cell_later hb1 e1
  replace z0 := cell_later hb1 z0
  replace z1 := cell_later hb1 z1
  replace g0 := (hb1.frozen (p := ⟨w.heap.size + 1 + 1, 0, none⟩) hzW).trans g0
  replace g1 := (hb1.frozen (p := ⟨w.heap.size + 1 + 1, 1, none⟩) hzW).trans g1
  clear hCl e0 hbW hb1
  by_cases hce : cE = 0
  case neg =>
    have hI : (cE != 0) = true := by simpa using hce
    have HF : Hid (r = (([], []), 5)) := by show _ = _; rw [HR.out, hI]; rfl
    clear HR hce
    go_wp2_with fail
    exact bodyPost_ret (v := .tuple #[.agg #[.string ⟨#[]⟩, .slice none 0 0], .int .i64 5]) (by simp [results, Tryz.results18, go_sem, z0, z1, g0, g1]) rfl ⟨_, by rw [HF.out]; rfl, by rw [HF.out]; exact SlV.nil _ _ _ _, (hbw1.setCell (p := ⟨w.heap.size + 1 + 1, 0, none⟩) hzz _).setCell (p := ⟨w.heap.size + 1 + 1, 1, none⟩) hzz _⟩
  subst hce
  cases hemp : cN.isEmpty
  case true =>
    rw [hemp] at hem
    have HF : Hid (r = (([], []), 5)) := by show _ = _; rw [HR.out, hemp]; rfl
    clear HR hemp
    go_wp2_with fail
    exact bodyPost_ret (v := .tuple #[.agg #[.string ⟨#[]⟩, .slice none 0 0], .int .i64 5]) (by simp [results, Tryz.results18, go_sem, z0, z1, g0, g1]) rfl ⟨_, by rw [HF.out]; rfl, by rw [HF.out]; exact SlV.nil _ _ _ _, (hbw1.setCell (p := ⟨w.heap.size + 1 + 1, 0, none⟩) hzz _).setCell (p := ⟨w.heap.size + 1 + 1, 1, none⟩) hzz _⟩
  have hem2 : (!(B cN).toList.isEmpty) = true := by rw [hem, hemp]; rfl
  rw [hemp] at hem
  replace HR : Hid (r = if ck != 0 then (([], []), ck)
    else if (eAttsK s [] (named l NL)).2 != 0 then (([], []), (eAttsK s [] (named l NL)).2)
    else if sValid s (Idn.rSorted (eAttsK s [] (named l NL)).1) != 0 then (([], []), sValid s (Idn.rSorted (eAttsK s [] (named l NL)).1)) else ((cN, Idn.rSorted (eAttsK s [] (named l NL)).1), 0)) := by show _ = _; rw [HR.out, hemp]; rfl
  have hzW1 : w.heap.size + 1 + 1 < w1.heap.size := by omega
  clear hemp hzW hws1
  go_wp2_with fail
  refine (hCk w1 hbw1).mono ?_
  rintro e w2 ⟨rfl, hb2⟩
  have hbw2 := hbw1.trans (hb2.mono hbw1.size)
  have hws2 := hb2.size
  replace q0 := cell_later hb2 q0
  replace q1 := cell_later hb2 q1
  replace e1 := cell_later hb2 e1
  replace z0 := cell_later hb2 z0
  replace z1 := cell_later hb2 z1
  replace g0 := (hb2.frozen (p := ⟨w.heap.size + 1 + 1, 0, none⟩) hzW1).trans g0
  replace g1 := (hb2.frozen (p := ⟨w.heap.size + 1 + 1, 1, none⟩) hzW1).trans g1
  have hzW2 : w.heap.size + 1 + 1 < w2.heap.size := by omega
  clear hCk hbw1 hb2 hzW1 hws2
  by_cases hck0 : ck = 0
  case neg =>
    have hI : (ck != 0) = true := by simpa using hck0
    have HF : Hid (r = (([], []), ck)) := by show _ = _; rw [HR.out, if_pos hI]
    clear HR hck0 hck hck2
    go_wp2_with fail
    exact bodyPost_ret (v := .tuple #[.agg #[.string ⟨#[]⟩, .slice none 0 0], .int .i64 ck]) (by simp [results, Tryz.results18, go_sem, z0, z1, g0, g1]) rfl ⟨_, by rw [HF.out]; rfl, by rw [HF.out]; exact SlV.nil _ _ _ _, (hbw2.setCell (p := ⟨w.heap.size + 1 + 1, 0, none⟩) hzz _).setCell (p := ⟨w.heap.size + 1 + 1, 1, none⟩) hzz _⟩
  subst hck0
  obtain ⟨hl32, _, _⟩ := hck rfl
  obtain ⟨_, hv16⟩ := hck2 rfl
  replace HR : Hid (r = if (eAttsK s [] (named l NL)).2 != 0 then (([], []), (eAttsK s [] (named l NL)).2)
    else if sValid s (Idn.rSorted (eAttsK s [] (named l NL)).1) != 0 then (([], []), sValid s (Idn.rSorted (eAttsK s [] (named l NL)).1)) else ((cN, Idn.rSorted (eAttsK s [] (named l NL)).1), 0)) := by show _ = _; rw [HR.out]; rfl
  have h7 : Idn.ASm7 l := ⟨by omega, fun a ha => ⟨(hsm.2 a ha).1, by have := (hv16 a ha).2; omega, (hsm.2 a ha).2.2⟩⟩
  have hNa2 := hNa h7
  have hlv : ∀ m, (Idn.lastV l m).length ≤ 16 ∧ ∀ x ∈ Idn.lastV l m, x.length ≤ 100000000 := fun m =>
    lastV_all (p := fun vs => vs.length ≤ 16 ∧ ∀ x ∈ vs, x.length ≤ 100000000) ⟨by simp, by simp⟩ m l [] ⟨by simp, by simp⟩ fun b hb => ⟨(hv16 b hb).2, (hs5 b hb).2⟩
  have HLV := Lib.hid hlv
  have HNM := Lib.hid hnm
  have HS5 := Lib.hid hs5
  have hN32 : NL.length ≤ 32 := by omega
  clear hck hck2 hNa hlv hnm h7 hnlen hs5 hsm hv16
  go_upto_region 8 with fail
  with_reducible refine gen1 (R := fun W => Code.wp Tryz.prog _ _ _ W) ?_
  intro W5 hbW5 hszW5 hc5 hfz5
  have o0 : W5.cell? ⟨w2.heap.size, 0, none⟩ = some (.string (B cN)) := hc5 0 _ rfl
  have o1 : W5.cell? ⟨w2.heap.size, 1, none⟩ = some (.slice none 0 0) := hc5 1 _ rfl
  have fo := hfz5 1
  have fo0 := hfz5 0
  replace q0 := cell_later hbW5 q0
  replace q1 := cell_later hbW5 q1
  replace e1 := cell_later hbW5 e1
  replace z0 := cell_later hbW5 z0
  replace z1 := cell_later hbW5 z1
  replace g0 := (hbW5.frozen (p := ⟨w.heap.size + 1 + 1, 0, none⟩) hzW2).trans g0
  replace g1 := (hbW5.frozen (p := ⟨w.heap.size + 1 + 1, 1, none⟩) hzW2).trans g1
  have hw25 : w2.heap.size < W5.heap.size := by omega
  have hwl : w.heap.size + 1 + 1 < w2.heap.size := hzW2
  have hbw5 := hbw2.trans (hbW5.mono hbw2.size)
  have hzW5 : w.heap.size + 1 + 1 < W5.heap.size := by omega
  clear hc5 hfz5 hszW5
  go_wp2_with fail
  refine (hNa2 W5 hbw5).mono ?_
  rintro e w6 ⟨v6, rfl, hown6, hb6⟩
  obtain ⟨AN, cN6, hv6⟩ := own_shape hown6
  subst hv6
  replace q0 := cell_later hb6 q0
  replace q1 := cell_later hb6 q1
  replace e1 := cell_later hb6 e1
  replace z0 := cell_later hb6 z0
  replace z1 := cell_later hb6 z1
  replace o0 := cell_later hb6 o0
  replace o1 := cell_later hb6 o1
  replace g0 := (hb6.frozen (p := ⟨w.heap.size + 1 + 1, 0, none⟩) hzW5).trans g0
  replace g1 := (hb6.frozen (p := ⟨w.heap.size + 1 + 1, 1, none⟩) hzW5).trans g1
  replace fo := (hb6.frozen (p := ⟨w2.heap.size, 1, none⟩) hw25).trans fo
  replace fo0 := (hb6.frozen (p := ⟨w2.heap.size, 0, none⟩) hw25).trans fo0
  have hbw6 := hbw5.trans (hb6.mono hbw5.size)
  have hws6 := hb6.size
  clear hNa2 hbW5 hb6 hbw5 hzW5 hbw2
  go_wp2_with fail
  go_loopw [11] (fun i wr => ∃ (k : Nat) (ov : Value) (xs : List (Idn.Att × Value)), k ≤ NL.length ∧ i = .int .i64 k ∧ AttRow wr W5.heap.size ov xs ∧ wr.ownsRow W5.heap.size 9 1 (.slice AN NL.length cN6) NL.length (NL.map sv) ∧ Below w2.heap.size w6 wr ∧ wr.cell? ⟨w2.heap.size, 0, none⟩ = some (.string (B cN)) ∧ wr.cell? ⟨w2.heap.size, 1, none⟩ = some ov ∧ wr.frozen? ⟨w2.heap.size, 1, none⟩ = false ∧ wr.frozen? ⟨w2.heap.size, 0, none⟩ = false ∧ Hid (eAttsK s [] (named l NL) = eAttsK s (xs.map (·.1)) ((named l NL).drop k)) ∧ Hid (xs.length = k) ∧ Hid (∀ a ∈ xs.map (·.1), a.vals.length ≤ 16 ∧ a.name.length ≤ 1000000000 ∧ ∀ x ∈ a.vals, x.length ≤ 256)) (fun i _ => NL.length - (intOf i).toNat)
  case atStart => exact ⟨0, .slice none 0 0, [], Nat.zero_le _, rfl, AttRow.nil _ _, hown6, Below.refl _ _, o0, o1, fo, fo0, by show _ = _; simp, rfl, by show ∀ a ∈ _, _; simp⟩
  case round =>
    obtain ⟨k, ov, xs, hk, rfl, hrow, hnr, hb, p0, p1, pf, pf0, hinv, hxl, hxs⟩ := hrel
    have hbw := hbw6.trans (hb.mono (by omega))
    have hwr := hb.size
    have hxk : xs.length ≤ 32 := by rw [hxl.out]; omega
    replace q0 := (hb.cell (p := ⟨w.heap.size, 0, none⟩) (by show w.heap.size < w2.heap.size; omega)).trans q0
    replace q1 := (hb.cell (p := ⟨w.heap.size, 1, none⟩) (by show w.heap.size < w2.heap.size; omega)).trans q1
    replace e1 := (hb.cell (p := ⟨w.heap.size + 1, 1, none⟩) (by show w.heap.size + 1 < w2.heap.size; omega)).trans e1
    replace z0 := (hb.cell (p := ⟨w.heap.size + 1 + 1, 0, none⟩) hwl).trans z0
    replace z1 := (hb.cell (p := ⟨w.heap.size + 1 + 1, 1, none⟩) hwl).trans z1
    replace g0 := (hb.frozen (p := ⟨w.heap.size + 1 + 1, 0, none⟩) hwl).trans g0
    replace g1 := (hb.frozen (p := ⟨w.heap.size + 1 + 1, 1, none⟩) hwl).trans g1
    obtain ⟨wo, hwo⟩ : ∃ wo : World, wo = wr := ⟨_, rfl⟩
    subst hwo
    obtain ⟨Ao, co, hov⟩ := own_shape hrow.1
    subst hov
    clear hown6 o0 o1 fo fo0
    by_cases hlt : k < NL.length
    · have hltI : (k : Int) < (NL.length : Int) := by omega
      obtain ⟨hk', hka⟩ := named_at l NL k hlt
      obtain ⟨t1, t2⟩ := eAttsK_at s (named l NL) k hk' _ _ hinv.out
      rw [hka] at t1 t2
      dsimp only at t1 t2
      obtain ⟨gn, hAN, hcn⟩ := own_open hnr (by omega)
      have n0 : wo.cell? ⟨gn, k, none⟩ = some (.string (B NL[k])) := hcn k _ (by rw [List.getElem?_map, List.getElem?_eq_getElem hlt]; rfl)
      subst hAN
      have hgn := (hnr.lt gn rfl).2
      have hnx := HNM.out NL[k] (List.getElem_mem hlt)
      have hlk := HLV.out NL[k]
      have T1 := Lib.hid t1
      have T2 := Lib.hid t2
      clear t1 t2 hinv hcn hka hk'
      obtain ⟨nk, hnk⟩ : ∃ nk, nk = NL[k] := ⟨_, rfl⟩
      rw [← hnk] at n0 hnx hlk T1 T2
      clear hnk
      go_wp2_with fail
      go_loopw [12, 13] (fun vv i wx => ∃ (j : Nat), j ≤ l.length ∧ i = .int .i64 j ∧ Below wo.heap.size wo wx ∧ StrsV w w.heap.size vv (Idn.lastV (l.take j) nk)) (fun _ i _ => l.length - (intOf i).toNat)
      case atStart => exact ⟨0, Nat.zero_le _, rfl, Below.refl _ _, SlV.nil _ _ _ _⟩
      case round =>
        obtain ⟨j, hj, rfl, hbx, hvv⟩ := hrel
        obtain ⟨wi, hwi⟩ : ∃ wi : World, wi = wr := ⟨_, rfl⟩
        subst hwi
        have hbwi := hbw.trans (hbx.mono hbw.size)
        replace e1 := cell_later hbx e1
        have n0x := cell_later hbx n0
        by_cases hjl : j < l.length
        · have hjI : (j : Int) < (l.length : Int) := by omega
          obtain ⟨b, off, va, hAl, hbl, c0, c1', hva⟩ := AttsV.cell hv hjl
          subst hAl
          obtain ⟨Av, cv, hvav, _⟩ := SlV.shape hva
          subst hvav
          have d0 := (hbwi.cell (p := ⟨b, off + j * 2, none⟩) hbl).trans c0
          have d1 := (hbwi.cell (p := ⟨b, off + j * 2 + 1, none⟩) hbl).trans c1'
          have hL := fun W => r_lower_any (B l[j].name) W (by rw [Idn.size_B]; have := (HS5.out _ (List.getElem_mem hjl)).1; omega)
          rw [Idn.L_B] at hL
          have hlt9 := lastV_take l nk j hjl
          have hsame : (((B (Idn.lower l[j].name)).toList == (B nk).toList)) = decide (Idn.lower l[j].name = nk) := by rw [str_beq, Idn.L_B, Idn.L_B]
          have j0 := cell_regrown d0
          have j1 := cell_regrown e1
          have j2 := cell_regrown n0x
          have y1 := cq (W := wi) fun W' _ => hL W'
          by_cases he : Idn.lower l[j].name = nk
          · rw [decide_eq_true he] at hsame
            rw [if_pos he] at hlt9
            have hva9 : StrsV w w.heap.size (.slice Av l[j].vals.length cv) (Idn.lastV (l.take (j + 1)) nk) := by rw [hlt9]; exact hva
            clear hlt9 he hvv hva c0 c1' hL
            generalize Idn.lower l[j].name = ln at *
            generalize l[j].vals.length = vln at *
            generalize B l[j].name = bnm at *
            go_wp2
            refine wp_region_quiet_below (by kernel_rfl) (by kernel_rfl) ?_
            repeat (first | go_big_quiet_step ((go_at_call 55; exact y1 _ _)) | quiet_step ((go_at_call 55; exact y1 _ _)))
            refine wpQuiet_nil ?_
            intro _ hw'
            obtain ⟨⟨dq, osq⟩, hw''⟩ := hw'
            subst hw''
            have hb7 := below_regrown wi dq osq
            generalize grow (redrawn wi dq) osq = W7 at hb7 ⊢
            clear y1 j0 j1 j2
            replace d1 := cell_later hb7 d1
            replace e1 := cell_later hb7 e1
            go_wp2_with fail
            go_roundw
            case rel => exact ⟨j + 1, by omega, by go_num, hbx.trans (hb7.mono hbx.size), hva9⟩
            case measure => simp [intOf]; omega
          · rw [decide_eq_false he] at hsame
            rw [if_neg he] at hlt9
            have hva9 : StrsV w w.heap.size u12 (Idn.lastV (l.take (j + 1)) nk) := by rw [hlt9]; exact hvv
            clear hlt9 he hvv hva c0 c1' hL d1
            generalize Idn.lower l[j].name = ln at *
            generalize B l[j].name = bnm at *
            go_wp2
            refine wp_region_quiet_below (by kernel_rfl) (by kernel_rfl) ?_
            repeat (first | go_big_quiet_step ((go_at_call 55; exact y1 _ _)) | quiet_step ((go_at_call 55; exact y1 _ _)))
            refine wpQuiet_nil ?_
            intro _ hw'
            obtain ⟨⟨dq, osq⟩, hw''⟩ := hw'
            subst hw''
            have hb7 := below_regrown wi dq osq
            generalize grow (redrawn wi dq) osq = W7 at hb7 ⊢
            clear y1 j0 j1 j2
            go_wp2_with fail
            go_roundw
            case rel => exact ⟨j + 1, by omega, by go_num, hbx.trans (hb7.mono hbx.size), hva9⟩
            case measure => simp [intOf]; omega
        · have hjI : ¬ (j : Int) < (l.length : Int) := by omega
          rw [List.take_of_length_le (by omega)] at hvv
          obtain ⟨AV, cV, hvv9, _⟩ := SlV.shape hvv
          subst hvv9
          have hpo : w2.heap.size < wo.heap.size := World.block_lt_of_cell? _ _ p0
          have hzo : w.heap.size + 1 + 1 < wo.heap.size := by omega
          replace q0 := cell_later hbx q0
          replace q1 := cell_later hbx q1
          replace z0 := cell_later hbx z0
          replace z1 := cell_later hbx z1
          replace p0 := cell_later hbx p0
          replace p1 := cell_later hbx p1
          replace g0 := (hbx.frozen (p := ⟨w.heap.size + 1 + 1, 0, none⟩) hzo).trans g0
          replace g1 := (hbx.frozen (p := ⟨w.heap.size + 1 + 1, 1, none⟩) hzo).trans g1
          replace pf := (hbx.frozen (p := ⟨w2.heap.size, 1, none⟩) hpo).trans pf
          replace pf0 := (hbx.frozen (p := ⟨w2.heap.size, 0, none⟩) hpo).trans pf0
          have hrowx := hrow.keep hbx
          have hnrx := own_below hnr hbx
          have hbxx := hb.trans (hbx.mono (Nat.le_of_lt hpo))
          have hwix := hbxx.size
          clear hrow hnr hbx hb n0 hbw
          -- region 18: the values in normal form
          have hdr : Below wi.heap.size wi wi.drew := (Below.refl _ _).drew
          have hbwd := hbwi.trans (hdr.mono hbwi.size)
          have hNd := hNo wi.drew hbwd (B nk) _ (Idn.lastV l nk) (SlV.mono (SlV.keep hvv hbwd) hbwd.size) (by rw [Idn.size_B]; exact hnx) (by omega) hlk.2
          rw [Idn.L_B] at hNd
          have q0d : wi.drew.cell? ⟨w.heap.size, 0, none⟩ = some (.slice A1 s.types.length c1) := q0
          have q1d : wi.drew.cell? ⟨w.heap.size, 1, none⟩ = some (.slice A2 s.classes.length c2) := q1
          have n0d : wi.drew.cell? ⟨gn, k, none⟩ = some (.string (B nk)) := n0x
          have hok := fun h => eAtt_ok (s := s) (n := nk) (l := Idn.lastV l nk) h
          have hlk1 := hlk.1
          generalize eAtt s nk (Idn.lastV l nk) = ea at *
          obtain ⟨ex, ee⟩ := ea
          dsimp only at hok hNd
          generalize (Idn.lastV l nk).length = lvl at *
          clear hvv hlk
          go_wp2_with fail
          clear q0 q1
          go_region_law (
            go_simp
            go_at_call 56
            refine hNd.mono ?_
            rintro e w7 ⟨v7, rfl, hown7, hb7⟩
            obtain ⟨A7, c7, hv7⟩ := own_shape hown7
            subst hv7
            go_wp2_with fail)
          all_goals
            replace hown7 : w7.ownsRow wi.heap.size 9 1 (.slice A7 ex.length c7) ex.length (ex.map sv) := hown7
            have hb7i : Below wi.heap.size wi w7 := hdr.trans hb7
            have hzi : w.heap.size + 1 + 1 < wi.heap.size := by omega
            have hpi : w2.heap.size < wi.heap.size := World.block_lt_of_cell? _ _ p0
            replace z0 := cell_later hb7i z0
            replace z1 := cell_later hb7i z1
            replace p0 := cell_later hb7i p0
            replace p1 := cell_later hb7i p1
            replace g0 := (hb7i.frozen (p := ⟨w.heap.size + 1 + 1, 0, none⟩) hzi).trans g0
            replace g1 := (hb7i.frozen (p := ⟨w.heap.size + 1 + 1, 1, none⟩) hzi).trans g1
            replace pf := (hb7i.frozen (p := ⟨w2.heap.size, 1, none⟩) hpi).trans pf
            replace pf0 := (hb7i.frozen (p := ⟨w2.heap.size, 0, none⟩) hpi).trans pf0
            have hbw7 := hbwi.trans (hb7i.mono hbwi.size)
            clear hNd q0d q1d n0d hbwd
            by_cases hee : ee = 0
            case neg =>
              have hI : (ee != 0) = true := by simpa using hee
              have HE : eAttsK s [] (named l NL) = ([], ee) := T1.out hee
              have HF : Hid (r = (([], []), ee)) := by show _ = _; rw [HR.out, HE, if_pos hI]
              clear HR hee T1 T2 hok HE hown7 hrowx hnrx
              go_wp2_with fail
              exact bodyPost_ret (v := .tuple #[.agg #[.string ⟨#[]⟩, .slice none 0 0], .int .i64 ee]) (by simp [results, Tryz.results18, go_sem, z0, z1, g0, g1]) rfl ⟨_, by rw [HF.out]; rfl, by rw [HF.out]; exact SlV.nil _ _ _ _, (hbw7.setCell (p := ⟨w.heap.size + 1 + 1, 0, none⟩) hzz _).setCell (p := ⟨w.heap.size + 1 + 1, 1, none⟩) hzz _⟩
            subst hee
            have HE : Hid (eAttsK s [] (named l NL) = eAttsK s (xs.map (·.1) ++ [⟨nk, ex⟩]) ((named l NL).drop (k + 1))) := T2.out rfl
            obtain ⟨hel, hex⟩ := hok rfl
            have hexl : ex.length ≤ 16 := by omega
            have HEX : Hid (∀ x ∈ ex, x.length ≤ 256) := hex
            have hrow7 := hrowx.keep hb7i
            have hnr7 := own_below hnrx hb7i
            have n07 := cell_later hb7i n0x
            have hbx7 := hbxx.trans (hb7i.mono (Nat.le_of_lt hpi))
            have hw57 : W5.heap.size ≤ w7.heap.size := by have := hb7i.size; omega
            clear T1 T2 hok hel hex hrowx hnrx n0x hb7i hb7 hdr
            have hrow7d : AttRow w7.drew W5.heap.size (.slice Ao xs.length co) xs := hrow7.keep (Below.drew (Below.refl w7.heap.size w7))
            have hnr7d : w7.drew.ownsRow W5.heap.size 9 1 (.slice (some ⟨gn, 0, none⟩) NL.length cN6) NL.length (NL.map sv) := hnr7
            have hu7d : w7.drew.ownsRow W5.heap.size 9 1 (.slice A7 ex.length c7) ex.length (ex.map sv) := own_base (w := w7.drew) hown7 (by omega)
            have p0d : w7.drew.cell? ⟨w2.heap.size, 0, none⟩ = some (.string (B cN)) := p0
            have p1d : w7.drew.cell? ⟨w2.heap.size, 1, none⟩ = some (.slice Ao xs.length co) := p1
            have pfd : w7.drew.frozen? ⟨w2.heap.size, 1, none⟩ = false := pf
            have n0d : w7.drew.cell? ⟨gn, k, none⟩ = some (.string (B nk)) := n07
            have p1a : (w7.alloc (.cells #[.string (B nk), .slice A7 ex.length c7] 48)).cell? ⟨w2.heap.size, 1, none⟩ = some (.slice Ao xs.length co) := cell_later ((Below.refl w7.heap.size w7).alloc (Nat.le_refl _) _) p1
            have hbx7d : Below w2.heap.size w6 w7.drew := hbx7.drew
            have hw57d : W5.heap.size ≤ w7.drew.heap.size := hw57
            have hp7 : w2.heap.size < w7.drew.heap.size := by omega
            have hneO : some w2.heap.size ≠ (Value.slice Ao xs.length co).ownBlock := fun e => by have := (hrow7d.1.lt _ e.symm).1; omega
            have hPA : PairAt w7.drew w2.heap.size (.string (B cN)) (.slice Ao xs.length co) := ⟨⟨p0d, p1d⟩, ⟨pf0, pfd⟩, hp7⟩
            clear hrow7 hnr7 p0 hbx7 n07 hown7
            go_wp2_with fail
            clear p1 pf
            go_region_law (refine step_push rfl _ _ 22 rfl W5.heap.size 48 (.agg #[.string ⟨#[]⟩, .slice none 0 0]) 2 40 Tryz.underlying22 info_attr rfl (by decide) _ _ _ hrow7d.1 rfl [.string (B nk), .slice A7 ex.length c7] rfl rfl (by intro u hu; simp at hu; rcases hu with rfl | rfl <;> rfl) (by omega) hw57d ?_ rfl; intro v9 w9 hown9 hg9 hat9; have hP9 := PairAt.grown hPA hg9 hneO hg9.size; obtain ⟨⟨t0, t1⟩, ⟨s0, s1⟩, _⟩ := id hP9; obtain ⟨A9, c9, hv9⟩ := own_shape hown9; subst hv9)
            all_goals
              have hrow9 := hrow7d.push (x := ⟨nk, ex⟩) hu7d (by simpa [sv] using hown9) hg9
              have hnr9 := own_kept hnr7d hg9 fun g h1 h2 => own_apart hrow7d.1 hnr7d (by decide) g h2 h1
              have hneP : (Value.slice A9 (xs.length + 1) c9).ownBlock ≠ some w2.heap.size := fun e => by have := (hown9.lt _ e).1; omega
              have hneN : (Value.slice (some ⟨gn, 0, none⟩) NL.length cN6).ownBlock ≠ some w2.heap.size := fun e => by have := (hnr9.lt _ e).1; omega
              have hrow10 : AttRow (w9.setCell ⟨w2.heap.size, 1, none⟩ (.slice A9 (xs.length + 1) c9)) W5.heap.size (.slice A9 (xs.length + 1) c9) (xs ++ [(⟨nk, ex⟩, .slice A7 ex.length c7)]) :=
                ⟨ownsRow_setCell_other (a := ⟨w2.heap.size, 1, none⟩) hrow9.1 hneP _, fun p hp => ownsRow_setCell_other (a := ⟨w2.heap.size, 1, none⟩) (hrow9.2 p hp) (fun e => by have := ((hrow9.2 p hp).lt w2.heap.size e).1; omega) _⟩
              have hnr10 := ownsRow_setCell_other (a := ⟨w2.heap.size, 1, none⟩) hnr9 hneN (.slice A9 (xs.length + 1) c9)
              have hP10 := PairAt.put hP9 (.slice A9 (xs.length + 1) c9)
              have hb10 : Below w2.heap.size w6 (w9.setCell ⟨w2.heap.size, 1, none⟩ (.slice A9 (xs.length + 1) c9)) := (hbx7d.grown hg9 (Nat.le_of_lt hp7) (fun g hg => by have := (hrow7d.1.lt g hg).1; omega)).setCell (Nat.le_refl _) _
              have HXS : Hid (∀ a ∈ (xs ++ [((⟨nk, ex⟩ : Idn.Att), Value.slice A7 ex.length c7)]).map (·.1), a.vals.length ≤ 16 ∧ a.name.length ≤ 1000000000 ∧ ∀ x ∈ a.vals, x.length ≤ 256) := by
                show ∀ a ∈ _, _
                intro a ha
                rw [List.map_append] at ha
                rcases List.mem_append.1 ha with ha | ha
                · exact hxs.out a ha
                · simp at ha; subst ha; exact ⟨hexl, hnx, HEX.out⟩
              have HE2 : Hid (eAttsK s [] (named l NL) = eAttsK s ((xs ++ [((⟨nk, ex⟩ : Idn.Att), Value.slice A7 ex.length c7)]).map (·.1)) ((named l NL).drop (k + 1))) := by show _ = _; rw [List.map_append]; exact HE.out
              have HXL : Hid ((xs ++ [((⟨nk, ex⟩ : Idn.Att), Value.slice A7 ex.length c7)]).length = k + 1) := by show _ = _; rw [List.length_append, hxl.out]; rfl
              clear hrow9 hnr9 hxs hxl HE
              go_wp2_with fail
              go_roundw
              case rel => exact ⟨k + 1, _, _, by omega, by go_num, hrow10, hnr10, hb10, hP10.1.1, hP10.1.2, hP10.2.1.2, hP10.2.1.1, HE2, HXL, HXS⟩
              case measure => simp [intOf]; omega
    · have hltI : ¬ (k : Int) < (NL.length : Int) := by omega
      have HEX : eAttsK s [] (named l NL) = (xs.map (·.1), 0) := by rw [hinv.out, List.drop_eq_nil_of_le (by unfold named; simp; omega)]; rfl
      have hats := hrow.atts rfl
      have hx7 : Idn.ASm7 (xs.map (·.1)) := ⟨by simp; omega, fun a ha => ⟨(hxs.out a ha).2.1, by have := (hxs.out a ha).1; omega, fun x hx => by have := (hxs.out a ha).2.2 x hx; omega⟩⟩
      have hS := r_Sorted_any _ (xs.map (·.1)) wo hats hx7
      obtain ⟨hq1, hq2, hq3⟩ := rSorted_sm (l := xs.map (·.1)) (by simpa using hxk) hxs.out
      replace HR : Hid (r = if sValid s (Idn.rSorted (xs.map (·.1))) != 0 then (([], []), sValid s (Idn.rSorted (xs.map (·.1)))) else ((cN, Idn.rSorted (xs.map (·.1))), 0)) := by show _ = _; rw [HR.out, HEX]; rfl
      generalize Idn.rSorted (xs.map (·.1)) = sq at *
      have hpo : w2.heap.size < wo.heap.size := World.block_lt_of_cell? _ _ p0
      have hzo : w.heap.size + 1 + 1 < wo.heap.size := by omega
      clear hinv HEX hx7 hats hrow hnr hNo hxs HLV HNM HS5
      go_wp2_with fail
      refine hS.mono ?_
      rintro e w10 ⟨v10, ps10, rfl, hrow10, hps10, hb10⟩
      obtain ⟨A10, c10, hv10⟩ := own_shape hrow10.1
      subst hv10
      have HP10 := Lib.hid hps10
      replace q0 := cell_later hb10 q0
      replace q1 := cell_later hb10 q1
      replace p0 := cell_later hb10 p0
      replace p1 := cell_later hb10 p1
      replace z0 := cell_later hb10 z0
      replace z1 := cell_later hb10 z1
      replace g0 := (hb10.frozen (p := ⟨w.heap.size + 1 + 1, 0, none⟩) hzo).trans g0
      replace g1 := (hb10.frozen (p := ⟨w.heap.size + 1 + 1, 1, none⟩) hzo).trans g1
      replace pf := (hb10.frozen (p := ⟨w2.heap.size, 1, none⟩) hpo).trans pf
      have hbw10 := hbw.trans (hb10.mono hbw.size)
      have hsz10 := hb10.size
      clear hS hps10
      go_upto_region 23 with fail
      have hR11 : AttRow (w10.setCell ⟨w2.heap.size, 1, none⟩ (.slice A10 ps10.length c10)) wo.heap.size (.slice A10 ps10.length c10) ps10 :=
        ⟨ownsRow_setCell_other (a := ⟨w2.heap.size, 1, none⟩) hrow10.1 (fun e => by have := (hrow10.1.lt w2.heap.size e).1; omega) _, fun p hp => ownsRow_setCell_other (a := ⟨w2.heap.size, 1, none⟩) (hrow10.2 p hp) (fun e => by have := ((hrow10.2 p hp).lt w2.heap.size e).1; omega) _⟩
      have hb11 := hbw10.setCell (p := ⟨w2.heap.size, 1, none⟩) (by show w.heap.size ≤ w2.heap.size; omega) (.slice A10 ps10.length c10)
      have r0 : (w10.setCell ⟨w2.heap.size, 1, none⟩ (.slice A10 ps10.length c10)).cell? ⟨w.heap.size, 0, none⟩ = some (.slice A1 s.types.length c1) := by
        rw [World.cell?_setCell_other _ _ _ _ (by intro e; injection e with e; omega)]; exact q0
      have r1 : (w10.setCell ⟨w2.heap.size, 1, none⟩ (.slice A10 ps10.length c10)).cell? ⟨w.heap.size, 1, none⟩ = some (.slice A2 s.classes.length c2) := by
        rw [World.cell?_setCell_other _ _ _ _ (by intro e; injection e with e; omega)]; exact q1
      have s0 : (w10.setCell ⟨w2.heap.size, 1, none⟩ (.slice A10 ps10.length c10)).cell? ⟨w.heap.size + 1 + 1, 0, none⟩ = some (.string ⟨#[]⟩) := by
        rw [World.cell?_setCell_other _ _ _ _ (by intro e; injection e with e; omega)]; exact z0
      have s1 : (w10.setCell ⟨w2.heap.size, 1, none⟩ (.slice A10 ps10.length c10)).cell? ⟨w.heap.size + 1 + 1, 1, none⟩ = some (.slice none 0 0) := by
        rw [World.cell?_setCell_other _ _ _ _ (by intro e; injection e with e; omega)]; exact z1
      have o0' : (w10.setCell ⟨w2.heap.size, 1, none⟩ (.slice A10 ps10.length c10)).cell? ⟨w2.heap.size, 0, none⟩ = some (.string (B cN)) := by
        rw [World.cell?_setCell_other _ _ _ _ (by intro e; injection e with e1 e2; omega)]; exact p0
      have o1' : (w10.setCell ⟨w2.heap.size, 1, none⟩ (.slice A10 ps10.length c10)).cell? ⟨w2.heap.size, 1, none⟩ = some (.slice A10 ps10.length c10) := World.cell?_setCell_same _ _ _ p1
      have f0 : (w10.setCell ⟨w2.heap.size, 1, none⟩ (.slice A10 ps10.length c10)).frozen? ⟨w.heap.size + 1 + 1, 0, none⟩ = false := by simpa using g0
      have f1 : (w10.setCell ⟨w2.heap.size, 1, none⟩ (.slice A10 ps10.length c10)).frozen? ⟨w.heap.size + 1 + 1, 1, none⟩ = false := by simpa using g1
      have hsz11 : (w10.setCell ⟨w2.heap.size, 1, none⟩ (.slice A10 ps10.length c10)).heap.size = w10.heap.size := by simp
      have hws11 : w.heap.size + 1 + 1 < (w10.setCell ⟨w2.heap.size, 1, none⟩ (.slice A10 ps10.length c10)).heap.size := by omega
      clear q0 q1 z0 z1 p0 p1 g0 g1 pf hsz11 hrow10 hb10
      generalize w10.setCell ⟨w2.heap.size, 1, none⟩ (.slice A10 ps10.length c10) = W11 at *
      have hVl := hVd W11 hb11 (B cN) _ sq (hR11.atts HP10.out) hq1 hq2 hq3
      generalize sValid s sq = se at *
      clear hVd
      go_wp2_with fail
      refine hVl.mono ?_
      rintro e w12 ⟨rfl, hb12⟩
      replace s0 := cell_later hb12 s0
      replace s1 := cell_later hb12 s1
      replace o0' := cell_later hb12 o0'
      replace o1' := cell_later hb12 o1'
      replace f0 := (hb12.frozen (p := ⟨w.heap.size + 1 + 1, 0, none⟩) hws11).trans f0
      replace f1 := (hb12.frozen (p := ⟨w.heap.size + 1 + 1, 1, none⟩) hws11).trans f1
      have hbw12 := hb11.trans (hb12.mono hb11.size)
      have hA12 := hR11.keep hb12
      clear hVl r0 r1 hR11
      by_cases hse : se = 0
      · subst hse
        have HF : Hid (r = ((cN, sq), 0)) := by show _ = _; rw [HR.out]; rfl
        have hfin : AttsV ((w12.setCell ⟨w.heap.size + 1 + 1, 0, none⟩ (.string (B cN))).setCell ⟨w.heap.size + 1 + 1, 1, none⟩ (.slice A10 ps10.length c10)) ((w12.setCell ⟨w.heap.size + 1 + 1, 0, none⟩ (.string (B cN))).setCell ⟨w.heap.size + 1 + 1, 1, none⟩ (.slice A10 ps10.length c10)).heap.size (.slice A10 ps10.length c10) sq := by
          have hx : ∀ (W : World) (j : Nat) (x : Value), AttRow W wo.heap.size (.slice A10 ps10.length c10) ps10 → AttRow (W.setCell ⟨w.heap.size + 1 + 1, j, none⟩ x) wo.heap.size (.slice A10 ps10.length c10) ps10 := fun W j x h =>
            ⟨ownsRow_setCell_other (a := ⟨w.heap.size + 1 + 1, j, none⟩) h.1 (fun e => by have := (h.1.lt (w.heap.size + 1 + 1) e).1; omega) _, fun p hp => ownsRow_setCell_other (a := ⟨w.heap.size + 1 + 1, j, none⟩) (h.2 p hp) (fun e => by have := ((h.2 p hp).lt (w.heap.size + 1 + 1) e).1; omega) _⟩
          exact (hx _ 1 _ (hx _ 0 _ hA12)).atts HP10.out
        have HFIN := Lib.hid hfin
        clear HR hA12 hfin
        go_wp2_with fail
        exact bodyPost_ret (v := .tuple #[.agg #[.string (B cN), .slice A10 ps10.length c10], .int .i64 0]) (by simp [results, Tryz.results18, go_sem, s0, s1, f0, f1]) rfl ⟨_, by rw [HF.out], by rw [HF.out]; exact HFIN.out, (hbw12.setCell (p := ⟨w.heap.size + 1 + 1, 0, none⟩) hzz _).setCell (p := ⟨w.heap.size + 1 + 1, 1, none⟩) hzz _⟩
      · have hI : (se != 0) = true := by simpa using hse
        have HF : Hid (r = (([], []), se)) := by show _ = _; rw [HR.out, if_pos hI]
        clear HR hA12 hse
        go_wp2_with fail
        exact bodyPost_ret (v := .tuple #[.agg #[.string ⟨#[]⟩, .slice none 0 0], .int .i64 se]) (by simp [results, Tryz.results18, go_sem, s0, s1, f0, f1]) rfl ⟨_, by rw [HF.out]; rfl, by rw [HF.out]; exact SlV.nil _ _ _ _, (hbw12.setCell (p := ⟨w.heap.size + 1 + 1, 0, none⟩) hzz _).setCell (p := ⟨w.heap.size + 1 + 1, 1, none⟩) hzz _⟩
end Go.Proofs.YtoopoglkeeoamaaGreatDoor
