/- Part 31 of the proof that SchemaChecks returns true for every schema: the package variables hold what the program lays; nothing else is asked. -/
import Derived.Test.YtoelhiccofpgfaaGreatDoorChk30
/- attrs: Names, Get. -/
namespace Go.Proofs.YtoelhiccofpgfaaGreatDoor
open Go.RowKit Go.Sort
open Idn (L B Bs drop_L take_L size_L)

def namesL (l : List Idn.Att) : List Bs := (Idn.aSorted l).map (·.name)
def getL (l : List Idn.Att) (n : Bs) : List Bs := match (Idn.aSorted l).findIdx? (fun a => decide (a.name = Idn.lower n)) with
  | none => []
  | some k => match (Idn.aSorted l)[k]? with | none => [] | some a => a.vals
theorem aSorted_len (l : List Idn.Att) : (Idn.aSorted l).length = (Idn.grp [] l).length := by simp [Idn.aSorted]
theorem addA_len (ps : List Idn.Att) (n : Bs) (vs : List Bs) : (Idn.addA ps n vs).length ≤ ps.length + 1 := by
  unfold Idn.addA
  split
  · simp
  · split <;> simp
theorem grp_len : ∀ (l acc : List Idn.Att), (Idn.grp acc l).length ≤ acc.length + l.length
  | [], acc => by simp [Idn.grp]
  | a :: l, acc => by
    have h1 := grp_len l (Idn.addA acc (Idn.lower a.name) a.vals)
    have h2 := addA_len acc (Idn.lower a.name) a.vals
    simp only [Idn.grp, List.length_cons]
    omega
set_option maxHeartbeats 1000000 in
set_option maxRecDepth 100000 in
theorem names_any (v : Value) (l : List Idn.Att) (w : World) (hv : AttsV w w.heap.size v l) (hs : Idn.ASm7 l) (hne : ∀ a ∈ l, a.vals.length ≠ 0) :
    Calls Tryz.prog 80 #[v] w (RetS w (namesL l)) := by
  have hS := sorted_any v l w hv hs hne
  have hlen := aSorted_len l
  have hgl := grp_len l []
  have hl1 := hs.1
  have hres : Hid (namesL l = (Idn.aSorted l).map (·.name)) := rfl
  generalize namesL l = res at *
  generalize Idn.aSorted l = q at *
  have hq : q.length ≤ 1000 := by simp at hgl; omega
  obtain ⟨A0, c0, rfl, hc0⟩ := SlV.shape hv
  clear hv hs hne hgl hlen
  go_enter Tryz.func80, Tryz.ntmps80
  go_wp2_with fail
  refine hS.mono ?_
  rintro e w1 ⟨v1, rfl, hq1, hb1⟩
  obtain ⟨A, c, rfl, hc⟩ := SlV.shape hq1
  clear hS
  go_wp2
  go_loopw [3, 9] (fun u i wr => ∃ k : Nat, k ≤ q.length ∧ i = .int .i64 k ∧ wr.ownsRow w1.heap.size 9 1 u k (((q.take k).map (·.name)).map sv) ∧ Below w1.heap.size w1 wr) (fun _ i _ => q.length - (intOf i).toNat)
  case atStart => exact ⟨0, Nat.zero_le _, rfl, World.ownsRow_nil _ _ _ _, Below.refl _ _⟩
  case round =>
    obtain ⟨k, hk, rfl, hown, hb⟩ := hrel
    by_cases hlt : k < q.length
    · obtain ⟨b, off, va, rfl, hbl, c0, c1, hva⟩ := AttsV.cell (AttsV.keep hq1 hb) hlt
      obtain ⟨Av, cv, rfl, hcv⟩ := SlV.shape hva
      have hltI : (k : Int) < (q.length : Int) := by omega
      have ba := (Below.refl wr.heap.size wr).alloc (Nat.le_refl _) (.cells #[.string (B q[k].name), .slice Av q[k].vals.length cv] 51)
      have hown1 := own_below hown ba
      have hbw := hb.trans (ba.mono hb.size)
      have hbs1 := hbw.size
      have hsza : (wr.alloc (.cells #[.string (B q[k].name), .slice Av q[k].vals.length cv] 51)).heap.size = wr.heap.size + 1 := by simp
      have Hsza := Lib.hid hsza
      clear hva hown ba hsza
      go_wp2_with (at_builtin; refine wpList_push (wr.alloc (.cells #[.string (B q[k].name), .slice Av q[k].vals.length cv] 51)) rfl _ _ 36 rfl w1.heap.size 9 (.string ⟨#[]⟩) 1 16 Tryz.underlying36 info_str rfl (by decide) _ k _ hown1 rfl [.string (B q[k].name)] (by rw [Hsza.out]; rfl) rfl (by intro u hu; simp at hu; subst hu; rfl) (by omega) hbs1 ?_ rfl)
      intro v' w1' hown' _ _ hb' _
      clear hown1
      go_wp2
      go_roundw
      case rel =>
        refine ⟨k + 1, by omega, by go_num, ?_, hbw.trans hb'⟩
        rw [List.take_succ_eq_append_getElem hlt, List.map_append, List.map_append]
        simpa [sv] using hown'
      case measure => simp [intOf]; omega
    · have hkl : k = q.length := by omega
      have hltI : ¬ (k : Int) < (q.length : Int) := by omega
      subst hkl
      rw [List.take_length] at hown
      go_wp2
      go_ret
      refine ⟨_, rfl, ?_, hb1.trans (hb.mono hb1.size)⟩
      rw [hres.out, List.length_map]
      exact own_base hown hb1.size
theorem get_len {l : List Idn.Att} {k m : Nat} (h : ∀ a ∈ l, a.vals.length ≤ k) (hm : l.length * k ≤ m) (n : Bs) : (getL l n).length ≤ m := by
  unfold getL
  split
  · simp
  · split
    · simp
    · rename_i a ha
      obtain ⟨b, hb, rfl⟩ := Idn.aSorted_from (List.mem_of_getElem? ha)
      have h1 := Lib.compact_length_le (Idn.srt b.vals)
      have h2 : (Idn.srt b.vals).length = b.vals.length := by simp [Idn.srt]
      have h3 := Idn.grp_le k l [] 0 (by simp) h b hb
      show (Lib.compact (Idn.srt b.vals)).length ≤ m
      omega
theorem get_all {p : Bs → Prop} {l : List Idn.Att} (h : ∀ a ∈ l, ∀ x ∈ a.vals, p x) (n : Bs) : ∀ x ∈ getL l n, p x := by
  unfold getL
  split
  · simp
  · split
    · simp
    · rename_i a ha
      obtain ⟨b, hb, rfl⟩ := Idn.aSorted_from (List.mem_of_getElem? ha)
      intro x hx
      exact Idn.grp_all l [] (by simp) h b hb x (Idn.srt_mem (compact_mem hx))
set_option maxHeartbeats 1000000 in
set_option maxRecDepth 100000 in
theorem get_any (v : Value) (l : List Idn.Att) (n : ByteArray) (w : World) (hv : AttsV w w.heap.size v l) (hs : Idn.ASm7 l) (hne : ∀ a ∈ l, a.vals.length ≠ 0) (hn : n.size ≤ 1000000000) :
    Calls Tryz.prog 81 #[v, .string n] w fun e w' => ∃ A k c, e = .returned (.slice A k c) ∧ StrsV w' w'.heap.size (.slice A k c) (getL l (L n)) ∧ (∀ b off, A = some ⟨b, off, none⟩ → w.heap.size ≤ b) ∧ Below w.heap.size w w' := by
  have hS := sortedO_any v l w hv hs hne
  have hlen := aSorted_len l
  have hgl := grp_len l []
  have hl1 := hs.1
  have hbd := get_len (fun a ha => (hs.2 a ha).2.1) (Nat.le_refl _) (L n)
  have hres : Hid (getL l (L n) = match (Idn.aSorted l).findIdx? (fun a => decide (a.name = Idn.lower (L n))) with
    | none => []
    | some k => match (Idn.aSorted l)[k]? with | none => [] | some a => a.vals) := rfl
  generalize getL l (L n) = res at *
  generalize Idn.aSorted l = q at *
  have hq : q.length ≤ 1000 := by simp at hgl; omega
  obtain ⟨A0, c0, rfl, hc0⟩ := SlV.shape hv
  clear hv hs hne hgl hlen
  go_enter Tryz.func81, Tryz.ntmps81
  go_wp2_with fail
  refine hS.mono ?_
  rintro e w1 ⟨v1, ps, rfl, hown, hpq, hb1⟩
  have hpl : ps.length = q.length := by rw [← hpq, List.length_map]
  have hF := find_any v1 q n w1 (hown.atts hpq) (by omega) hn
  obtain ⟨A, c, hv1⟩ := own_shape hown.1
  subst hv1
  clear hS
  have HPL := Lib.hid hpl
  have HPQ := Lib.hid hpq
  have hpl9 : ps.length ≤ 1000 := by omega
  clear hpq hpl
  cases hx : q.findIdx? (fun a => decide (a.name = Idn.lower (L n))) with
  | none =>
    have HF : Hid (res = []) := by show _ = _; rw [hres.out, hx]
    rw [idxP_none hx] at hF
    clear hx
    go_wp2_with fail
    refine hF.mono ?_
    rintro e w2 ⟨rfl, hb2⟩
    go_wp2
    go_ret
    exact ⟨none, 0, 0, rfl, by rw [HF.out]; exact SlV.nil _ _ _ _, by simp, hb1.trans (hb2.mono hb1.size)⟩
  | some k =>
    have hkl : k < q.length := (List.findIdx?_eq_some_iff_getElem.1 hx).1
    have HF : Hid (res = q[k].vals) := by show _ = _; rw [hres.out, hx]; simp [hkl]
    rw [idxP_some hx] at hF
    have hkp : k < ps.length := by rw [HPL.out]; exact hkl
    have hkI : (k : Int) < (ps.length : Int) := by omega
    have hk0 : ¬ ((k : Int) < 0) := by omega
    clear hx
    obtain ⟨g, cap, hu, _, hgl⟩ := hown.1.form (by omega)
    injection hu with hu1 hu2 hu3
    subst hu1 hu3
    have hpk : ps[k]? = some ps[k] := List.getElem?_eq_getElem (by omega)
    have hp1 : ps[k].1 = q[k] := by
      have := HPQ.out
      subst this
      simp
    have HP1 := Lib.hid hp1
    have hpm : ps[k] ∈ ps := List.getElem_mem _
    clear hp1
    generalize ps[k] = p at *
    have HPK := Lib.hid hpk
    clear hpk
    obtain ⟨Av, cv, hup⟩ := own_shape (hown.2.1 p hpm)
    go_wp2_with fail
    refine hF.mono ?_
    rintro e w2 ⟨rfl, hb2⟩
    have hown2 := hown.keep hb2
    obtain ⟨c0, c1, _, _⟩ := hown2.cell HPK.out
    have ho := hown2.2.1 p hpm
    rw [hup] at c1 ho
    have hge : ∀ b off, Av = some ⟨b, off, none⟩ → w.heap.size ≤ b := fun b off e => by
      subst e
      obtain ⟨g', e1, e2, _⟩ : ∃ g', (⟨b, off, none⟩ : Addr) = ⟨g', 0, none⟩ ∧ w.heap.size ≤ g' ∧ True := by
        rcases ho.2 with ⟨hn, _⟩ | ⟨g', cap', cur, hv, hb', _⟩
        · cases hn
        · injection hv with hv1
          injection hv1 with hv1
          exact ⟨g', hv1, hb', trivial⟩
      injection e1 with e1
      omega
    obtain ⟨Aw, cw, ew, hcw, hrd⟩ := StrsV.of_own ho
    injection ew with ew1 ew2 ew3
    subst ew1
    have hvc : (p.1.vals.length : Int) ≤ (cv : Int) := by omega
    have hv0 : (0 : Int) ≤ (p.1.vals.length : Int) := by omega
    clear hF hown hown2 ho hup hpm
    go_wp2
    go_ret
    exact ⟨Av, p.1.vals.length, p.1.vals.length, rfl, by rw [HF.out, ← HP1.out]; exact ⟨Av, _, rfl, Nat.le_refl _, hrd⟩, hge, hb1.trans (hb2.mono hb1.size)⟩
end Go.Proofs.YtoelhiccofpgfaaGreatDoor
