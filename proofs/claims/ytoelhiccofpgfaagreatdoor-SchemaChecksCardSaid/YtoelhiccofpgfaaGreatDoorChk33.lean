/- Part 33 of the proof that SchemaChecks returns true for every schema: the package variables hold what the program lays; nothing else is asked. -/
import Derived.Test.YtoelhiccofpgfaaGreatDoorChk25
import Derived.Test.YtoelhiccofpgfaaGreatDoorChk32
/- schema: Valid. -/
namespace Go.Proofs.YtoelhiccofpgfaaGreatDoor
open Go.RowKit Go.Sort
open Idn (L B Bs drop_L take_L size_L)

theorem atts_zero : ∀ (l prev : List Idn.Att), Idn.attsErr prev l = 0 → ∀ a ∈ l, a.vals.length ≠ 0 ∧ a.vals.length ≤ 16
  | [], _, _ => by simp
  | b :: l, prev, h => by
    rw [Idn.attsErr] at h
    by_cases hb : Idn.attErr prev b = 0
    · rw [if_neg (by simpa using hb)] at h
      intro a ha
      rcases List.mem_cons.1 ha with rfl | ha
      · unfold Idn.attErr at hb
        split at hb
        · cases hb
        · split at hb
          · cases hb
          · split at hb
            · cases hb
            · split at hb
              · cases hb
              · rename_i h1 h2
                exact ⟨h1, by omega⟩
      · exact atts_zero l _ h a ha
    · rw [if_pos (by simpa using hb)] at h
      exact absurd h hb
theorem aCheck_zero {l : List Idn.Att} (h : Idn.aCheck l = 0) : l.length ≤ 32 ∧ ∀ a ∈ l, a.vals.length ≠ 0 ∧ a.vals.length ≤ 16 := by
  unfold Idn.aCheck at h
  split at h
  · cases h
  · exact ⟨by omega, atts_zero l [] h⟩
def vGo (s : Idn.Sch) : List Idn.Att → Int
  | [] => 0
  | a :: l => if attrE s a.name a.vals != 0 then attrE s a.name a.vals else vGo s l
def sValid (s : Idn.Sch) (l : List Idn.Att) : Int :=
  if Idn.aCheck l != 0 then Idn.aCheck l else if vGo (sound s) l != 0 then vGo (sound s) l else if !classedB (sound s) (namesL l) (getL l Idn.mainN) then 9 else 0
theorem vGo_step (s : Idn.Sch) (l : List Idn.Att) (k : Nat) (hk : k < l.length) (r : Int) (h : r = vGo s (l.drop k)) :
    (attrE s l[k].name l[k].vals ≠ 0 → r = attrE s l[k].name l[k].vals) ∧ (attrE s l[k].name l[k].vals = 0 → r = vGo s (l.drop (k + 1))) := by
  rw [List.drop_eq_getElem_cons hk, vGo] at h
  refine ⟨fun hn => ?_, fun hn => ?_⟩
  · rw [h, if_pos (by simpa using hn)]
  · rw [h, if_neg (by simpa using hn)]
/-- attributes of a bounded size -/
def ASm5 (l : List Idn.Att) : Prop := ∀ a ∈ l, a.name.length ≤ 1000000000 ∧ ∀ x ∈ a.vals, x.length ≤ 100000000
set_option maxHeartbeats 2000000 in
set_option maxRecDepth 100000 in
theorem valid_any (u : Value) (s : Idn.Sch) (nm : ByteArray) (va : Value) (l : List Idn.Att) (w : World) (hu : SchV w w.heap.size u s) (hs : SSm s) (hE : Env w) (hU : EnvU w) (hv : AttsV w w.heap.size va l) (hsm : ASm l) (hs5 : ASm5 l) (h4 : ∀ a ∈ l, (tyLook (sound s) a.name).1.syn ≠ 4) :
    Calls Tryz.prog 24 #[u, .agg #[.string nm, va]] w fun e w' => e = .returned (.int .i64 (sValid s l)) ∧ Below w.heap.size w w' := by
  have hLk := fun W (hW : Below w.heap.size w W) => look_any u s W (SchV.mono (SchV.keep hu hW) hW.size) hs
  have hCk := fun W (hW : Below w.heap.size w W) => attsCheck_any va l W (AttsV.mono (AttsV.keep hv hW) hW.size) hsm
  obtain ⟨a, b, rfl, hT, hC⟩ := hu
  obtain ⟨A, ca, rfl, hca⟩ := SlV.shape hT
  obtain ⟨A', cb, rfl, hcb⟩ := SlV.shape hC
  obtain ⟨A0, c0, rfl, hc0⟩ := SlV.shape hv
  clear hT hC
  have HR : Hid (sValid s l = if Idn.aCheck l != 0 then Idn.aCheck l else if vGo (sound s) l != 0 then vGo (sound s) l else if !classedB (sound s) (namesL l) (getL l Idn.mainN) then 9 else 0) := rfl
  generalize sValid s l = r at *
  have hz := fun h => aCheck_zero (l := l) h
  generalize Idn.aCheck l = ck at *
  go_enter Tryz.func24, Tryz.ntmps24
  go_wp2_with fail
  with_reducible refine gen2 (R := fun W => Calls Tryz.prog 49 _ W _) ?_
  intro W hbW hszW hc1 hc2
  have q0 : W.cell? ⟨w.heap.size, 0, none⟩ = some (.slice A s.types.length ca) := hc1 0 _ rfl
  have q1 : W.cell? ⟨w.heap.size, 1, none⟩ = some (.slice A' s.classes.length cb) := hc1 1 _ rfl
  have e1 : W.cell? ⟨w.heap.size + 1, 1, none⟩ = some (.slice A0 l.length c0) := hc2 1 _ rfl
  clear hc1 hc2 hszW
  refine (hCk W hbW).mono ?_
  rintro e w1 ⟨rfl, hb1⟩
  have hbw1 := hbW.trans (hb1.mono hbW.size)
  replace q0 := cell_later hb1 q0
  replace q1 := cell_later hb1 q1
  replace e1 := cell_later hb1 e1
  clear hCk
  by_cases hck : ck = 0
  · have ck0 : (ck == 0) = true := by simpa using hck
    have HR : Hid (r = if vGo (sound s) l != 0 then vGo (sound s) l else if !classedB (sound s) (namesL l) (getL l Idn.mainN) then 9 else 0) := by show _ = _; rw [HR.out, hck]; rfl
    obtain ⟨hl32, hv16⟩ := hz hck
    clear hz hck
    go_wp2_with fail
    refine (hLk w1 hbw1).mono ?_
    rintro e w2 ⟨m1, m2, rfl, hb2, hk⟩
    have hbw2 := hbw1.trans (hb2.mono hbw1.size)
    obtain ⟨o1, o2, rfl, rfl⟩ := hk.shape
    replace e1 := cell_later hb2 e1
    clear hLk q0 q1
    have hCl := fun W (hW : Below w2.heap.size w2 W) => classed_any (.map o1) (.map o2) (sound s) w1.heap.size (.slice A0 l.length c0) l W (hk.keep hW hb2.size) (Nat.le_trans hb2.size hW.size) (dec_sound s) (ssm_sound hs) (bd_sound s)
      (AttsV.mono (AttsV.keep hv (hbw2.trans (hW.mono hbw2.size))) (hbw2.trans (hW.mono hbw2.size)).size) ⟨by omega, fun a ha => ⟨(hs5 a ha).1, by have := (hv16 a ha).2; omega, fun x hx => by have := (hs5 a ha).2 x hx; omega⟩⟩ (fun a ha => (hv16 a ha).1)
      (get_len (fun a ha => (hv16 a ha).2) (by omega) _) (get_all (fun a ha x hx => (hs5 a ha).2 x hx) _)
    generalize classedB (sound s) (namesL l) (getL l Idn.mainN) = cb at *
    have hm2 := hk.1
    clear hk
    have e1a := cell_later ((Below.refl w2.heap.size w2).alloc (Nat.le_refl _) (.cells #[.map o1, .map o2] 59)) e1
    go_upto_block 0 with fail
    with_reducible refine gen1 (R := fun W => Code.wp Tryz.prog _ _ _ W) ?_
    intro W3 hbW3 hszW3 hc3 _
    have k0 : W3.cell? ⟨w2.heap.size, 0, none⟩ = some (.map o1) := hc3 0 _ rfl
    have k1 : W3.cell? ⟨w2.heap.size, 1, none⟩ = some (.map o2) := hc3 1 _ rfl
    replace e1 := cell_later hbW3 e1
    have hbw3 := hbw2.trans (hbW3.mono hbw2.size)
    clear hc3 hszW3 e1a
    go_wp2_with fail
    go_loopw [21] (fun i wr => ∃ k : Nat, k ≤ l.length ∧ i = .int .i64 k ∧ Below W3.heap.size W3 wr ∧ Hid (vGo (sound s) l = vGo (sound s) (l.drop k))) (fun i _ => l.length - (intOf i).toNat)
    case atStart => exact ⟨0, Nat.zero_le _, rfl, Below.refl _ _, by show _ = _; simp⟩
    case round =>
      obtain ⟨k, hkl, rfl, hbr, hinv⟩ := hrel
      have hbwr := hbw3.trans (hbr.mono hbw3.size)
      have hb2r := hbW3.trans (hbr.mono hbW3.size)
      replace k0 := cell_later hbr k0
      replace k1 := cell_later hbr k1
      replace e1 := cell_later hbr e1
      obtain ⟨wo, hwo⟩ : ∃ wo : World, wo = wr := ⟨_, rfl⟩
      subst hwo
      by_cases hlt : k < l.length
      · obtain ⟨b, off, vk, rfl, hbl, c0, c1, hvk⟩ := AttsV.cell (AttsV.keep hv hbwr) hlt
        obtain ⟨Ak, ck2, rfl, hck2⟩ := SlV.shape hvk
        have hltI : (k : Int) < (l.length : Int) := by omega
        have hmem := List.getElem_mem hlt
        obtain ⟨n9, v9⟩ := hs5 _ hmem
        have h16 := (hv16 _ hmem).2
        have h4k := h4 _ hmem
        obtain ⟨s1, s2⟩ := vGo_step (sound s) l k hlt _ hinv.out
        have hAt := fun W (hW : Below wo.heap.size wo W) => attribute_any (.map o1) (.map o2) (sound s) (B l[k].name) (.slice Ak l[k].vals.length ck2) l[k].vals W (hm2.keep (hb2r.trans (hW.mono hb2r.size))) ⟨o2, rfl⟩
          (SlV.mono (SlV.keep hvk (hW.mono hbwr.size)) (Nat.le_trans hbwr.size hW.size)) (hE.keep (hbwr.trans (hW.mono hbwr.size))) (hU.keep (hbwr.trans (hW.mono hbwr.size))) (by rw [Idn.L_B]; exact h4k) (by rw [Idn.size_B]; omega) (by omega) v9
        rw [Idn.L_B] at hAt
        generalize attrE (sound s) l[k].name l[k].vals = ae at *
        have ba := (Below.refl wo.heap.size wo).alloc (Nat.le_refl _) (.cells #[.string (B l[k].name), .slice Ak l[k].vals.length ck2] 51)
        have k0a := cell_later ba k0
        have k1a := cell_later ba k1
        clear ba hinv hvk h4k n9 v9
        by_cases hae : ae = 0
        · have ae0 : (ae == 0) = true := by simpa using hae
          have HF : Hid (vGo (sound s) l = vGo (sound s) (l.drop (k + 1))) := s2 hae
          clear s1 s2 hae
          go_wp2_with fail
          with_reducible refine gen1 (R := fun W => Calls Tryz.prog 50 _ W _) ?_
          intro W5 hbW5 _ _ _
          refine (hAt W5 hbW5).mono ?_
          rintro e w6 ⟨rfl, hb6⟩
          clear k0a k1a hAt
          go_wp2_with fail
          go_roundw
          case rel => exact ⟨k + 1, by omega, by go_num, hbr.trans ((hbW5.trans (hb6.mono hbW5.size)).mono hbr.size), HF⟩
          case measure => simp [intOf]; omega
        · have ae0 : (ae == 0) = false := by simpa using hae
          have HF : Hid (r = ae) := by show _ = _; rw [HR.out, s1 hae, if_pos (by simpa using hae)]
          clear s1 s2 hae
          go_wp2_with fail
          with_reducible refine gen1 (R := fun W => Calls Tryz.prog 50 _ W _) ?_
          intro W5 hbW5 _ _ _
          refine (hAt W5 hbW5).mono ?_
          rintro e w6 ⟨rfl, hb6⟩
          clear k0a k1a hAt
          go_wp2_with fail
          go_ret
          exact ⟨ret_int (by rw [HF.out]), hbwr.trans ((hbW5.trans (hb6.mono hbW5.size)).mono hbwr.size)⟩
      · have hltI : ¬ (k : Int) < (l.length : Int) := by omega
        have hC := hCl wo hb2r
        have HR : Hid (r = if !cb then 9 else 0) := by
          show _ = _
          rw [HR.out, hinv.out, List.drop_eq_nil_of_le (by omega)]; rfl
        clear hinv hCl
        cases cb
        · have HF : Hid (r = 9) := HR
          go_wp2_with fail
          refine hC.mono ?_
          rintro e w6 ⟨rfl, hb6⟩
          go_wp2_with fail
          go_ret
          exact ⟨ret_int (by rw [HF.out]), hbwr.trans (hb6.mono hbwr.size)⟩
        · have HF : Hid (r = 0) := HR
          go_wp2_with fail
          refine hC.mono ?_
          rintro e w6 ⟨rfl, hb6⟩
          go_wp2_with fail
          go_ret
          exact ⟨ret_int (by rw [HF.out]), hbwr.trans (hb6.mono hbwr.size)⟩
  · have ck0 : (ck == 0) = false := by simpa using hck
    have HF : Hid (r = ck) := by show _ = _; rw [HR.out, if_pos (by simpa using hck)]
    clear hz hck
    go_wp2_with fail
    go_ret
    exact ⟨ret_int (by rw [HF.out]), hbw1⟩
end Go.Proofs.YtoelhiccofpgfaaGreatDoor
