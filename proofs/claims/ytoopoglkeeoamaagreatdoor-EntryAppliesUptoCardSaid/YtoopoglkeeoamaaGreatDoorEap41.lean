/- Part 41 of the proof that identitylaw08.EntryApplies returns true: the package variables hold what the program lays; nothing else is asked. -/
import Derived.Test.YtoopoglkeeoamaaGreatDoorEap35
import Derived.Test.YtoopoglkeeoamaaGreatDoorEap40
set_option linter.unusedVariables false
set_option linter.unusedSimpArgs false
set_option maxRecDepth 100000
set_option maxHeartbeats 8000000
/- Plain law of SchemaInherits. -/
namespace Go.Proofs.YtoopoglkeeoamaaGreatDoor
open Go.RowKit Go.Sort
open Idn (L B Bs)
theorem vals_clean : ∀ (l p : List Bs), Idn.valsErr p l = 0 → ∀ x ∈ l, Idn.clean x = true
  | [], _, _, x, hx => by simp at hx
  | v :: l, p, h, x, hx => by
    unfold Idn.valsErr at h
    split at h
    · cases h
    · rename_i h1
      split at h
      · cases h
      · rcases List.mem_cons.1 hx with rfl | hx
        · simpa using h1
        · exact vals_clean l _ h x hx
theorem atts_clean : ∀ (l p : List Idn.Att), Idn.attsErr p l = 0 → ∀ a ∈ l, ∀ x ∈ a.vals, Idn.clean x = true
  | [], _, _, a, ha => by simp at ha
  | b :: l, p, h, a, ha => by
    unfold Idn.attsErr at h
    split at h
    · rename_i hn; simp [h] at hn
    · rename_i hn
      have h0 : Idn.attErr p b = 0 := by simpa using hn
      rcases List.mem_cons.1 ha with rfl | ha
      · unfold Idn.attErr at h0
        split at h0
        · cases h0
        · split at h0
          · cases h0
          · split at h0
            · cases h0
            · split at h0
              · cases h0
              · exact vals_clean _ _ h0
      · exact atts_clean l _ h a ha
theorem aCheck_clean {l : List Idn.Att} (h : Idn.aCheck l = 0) : ∀ a ∈ l, ∀ x ∈ a.vals, Idn.clean x = true := by
 unfold Idn.aCheck at h
 split at h
 ·cases h
 ·exact atts_clean l [] h
end Go.Proofs.YtoopoglkeeoamaaGreatDoor
/- Plain functions: what the layer entry and the rest of the layer attrs compute. -/
namespace Go.Proofs.YtoopoglkeeoamaaGreatDoor
open Go.RowKit Go.Sort
open Idn (L B Bs)
def eCheck (n : Bs) (l : List Idn.Att) : Int := if n.isEmpty || !validN n then 5 else Idn.aCheck l
def eValsK (s : Idn.Sch) (a : Bs) : List Bs → List Bs → List Bs × Int
 | acc, [] => (acc, 0)
 | acc, v :: l => if (sNorm s a v).2 != 0 then ([], (sNorm s a v).2) else eValsK s a (acc ++ [(sNorm s a v).1]) l
def eVals (s : Idn.Sch) (a : Bs) (l : List Bs) : List Bs × Int := eValsK s a [] l
def dupK : List Bs → List Bs → Bool
 | _, [] => false
 | p, v :: l => p.contains v || dupK (p ++ [v]) l
def eAtt (s : Idn.Sch) (a : Bs) (l : List Bs) : List Bs × Int := if (eVals s a l).2 != 0 then ([], (eVals s a l).2) else if dupK [] (eVals s a l).1 then ([], 7) else ((eVals s a l).1, 0)
def eAttsK (s : Idn.Sch) : List Idn.Att → List Idn.Att → List Idn.Att × Int
 | acc, [] => (acc, 0)
 | acc, a :: l => if (eAtt s a.name a.vals).2 != 0 then ([], (eAtt s a.name a.vals).2) else eAttsK s (acc ++ [⟨a.name, (eAtt s a.name a.vals).1⟩]) l
def leLow (a b : Idn.Att) : Bool := decide (Idn.lower a.name ≤ Idn.lower b.name)
def byLow (l : List Idn.Att) : List Idn.Att := l.mergeSort leLow
abbrev En := Bs × List Idn.Att
def eOut (s : Idn.Sch) (n : Bs) (l : List Idn.Att) : En × Int := if sValid s l != 0 then (([], []), sValid s l) else ((n, l), 0)
def eNormal (s : Idn.Sch) (n : Bs) (l : List Idn.Att) : En × Int :=
 if (Idn.cleanN n).2 != 0 || (Idn.cleanN n).1.isEmpty then (([], []), 5)
 else if Idn.aCheck l != 0 then (([], []), Idn.aCheck l)
 else if (eAttsK s [] (byLow l)).2 != 0 then (([], []), (eAttsK s [] (byLow l)).2)
 else eOut s (Idn.cleanN n).1 (Idn.aSorted (eAttsK s [] (byLow l)).1)
def aSet (l : List Idn.Att) (n : Bs) (v : List Bs) : List Idn.Att := Idn.rSorted (l.filter (fun a => !decide (a.name = Idn.lower n)) ++ [⟨Idn.lower n, v⟩])
def aLim (l : List Idn.Att) (n : Bs) : List Idn.Att × Int := if 32 < l.length ∨ 16 < (rGet l n).length then ([], 3) else (l, 0)
def aAdd (l : List Idn.Att) (n : Bs) (v : List Bs) : List Idn.Att × Int :=
 if !Idn.name n then ([], 5) else if v.length = 0 then ([], 6) else if vErr (rGet l n) [] v != 0 then ([], vErr (rGet l n) [] v)
 else aLim (aSet (Idn.rSorted l) n (rGet l n ++ v)) n
def rmK : List Bs → List Bs → Option (List Bs)
 | old, [] => some old
 | old, v :: l => if old.contains v then rmK (old.erase v) l else none
def aRemove (l : List Idn.Att) (n : Bs) (v : List Bs) : List Idn.Att × Int :=
 if !Idn.name n then ([], 5) else if (rGet l n).length = 0 then ([], 6) else if v.length = 0 then (aSet (Idn.rSorted l) n [], 0)
 else match rmK (rGet l n) v with
  | none => ([], 6)
  | some o => (aSet (Idn.rSorted l) n o, 0)
def aReplace (l : List Idn.Att) (n : Bs) (v : List Bs) : List Idn.Att × Int :=
 if !Idn.name n then ([], 5) else if Idn.valsErr [] v != 0 then ([], Idn.valsErr [] v) else if 16 < v.length then ([], 3)
 else aLim (aSet (Idn.rSorted l) n v) n
structure Md where
 op : Int
 name : Bs
 vals : List Bs
def eMod (s : Idn.Sch) (l : List Idn.Att) (m : Md) : List Idn.Att × Int :=
 if m.op < 1 ∨ 3 < m.op then ([], 2)
 else if !(tyLook (sound s) m.name).2 then ([], 6)
 else if (eAtt s m.name m.vals).2 != 0 then ([], (eAtt s m.name m.vals).2)
 else if m.op = 2 then aRemove l m.name (eAtt s m.name m.vals).1
 else if m.op = 1 then (if 0 < (eAtt s m.name m.vals).1.length then aAdd l m.name (eAtt s m.name m.vals).1 else ([], 6))
 else aReplace l m.name (eAtt s m.name m.vals).1
def eModsK (s : Idn.Sch) : List Idn.Att → List Md → List Idn.Att × Int
 | l, [] => (l, 0)
 | l, m :: r => if (eMod s l m).2 != 0 then ([], (eMod s l m).2) else eModsK s (eMod s l m).1 r
def sameV (a b : List Idn.Att) : Bool := decide (a.map (fun x => (x.name, x.vals)) = b.map (fun x => (x.name, x.vals)))
def eApply (s : Idn.Sch) (n : Bs) (l : List Idn.Att) (ms : List Md) : En × Int :=
 if (eNormal s n l).2 != 0 || (!decide ((eNormal s n l).1.1 = n) || !sameV (eNormal s n l).1.2 l) then (([], []), 2)
 else if 32 < ms.length then (([], []), 3)
 else if (eModsK s l ms).2 != 0 then (([], []), (eModsK s l ms).2)
 else eOut s n (eModsK s l ms).1
def minus (a b : List Bs) : List Bs := a.filter fun x => !b.contains x
def difs (n : Bs) (old new : List Bs) : List Md :=
 if (minus old new).length + (minus new old).length = 0 then []
 else if new.length = 0 then [⟨2, n, []⟩]
 else if old.length = 0 then [⟨1, n, new⟩]
 else if (minus old new).length = old.length then [⟨3, n, new⟩]
 else (if 0 < (minus old new).length then [⟨2, n, minus old new⟩] else []) ++ (if 0 < (minus new old).length then [⟨1, n, minus new old⟩] else [])
def eDiff (n : Bs) (l : List Idn.Att) (m : Bs) (k : List Idn.Att) : List Md :=
 if eCheck n l != 0 || eCheck m k != 0 then [] else (Lib.compact (Idn.srt (namesL l ++ namesL k))).flatMap fun x => difs x (getL l x) (getL k x)
def plainB (c : UInt8) : Bool := decide (33 ≤ c.toNat) && (decide (c.toNat ≤ 126) && ![37, 124, 44, 61, 59, 34].contains c)
def hexB (n : Nat) : UInt8 := if n < 10 then UInt8.ofNat (48 + n) else UInt8.ofNat (55 + n)
def esc1 (c : UInt8) : Bs := if plainB c then [c] else [37, hexB (c.toNat / 16), hexB (c.toNat % 16)]
def esc (l : Bs) : Bs := l.flatMap esc1
def eLine (a v : Bs) : Bs := a ++ 32 :: (esc v ++ [10])
def eBody (l : List Idn.Att) : Bs := l.flatMap fun a => a.vals.flatMap fun v => eLine a.name v
def entryN : Bs := [101, 110, 116, 114, 121]
def eText (n : Bs) (l : List Idn.Att) : Bs × Int := if eCheck n l != 0 then ([], eCheck n l) else (eLine entryN n ++ eBody (Idn.aSorted l), 0)
end Go.Proofs.YtoopoglkeeoamaaGreatDoor
/- Modifications and entries in memory. -/
namespace Go.Proofs.YtoopoglkeeoamaaGreatDoor
open Go.RowKit Go.Sort
open Idn (L B Bs)
def EMd (w : World) (hi : Nat) (x : Md) (cs : List Value) : Prop := ∃ v, cs = [.int .i64 x.op, sv x.name, v] ∧ StrsV w hi v x.vals
abbrev ModsV (w : World) (hi : Nat) (v : Value) (l : List Md) : Prop := SlV (EMd w hi) w hi 3 v l
theorem EMd.keep {w w' : World} {hi : Nat} {x : Md} {cs : List Value} (h : EMd w hi x cs) (hb : Below hi w w') : EMd w' hi x cs := by
 obtain ⟨v, h1, h2⟩ := h
 exact ⟨v, h1, SlV.keep h2 hb⟩
theorem EMd.mono {w : World} {hi hi' : Nat} {x : Md} {cs : List Value} (h : EMd w hi x cs) (hh : hi ≤ hi') : EMd w hi' x cs := by
 obtain ⟨v, h1, h2⟩ := h
 exact ⟨v, h1, SlV.mono h2 hh⟩
theorem ModsV.keep {w w' : World} {hi : Nat} {v : Value} {l : List Md} (h : ModsV w hi v l) (hb : Below hi w w') : ModsV w' hi v l := SlV.keepE h hb fun _ _ _ he => he.keep hb
theorem ModsV.mono {w : World} {hi hi' : Nat} {v : Value} {l : List Md} (h : ModsV w hi v l) (hh : hi ≤ hi') : ModsV w hi' v l :=
 SlV.mono (SlV.keepE h (Below.refl _ _) fun _ _ _ he => he.mono hh) hh
theorem ModsV.cell {w : World} {hi : Nat} {A : Option Addr} {n c : Nat} {l : List Md} (h : ModsV w hi (.slice A n c) l) {k : Nat} (hk : k < l.length) :
  ∃ b off v, A = some ⟨b, off, none⟩ ∧ b < hi ∧ w.cell? ⟨b, off + k * 3, none⟩ = some (.int .i64 l[k].op) ∧ w.cell? ⟨b, off + k * 3 + 1, none⟩ = some (.string (B l[k].name)) ∧ w.cell? ⟨b, off + k * 3 + 2, none⟩ = some v ∧ StrsV w hi v l[k].vals := by
 obtain ⟨b, off, hA, hb, cs, h1, ⟨v, h2, h4⟩, h3⟩ := h.at_ hk
 subst h2
 exact ⟨b, off, v, hA, hb, by simpa using h3 0 _ rfl, by simpa [sv, Nat.add_assoc] using h3 1 _ rfl, by simpa [Nat.add_assoc] using h3 2 _ rfl, h4⟩
def EntW (w : World) (hi : Nat) (v : Value) (n : Bs) (l : List Idn.Att) : Prop := ∃ a, v = .agg #[.string (B n), a] ∧ AttsV w hi a l
theorem EntW.keep {w w' : World} {hi : Nat} {v : Value} {n : Bs} {l : List Idn.Att} (h : EntW w hi v n l) (hb : Below hi w w') : EntW w' hi v n l := by
 obtain ⟨a, e, h1⟩ := h
 exact ⟨a, e, AttsV.keep h1 hb⟩
theorem EntW.mono {w : World} {hi hi' : Nat} {v : Value} {n : Bs} {l : List Idn.Att} (h : EntW w hi v n l) (hh : hi ≤ hi') : EntW w hi' v n l := by
 obtain ⟨a, e, h1⟩ := h
 exact ⟨a, e, AttsV.mono h1 hh⟩
def RetSE (w : World) (r : List Bs × Int) (e : Ending) (w' : World) : Prop :=
 ∃ v, e = .returned (.tuple #[v, .int .i64 r.2]) ∧ w'.ownsRow w.heap.size 9 1 v r.1.length (r.1.map sv) ∧ Below w.heap.size w w'
end Go.Proofs.YtoopoglkeeoamaaGreatDoor
/- name.Valid, entry.Check. -/
namespace Go.Proofs.YtoopoglkeeoamaaGreatDoor
open Go.RowKit Go.Sort
open Idn (L B Bs drop_L take_L size_L)
theorem nm_valid_any (s : ByteArray) (w : World) (hs : s.size ≤ 1000000000) :
  Calls Tryz.prog 40 #[.string s] w fun e w' => e = .returned (.bool (validN (L s))) ∧ Below w.heap.size w w' := by
 have hN := nm_normal_any s w hs
 have hv := normal_valid (L s)
 generalize Idn.normal (L s) = r at *
 generalize validN (L s) = b at *
 obtain ⟨l, d⟩ := r
 subst hv
 go_enter Tryz.func40, Tryz.ntmps40
 go_wp2_with fail
 refine hN.mono ?_
 rintro e w1 ⟨v, rfl, hown, hb⟩
 clear hN
 go_wp2
 go_ret
 exact ⟨rfl, hb⟩
theorem eCheck_any (n : ByteArray) (a : Value) (l : List Idn.Att) (w : World) (hv : AttsV w w.heap.size a l) (hn : n.size ≤ 1000000000) (hs : ASm l) :
  Calls Tryz.prog 14 #[.agg #[.string n, a]] w fun e w' => e = .returned (.int .i64 (eCheck (L n) l)) ∧ Below w.heap.size w w' := by
 have hV := fun W => nm_valid_any n W hn
 have hC := fun W (hW : Below w.heap.size w W) => attsCheck_any a l W (AttsV.mono (AttsV.keep hv hW) hW.size) hs
 obtain ⟨A, c, rfl, hc⟩ := SlV.shape hv
 have HR : Hid (eCheck (L n) l = if (L n).isEmpty || !validN (L n) then 5 else Idn.aCheck l) := rfl
 have hem : n.toList.isEmpty = (L n).isEmpty := by rw [toList_L]
 generalize eCheck (L n) l = r at *
 generalize Idn.aCheck l = ck at *
 generalize validN (L n) = vn at *
 generalize (L n).isEmpty = em at *
 cases em
 ·have hem2 : (!n.toList.isEmpty) = true := by rw [hem]; rfl
  cases vn
  ·have HF : Hid (r = 5) := HR.out
   clear HR hC
   go_enter Tryz.func14, Tryz.ntmps14
   go_wp2_with (go_at_call 40; refine (hV _).mono ?_; rintro e w1 ⟨rfl, hb1⟩)
   go_ret
   exact ⟨ret_int (by rw [HF.out]), ((Below.refl _ _).alloc (Nat.le_refl _) _).trans (hb1.mono (by simp))⟩
  ·have HF : Hid (r = ck) := HR.out
   clear HR
   go_enter Tryz.func14, Tryz.ntmps14
   go_upto_region 1 with fail
   with_reducible refine gen1 (R := fun W => Code.wp Tryz.prog _ _ _ W) ?_
   intro W hbW hszW hc1 _
   have a0 : W.cell? ⟨w.heap.size, 0, none⟩ = some (.string n) := hc1 0 _ rfl
   have a1 : W.cell? ⟨w.heap.size, 1, none⟩ = some (.slice A l.length c) := hc1 1 _ rfl
   clear hc1 hszW
   go_wp2_with fail
   refine (hV W).mono ?_
   rintro e w1 ⟨rfl, hb1⟩
   replace a1 := cell_later hb1 a1
   have hbw := hbW.trans (hb1.mono hbW.size)
   clear hV
   go_wp2_with fail
   refine (hC w1 hbw).mono ?_
   rintro e w2 ⟨rfl, hb2⟩
   go_wp2
   go_ret
   exact ⟨ret_int (by rw [HF.out]), hbw.trans (hb2.mono hbw.size)⟩
 ·have hem2 : (!n.toList.isEmpty) = false := by rw [hem]; rfl
  have HF : Hid (r = 5) := by show _ = _; rw [HR.out]; rfl
  clear HR hC hV
  go_enter Tryz.func14, Tryz.ntmps14
  go_wp2
  go_ret
  exact ⟨ret_int (by rw [HF.out]), (Below.refl _ _).alloc (Nat.le_refl _) _⟩
end Go.Proofs.YtoopoglkeeoamaaGreatDoor
/- entry: normal, twice. -/
namespace Go.Proofs.YtoopoglkeeoamaaGreatDoor
open Go.RowKit Go.Sort
open Idn (L B Bs drop_L take_L size_L)
theorem eValsK_step (s : Idn.Sch) (a : Bs) (l : List Bs) (k : Nat) (hk : k < l.length) (acc : List Bs) (r : List Bs × Int) (h : r = eValsK s a acc (l.drop k)) :
  ((sNorm s a l[k]).2 ≠ 0 → r = ([], (sNorm s a l[k]).2)) ∧ ((sNorm s a l[k]).2 = 0 → r = eValsK s a (acc ++ [(sNorm s a l[k]).1]) (l.drop (k + 1))) := by
 rw [List.drop_eq_getElem_cons hk, eValsK] at h
 exact ⟨fun hn => by rw [h, if_pos (by simpa using hn)], fun hn => by rw [h, if_neg (by simpa using hn)]⟩
theorem enorm_any (u : Value) (s : Idn.Sch) (a : ByteArray) (v : Value) (l : List Bs) (w : World) (hu : SchV w w.heap.size u s) (hs : SSm s) (hE : Env w) (hU : EnvU w) (hv : StrsV w w.heap.size v l) (ha : a.size ≤ 1000000000) (hl : l.length ≤ 1048600) (hx : ∀ x ∈ l, x.length ≤ 100000000) :
  Calls Tryz.prog 50 #[u, .string a, v] w (RetSE w (eVals s (L a) l)) := by
 have hN := fun W (hW : Below w.heap.size w W) x hx => schNormal_any u s a x W (SchV.mono (SchV.keep hu hW) hW.size) hs (hE.keep hW) (hU.keep hW) ha hx
 obtain ⟨au, bu, rfl, hT, hC⟩ := hu
 obtain ⟨A1, c1, rfl, _⟩ := SlV.shape hT
 obtain ⟨A2, c2, rfl, _⟩ := SlV.shape hC
 obtain ⟨A, c, rfl, hc⟩ := hv.shape
 clear hT hC
 generalize hr : eVals s (L a) l = r
 have HR : Hid (r = eValsK s (L a) [] l) := hr.symm
 clear hr
 go_enter Tryz.func50, Tryz.ntmps50
 go_upto_region 1 with fail
 with_reducible refine gen1 (R := fun W => Code.wp Tryz.prog _ _ _ W) ?_
 intro W0 hbW0 hszW0 hc0 _
 have q0 : W0.cell? ⟨w.heap.size, 0, none⟩ = some (.slice A1 s.types.length c1) := hc0 0 _ rfl
 have q1 : W0.cell? ⟨w.heap.size, 1, none⟩ = some (.slice A2 s.classes.length c2) := hc0 1 _ rfl
 clear hc0 hszW0
 go_wp2_with fail
 go_loopw [8, 15] (fun o i wr => ∃ (k : Nat) (acc : List Bs), k ≤ l.length ∧ i = .int .i64 k ∧ wr.ownsRow W0.heap.size 9 1 o k (acc.map sv) ∧ Below W0.heap.size W0 wr ∧ Hid (r = eValsK s (L a) acc (l.drop k)) ∧ Hid (acc.length = k)) (fun _ i _ => l.length - (intOf i).toNat)
 case atStart => exact ⟨0, [], Nat.zero_le _, rfl, World.ownsRow_nil _ _ _ _, Below.refl _ _, by show _ = _; rw [HR.out]; rfl, rfl⟩
 case round =>
  obtain ⟨k, acc, hk, rfl, hown, hb, hinv, hal⟩ := hrel
  have hbw := hbW0.trans (hb.mono hbW0.size)
  obtain ⟨wo, hwo⟩ : ∃ wo : World, wo = wr := ⟨_, rfl⟩
  subst hwo
  by_cases hlt : k < l.length
  ·obtain ⟨b, off, hA, hbl, d0⟩ := StrsV.cell (SlV.keep hv hbw) hlt
   subst hA
   have hltI : (k : Int) < (l.length : Int) := by omega
   have hsz := hx l[k] (List.getElem_mem hlt)
   have hszB : (B l[k]).size ≤ 100000000 := by rw [Idn.size_B]; exact hsz
   have hNk := hN wo hbw (B l[k]) hszB
   rw [Idn.L_B] at hNk
   obtain ⟨t1, t2⟩ := eValsK_step s (L a) l k hlt acc r hinv.out
   have p0 := cell_later hb q0
   have p1 := cell_later hb q1
   generalize sNorm s (L a) l[k] = sn at *
   obtain ⟨sx, se⟩ := sn
   dsimp only at t1 t2 hNk
   clear hinv hN q0 q1
   by_cases he : se = 0
   ·subst he
    have HF : Hid (r = eValsK s (L a) (acc ++ [sx]) (l.drop (k + 1))) := t2 rfl
    clear t1 t2
    go_wp2_with fail
    refine hNk.mono ?_
    rintro e w1 ⟨rfl, hb1⟩
    have hown1 := own_below hown hb1
    have hb01 := hb.trans (hb1.mono hb.size)
    clear hNk hown
    go_wp2_with (at_builtin; refine wpList_push w1 rfl _ _ 45 rfl W0.heap.size 9 (.string ⟨#[]⟩) 1 16 Tryz.underlying45 info_str rfl (by decide) _ k _ hown1 rfl [.string (B sx)] rfl rfl (by intro u hu; simp at hu; subst hu; rfl) (by omega) hb01.size ?_ rfl)
    intro v' w2 hown2 _ _ hb2 _
    clear hown1
    go_wp2
    go_roundw
    case rel => exact ⟨k + 1, acc ++ [sx], by omega, by go_num, by rw [List.map_append]; exact hown2, hb01.trans hb2, HF, by show _ = _; rw [List.length_append, hal.out]; rfl⟩
    case measure => simp [intOf]; omega
   ·have HF : Hid (r = ([], se)) := t1 he
    have hne : (se != 0) = true := by simpa using he
    clear t1 t2 he
    go_wp2_with fail
    refine hNk.mono ?_
    rintro e w1 ⟨rfl, hb1⟩
    go_wp2
    go_ret2
    exact ⟨_, by rw [HF.out]; rfl, by rw [HF.out]; exact World.ownsRow_nil _ _ _ _, hbw.trans (hb1.mono hbw.size)⟩
  ·have hkl : k = l.length := by omega
   have hltI : ¬ (k : Int) < (l.length : Int) := by omega
   have HF : Hid (r = (acc, 0)) := by show _ = _; rw [hinv.out, List.drop_eq_nil_of_le (by omega)]; rfl
   clear hinv hN
   go_wp2
   go_ret2
   exact ⟨_, by rw [HF.out]; rfl, by rw [HF.out]; show _; rw [hal.out]; exact own_base hown (by have := hbW0.size; omega), hbw⟩
theorem dupK_step (l : List Bs) (k : Nat) (hk : k < l.length) (r : Bool) (h : r = dupK (l.take k) (l.drop k)) : ((l.take k).contains l[k] = true → r = true) ∧ ((l.take k).contains l[k] = false → r = dupK (l.take (k + 1)) (l.drop (k + 1))) := by
 rw [List.drop_eq_getElem_cons hk, dupK] at h
 exact ⟨fun hn => by rw [h, hn]; rfl, fun hn => by rw [h, hn, List.take_succ_eq_append_getElem hk]; rfl⟩
theorem zeroBool (w : World) : (zeroValue 4).run Tryz.prog w = .ok (.bool false) w := by kernel_rfl
theorem etwice_any (v : Value) (l : List Bs) (w : World) (hv : StrsV w w.heap.size v l) (hl : l.length ≤ 1000000000) :
  Calls Tryz.prog 51 #[v] w fun e w' => e = .returned (.bool (dupK [] l)) ∧ Below w.heap.size w w' := by
 obtain ⟨A, c, rfl, hc⟩ := hv.shape
 generalize hr : dupK [] l = r
 have HR := Lib.hid hr
 clear hr
 have hmm := @run_makeMap Tryz.prog
 go_enter Tryz.func51, Tryz.ntmps51
 go_wp2_with fail
 go_loopw [9] (fun i wr => ∃ k : Nat, k ≤ l.length ∧ i = .int .i64 k ∧ MapIs wr w.heap.size (setE (l.take k)) ∧ Below w.heap.size w wr ∧ Hid (r = dupK (l.take k) (l.drop k))) (fun i _ => l.length - (intOf i).toNat)
 case atStart => exact ⟨0, Nat.zero_le _, rfl, MapIs.made w, (Below.refl _ _).alloc (Nat.le_refl _) _, by show _ = _; rw [← HR.out]; simp⟩
 case round =>
  obtain ⟨k, hk, rfl, hm, hb, hinv⟩ := hrel
  by_cases hlt : k < l.length
  ·obtain ⟨b, off, hA, hbl, d0⟩ := StrsV.cell (SlV.keep hv hb) hlt
   subst hA
   have hltI : (k : Int) < (l.length : Int) := by omega
   obtain ⟨t1, t2⟩ := dupK_step l k hlt r hinv.out
   obtain ⟨g1, g2⟩ := lk_set l[k] (l.take k)
   clear hinv
   cases hc : (l.take k).contains l[k]
   ·have HF : Hid (r = dupK (l.take (k + 1)) (l.drop (k + 1))) := t2 hc
    have hnew := g2 hc
    rw [hc] at g1
    have HN := Lib.hid hnew
    have HG := Lib.hid g1
    clear t1 t2 g1 g2 hc hnew
    go_wp2_with (first | (at_mapUpdate; refine wpList_put _ rfl _ _ _ 115 rfl 9 4 Tryz.underlying9 Tryz.underlying115 w.heap.size rfl hm (B l[k]) rfl (.bool true) rfl HN.out ?_; intro w2 hm2 hbt) | (at_lookup; refine wpList_look1 wr rfl _ _ 115 rfl 9 4 Tryz.underlying9 Tryz.underlying115 (zeroBool _) w.heap.size hm rfl (B l[k]) rfl HG.out ?_))
    have hb2 := hb.trans (hbt.below (Nat.le_refl _) hb.size)
    clear hm
    go_roundw
    case rel =>
     refine ⟨k + 1, by omega, by go_num, ?_, hb2, HF⟩
     rw [List.take_succ_eq_append_getElem hlt]
     unfold setE at hm2 ⊢
     rw [List.map_append]
     exact hm2
    case measure => simp [intOf]; omega
   ·have HF : Hid (r = true) := t1 hc
    rw [hc] at g1
    have HG := Lib.hid g1
    clear t1 t2 g1 g2 hc
    go_wp2_with (at_lookup; refine wpList_look1 wr rfl _ _ 115 rfl 9 4 Tryz.underlying9 Tryz.underlying115 (zeroBool _) w.heap.size hm rfl (B l[k]) rfl HG.out ?_)
    go_ret
    exact ⟨ret_bool (by rw [HF.out]), hb⟩
  ·have hltI : ¬ (k : Int) < (l.length : Int) := by omega
   have HF : Hid (r = false) := by show _ = _; rw [hinv.out, List.drop_eq_nil_of_le (by omega)]; rfl
   clear hinv
   go_wp2
   go_ret
   exact ⟨ret_bool (by rw [HF.out]), hb⟩
end Go.Proofs.YtoopoglkeeoamaaGreatDoor
/- entry: the order of Normal: slices.SortFunc at attributes, by their names in lower case. -/
namespace Go.Proofs.YtoopoglkeeoamaaGreatDoor
open Go.RowKit Go.Sort
open Idn (L B Bs drop_L take_L size_L)
def RowV (w : World) (base : Nat) (v : Value) (ps : List (Idn.Att × Value)) : Prop :=
 w.ownsRow base 48 2 v ps.length (rowA ps) ∧ ∀ p ∈ ps, ∃ A c, p.2 = .slice A p.1.vals.length c
theorem fn_enormal1 : FnB 47 := by intro a w; kernel_rfl
theorem enormal1_any (x y : Bs) (A A' : Option Addr) (n c n' c' : Nat) (w : World) (hx : x.length ≤ 1000000000) (hy : y.length ≤ 1000000000) : Calls Tryz.prog 47 #[.agg #[.string (B x), .slice A n c], .agg #[.string (B y), .slice A' n' c']] w fun e w' => e = .returned (.int .i64 (cmpB (Idn.lower x) (Idn.lower y))) ∧ ∃ q os', w' = grow (w.drewN q) os' := by
 have hxB : (B x).size ≤ 1000000000000 := by rw [Idn.size_B]; omega
 have hyB : (B y).size ≤ 1000000000000 := by rw [Idn.size_B]; omega
 have hL1 := fun W => lowerD_any (B x) W hxB
 have hL2 := fun W => lowerD_any (B y) W hyB
 have hC := fun W => Tryz.strings_Compare (B (Idn.lower x)) (B (Idn.lower y)) W
 have hcmp : Lib.compareBytes (B (Idn.lower x)).data.toList (B (Idn.lower y)).data.toList = cmpB (Idn.lower x) (Idn.lower y) := (cmpB_eq _ _).symm
 rw [hcmp] at hC
 rw [Idn.L_B] at hL1 hL2
 generalize cmpB (Idn.lower x) (Idn.lower y) = d0 at *
 clear hcmp
 go_enter Tryz.func47, Tryz.ntmps47
 go_upto_region 1 with fail
 with_reducible refine gen2D (R := fun W => Code.wp Tryz.prog _ _ _ W) ?_
 intro W hbW hdr hc1 hc2
 have x0 : W.cell? ⟨w.heap.size, 0, none⟩ = some (.string (B x)) := hc1 0 _ rfl
 have y0 : W.cell? ⟨w.heap.size + 1, 0, none⟩ = some (.string (B y)) := hc2 0 _ rfl
 have k0 := cell_drewn x0
 have k1 := cell_drewn y0
 have q1 := fun d os => calls_drewn (hL1 (grow (W.drewN d) os))
 have q2 := fun d os => calls_drewn (hL2 (grow (W.drewN d) os))
 have q3 : ∀ d os, Calls Tryz.prog 48 #[.string (B (Idn.lower x)), .string (B (Idn.lower y))] (grow (W.drewN d) os) fun e w'' => e = .returned (.int .i64 d0) ∧ ∃ p : Regrown, w'' = grow (W.drewN p.d) p.os := fun d os => (hC (grow (W.drewN d) os)).mono fun _ _ ⟨a, b⟩ => ⟨a, ⟨d, os⟩, b⟩
 have HD := Lib.hid hdr
 clear hdr hc1 hc2 x0 y0 hL1 hL2 hC
 generalize B (Idn.lower x) = lx at *
 generalize B (Idn.lower y) = ly at *
 refine wp_region_quiet_drew (by kernel_rfl) (by kernel_rfl) ?_
 repeat (first | go_big_quiet_step ((first | (go_at_call 49; first | with_reducible exact q1 _ _ | with_reducible exact q2 _ _) | (go_at_call 48; exact q3 _ _))) | quiet_step ((first | (go_at_call 49; first | with_reducible exact q1 _ _ | with_reducible exact q2 _ _) | (go_at_call 48; exact q3 _ _))))
 refine wpQuiet_nil ?_
 intro _ hw'
 obtain ⟨⟨dq, osq⟩, hw''⟩ := hw'
 subst hw''
 have hb6 := below_drewn W dq osq
 have hd6 : w.drawn ≤ (grow (W.drewN dq) osq).drawn := by rw [HD.out]; exact Nat.le_add_right _ _
 have HF := grown_form (hbW.trans (hb6.mono hbW.size)) hd6
 go_wp2
 go_ret
 exact ⟨rfl, HF⟩
section
variable {qs : List (Idn.Att × Value)}
def cfE (x y : {p : Idn.Att × Value // p ∈ qs}) : Int := cmpB (Idn.lower x.1.1.name) (Idn.lower y.1.1.name)
theorem ltE (x y : {p : Idn.Att × Value // p ∈ qs}) : ltOf cfE x y = decide (Idn.lower x.1.1.name < Idn.lower y.1.1.name) := by
 unfold ltOf cfE cmpB
 by_cases h : Idn.lower x.1.1.name < Idn.lower y.1.1.name
 ·simp [h]
 ·by_cases h2 : Idn.lower y.1.1.name < Idn.lower x.1.1.name <;> simp [h, h2]
theorem swoE : SWO (ltOf (cfE (qs := qs))) where
 irrefl x := by rw [ltE]; simp
 trans x y z h1 h2 := by
  rw [ltE] at *
  simp only [decide_eq_true_eq] at *
  exact List.lt_trans h1 h2
 ntrans x y z h1 h2 := by
  rw [ltE] at *
  simp only [decide_eq_false_iff_not] at *
  rw [List.not_lt] at *
  exact List.le_trans h2 h1
end
theorem sortE_any (v : Value) (base : Nat) (qs : List (Idn.Att × Value)) (w : World) (hown : RowV w base v qs) (hbase : base ≤ w.heap.size) (hl : qs.length ≤ 1000) (hsz0 : ∀ p ∈ qs, p.1.name.length ≤ 1000000000) (hnd : ((qs.map (·.1)).map fun a => Idn.lower a.name).Nodup) :
  Calls Tryz.prog 46 #[v, .func (.func 47) #[] #[]] w fun e w' => e = .returned (.tuple #[]) ∧ ∃ qs', RowV w' base v qs' ∧ qs'.Perm qs ∧ qs'.map (·.1) = byLow (qs.map (·.1)) ∧ Below base w w' := by
 by_cases h0 : qs = []
 ·subst h0
  obtain ⟨A, c, hv⟩ := own_shape hown.1
  have h := AnyF.slices_SortFunc_none Tryz.sortA A c (.func (.func 47) #[] #[]) w
  change Calls Tryz.prog 46 _ _ _ at h
  rw [hv]
  refine h.mono ?_
  rintro e w' ⟨rfl, rfl⟩
  exact ⟨rfl, [], by rw [← hv]; exact hown, List.Perm.refl _, by simp [byLow], Below.refl _ _⟩
 ·have hpos : 0 < qs.length := List.length_pos_iff.2 h0
  rcases hown.1.2 with ⟨_, hn0⟩ | ⟨g, cap, cur, hu, hbg, hbk, h1, h2, h3, h4⟩
  ·omega
  letI : Inhabited {p : Idn.Att × Value // p ∈ qs} := ⟨⟨qs[0], List.getElem_mem hpos⟩⟩
  have hsz : qs.attach.toArray.size = qs.length := by simp
  have hfl := flatA (qs := qs) qs.attach
  rw [List.attach_map_subtype_val] at hfl
  have hH : HoldsK encA 2 w g 0 qs.attach.toArray := fun j hj => by
   rw [size_flatK, hsz] at hj
   have hjs : j < (Go.Sort.flatK encA 2 qs.attach.toArray).size := by rw [size_flatK, hsz]; exact hj
   refine ⟨?_, Lib.frozen_of_heap hbk _⟩
   rw [Nat.zero_add, cell_of_row w g j _ _ (0, 0) hbk, getElem!_pos _ j hjs, ← Array.getElem?_toList]
   have := congrArg (·[j]?) h4
   simp only [List.getElem?_take_of_lt hj] at this
   rw [this, ← hfl, Array.getElem?_toList, Array.getElem?_eq_getElem hjs]
   rfl
  have hcmp : CmpLays Tryz.prog 47 #[] encA 2 (cfE (qs := qs)) g 0 qs.attach.toArray.size w := fun m os dk _ x y => by
   obtain ⟨A1, c1, e1⟩ := hown.2 _ x.2
   obtain ⟨A2, c2, e2⟩ := hown.2 _ y.2
   show Calls Tryz.prog _ #[.agg #[sv x.1.1.name, x.1.2], .agg #[sv y.1.1.name, y.1.2]] _ _
   rw [e1, e2]
   exact enormal1_any _ _ _ _ _ _ _ _ _ (hsz0 _ x.2) (hsz0 _ y.2)
  have hT : ∀ x y : {p : Idn.Att × Value // p ∈ qs}, ltOf cfE x y = false → ltOf cfE y x = false → x = y := fun x y a b => by
   rw [ltE] at a b
   simp only [decide_eq_false_iff_not] at a b
   rw [List.not_lt] at a b
   have e : Idn.lower x.1.1.name = Idn.lower y.1.1.name := List.le_antisymm b a
   rw [List.map_map] at hnd
   obtain ⟨i, hi, hxi⟩ := List.getElem_of_mem x.2
   obtain ⟨j, hj, hyj⟩ := List.getElem_of_mem y.2
   have hij : i = j := by
    have hi' : i < (qs.map ((fun a : Idn.Att => Idn.lower a.name) ∘ (·.1))).length := by simpa using hi
    have hj' : j < (qs.map ((fun a : Idn.Att => Idn.lower a.name) ∘ (·.1))).length := by simpa using hj
    have hpw := List.pairwise_iff_getElem.1 hnd
    rcases Nat.lt_trichotomy i j with hlt | hlt | hlt
    ·exact absurd (by simp [hxi, hyj, e]) (hpw i j hi' hj' hlt)
    ·exact hlt
    ·exact absurd (by simp [hxi, hyj, e]) (hpw j i hj' hi' hlt)
   subst hij
   exact Subtype.ext (hxi.symm.trans hyj)
  have h := AnyQ.slices_SortFunc_total Tryz.sortA 2 isAggA sizeA encA (fun _ => rfl) (fun x v hv => by
   obtain ⟨A1, c1, e1⟩ := hown.2 _ x.2
   unfold encA at hv
   rw [e1] at hv
   simp at hv
   rcases hv with rfl | rfl <;> rfl) cfE swoE 47 #[] g 0 cap qs.attach.toArray w fn_enormal1 hcmp hH (Array.getElem?_eq_some_iff.1 hbk).1 (by rw [hsz]; omega) hT
  change Calls Tryz.prog 46 _ _ _ at h
  rw [hsz] at h
  rw [hu]
  refine h.mono ?_
  rintro e w' ⟨rfl, n, os, rfl⟩
  clear h
  generalize hms : (qs.attach.toArray.toList.mergeSort fun x y => !ltOf cfE y x) = ms
  have hperm : (ms.map (·.1)).Perm qs := by
   rw [← hms]
   have := (List.mergeSort_perm qs.attach fun x y => !ltOf cfE y x).map Subtype.val
   rwa [List.attach_map_subtype_val] at this
  have hml : ms.length = qs.length := by simpa using hperm.length_eq
  have hg : w.grownBy (sortWorldK encA 2 w g 0 n ms.toArray os) (some g) := grownBy_sortedV _
  have hfm := flatA (qs := qs) ms
  have hFs : (Go.Sort.flatK encA 2 ms.toArray).size = qs.length * 2 := by simp [hml]
  refine ⟨rfl, ms.map (·.1), ⟨?_, fun p hp => hown.2 p (hperm.mem_iff.1 hp)⟩, hperm, ?_, (Below.refl base w).grown hg hbase (fun k hk => by injection hk with hk; omega)⟩
  ·rw [List.length_map, hml]
   refine ⟨by rw [rowA_len, List.length_map, hml], .inr ⟨g, cap, _, rfl, hbg, heap_sortedV _ hbk, h1, h2, by simp [putCells, h3], ?_⟩⟩
   rw [← hfm, ← hFs]
   exact take_putCellsV cur _ (by rw [hFs, h3]; exact Nat.mul_le_mul_right 2 h1)
  ·rw [← hms, List.map_map]
   unfold byLow
   rw [List.map_mergeSort (s := leLow) (fun a _ b _ => by
    rw [ltE]
    unfold leLow
    rw [Bool.eq_iff_iff]
    simp [← List.not_lt])]
   congr 1
   have := congrArg (List.map (·.1)) (List.attach_map_subtype_val qs)
   rw [List.map_map] at this
   simpa using this
end Go.Proofs.YtoopoglkeeoamaaGreatDoor
/- entry: missing. -/
namespace Go.Proofs.YtoopoglkeeoamaaGreatDoor
open Go.RowKit Go.Sort
open Idn (L B Bs drop_L take_L size_L)
theorem missing_any (v u : Value) (a b : List Bs) (w : World) (hv : StrsV w w.heap.size v a) (hu : StrsV w w.heap.size u b) (ha : a.length ≤ 1000000) (hb9 : b.length ≤ 1000000) :
  Calls Tryz.prog 126 #[v, u] w (RetS w (minus a b)) := by
 have hCt := fun W (hW : Below w.heap.size w W) x => contains_any u b x W (SlV.mono (SlV.keep hu hW) hW.size) (by omega)
 obtain ⟨A, c, rfl, hc⟩ := hv.shape
 obtain ⟨A2, c2, rfl, hc2⟩ := hu.shape
 generalize hr : minus a b = r
 have HR : Hid (r = a.filter fun x => !b.contains x) := hr.symm
 clear hr
 go_enter Tryz.func126, Tryz.ntmps126
 go_wp2_with fail
 go_loopw [5, 10] (fun o i wr => ∃ (k : Nat) (acc : List Bs), k ≤ a.length ∧ i = .int .i64 k ∧ wr.ownsRow w.heap.size 9 1 o acc.length (acc.map sv) ∧ Below w.heap.size w wr ∧ Hid (acc = (a.take k).filter fun x => !b.contains x) ∧ acc.length ≤ k) (fun _ i _ => a.length - (intOf i).toNat)
 case atStart => exact ⟨0, [], Nat.zero_le _, rfl, World.ownsRow_nil _ _ _ _, Below.refl _ _, rfl, Nat.le_refl _⟩
 case round =>
  obtain ⟨k, acc, hk, rfl, hown, hb, hinv, hal⟩ := hrel
  obtain ⟨wo, hwo⟩ : ∃ wo : World, wo = wr := ⟨_, rfl⟩
  subst hwo
  by_cases hlt : k < a.length
  ·obtain ⟨bb, off, hA, hbl, d0⟩ := StrsV.cell (SlV.keep hv hb) hlt
   subst hA
   have hltI : (k : Int) < (a.length : Int) := by omega
   have hC := hCt wo hb (B a[k])
   rw [Idn.L_B] at hC
   have hstep : (a.take (k + 1)).filter (fun x => !b.contains x) = (a.take k).filter (fun x => !b.contains x) ++ if b.contains a[k] then [] else [a[k]] := by
    rw [List.take_succ_eq_append_getElem hlt, List.filter_append]
    congr 1
    cases hh : b.contains a[k]
    ·rw [List.filter_cons_of_pos (by rw [hh]; rfl)]; rfl
    ·rw [List.filter_cons_of_neg (by rw [hh]; decide)]; rfl
   cases hc0 : b.contains a[k]
   ·rw [hc0] at hC hstep
    have HF : Hid (acc ++ [a[k]] = (a.take (k + 1)).filter fun x => !b.contains x) := by show _ = _; rw [hstep, hinv.out]; rfl
    clear hstep hc0 hinv hCt
    go_wp2_with fail
    refine hC.mono ?_
    rintro e w2 ⟨rfl, rfl⟩
    clear hC
    go_wp2_with (at_builtin; refine wpList_push wo rfl _ _ 45 rfl w.heap.size 9 (.string ⟨#[]⟩) 1 16 Tryz.underlying45 info_str rfl (by decide) _ acc.length _ hown rfl [.string (B a[k])] rfl rfl (by intro u hu; simp at hu; subst hu; rfl) (by omega) hb.size ?_ rfl)
    intro v' w2 hown2 _ _ hb2 _
    clear hown
    go_wp2
    go_roundw
    case rel => exact ⟨k + 1, acc ++ [a[k]], by omega, by go_num, by rw [List.length_append, List.map_append]; exact hown2, hb.trans hb2, HF, by rw [List.length_append]; simp; omega⟩
    case measure => simp [intOf]; omega
   ·rw [hc0] at hC hstep
    have HF : Hid (acc = (a.take (k + 1)).filter fun x => !b.contains x) := by show _ = _; rw [hstep, hinv.out]; simp
    clear hstep hc0 hinv hCt
    go_wp2_with fail
    refine hC.mono ?_
    rintro e w2 ⟨rfl, rfl⟩
    go_wp2
    go_roundw
    case rel => exact ⟨k + 1, acc, by omega, by go_num, hown, hb, HF, by omega⟩
    case measure => simp [intOf]; omega
  ·have hltI : ¬ (k : Int) < (a.length : Int) := by omega
   have HF : Hid (r = acc) := by show _ = _; rw [HR.out, hinv.out, List.take_of_length_le (by omega)]
   clear hinv hCt HR
   go_wp2
   go_ret
   exact ⟨_, rfl, by rw [HF.out]; exact hown, hb⟩
end Go.Proofs.YtoopoglkeeoamaaGreatDoor
/- law07: light, subset, raised. -/
namespace Go.Proofs.YtoopoglkeeoamaaGreatDoor
open Go.RowKit Go.Sort
open Idn (L B Bs drop_L take_L size_L)
end Go.Proofs.YtoopoglkeeoamaaGreatDoor
/- law07: raised. -/
namespace Go.Proofs.YtoopoglkeeoamaaGreatDoor
open Go.RowKit Go.Sort
open Idn (L B Bs drop_L take_L size_L)
theorem PairAt.grown {w w' : World} {p : Nat} {a b : Value} {row : Option Nat} (h : PairAt w p a b) (hg : w.grownBy w' row) (hne : some p ≠ row) (hs : w.heap.size ≤ w'.heap.size) : PairAt w' p a b := by
 obtain ⟨⟨h0, h1⟩, ⟨g0, g1⟩, hl⟩ := h
 exact ⟨⟨grown_cell hg h0 hne, grown_cell hg h1 hne⟩, ⟨grown_frozen hg hl g0 hne, grown_frozen hg hl g1 hne⟩, Nat.lt_of_lt_of_le hl hs⟩
end Go.Proofs.YtoopoglkeeoamaaGreatDoor
/- identityref02: Int. -/
namespace Go.Proofs.YtoopoglkeeoamaaGreatDoor
open Go.RowKit Go.Sort
open Idn (L B Bs drop_L take_L size_L)
theorem ddig_step {u : Nat} (h : u ≠ 0) : ∃ x : UInt8, x.toNat = 48 + u % 10 ∧ Lib.decDigits u = (if u / 10 = 0 then [] else Lib.decDigits (u / 10)) ++ [x] := by
 refine ⟨UInt8.ofNat (48 + u % 10), by simp; omega, ?_⟩
 by_cases h1 : u < 10
 ·rw [if_pos (by omega), Lib.decDigits_one h1, Nat.mod_eq_of_lt h1]; rfl
 ·rw [if_neg (by omega), Lib.decDigits, dif_neg h1]
theorem ddig_len {u k : Nat} (h : u < 10 ^ (k + 1)) : (Lib.decDigits u).length ≤ k + 1 := by
  induction k generalizing u with
  | zero => rw [Lib.decDigits_one (by omega)]; simp
  | succ k ih =>
    by_cases h1 : u < 10
    · rw [Lib.decDigits_one h1]; simp
    · rw [Lib.decDigits, dif_neg h1, List.length_append]
      have := ih (u := u / 10) (by rw [Nat.pow_succ] at h; omega)
      simp only [List.length_cons, List.length_nil]; omega
theorem run_one {P : Program} {w : World} (src dst e : TypeId) (hs : P.underlying src = some (.slice e)) (hd : P.underlying dst = some .string) (he : P.underlying e = some (.int .u8)) (x : UInt8) :
  (convert src dst (.slice (some { block := w.heap.size, off := 0 }) 1 1)).run P (w.alloc (.cells #[.int .u8 (x.toNat : Int)] e)) = .ok (.string (B [x])) (w.alloc (.cells #[.int .u8 (x.toNat : Int)] e)) := by
 have h := run_convert_bytes_arg (P := P) (w.alloc (.cells #[.int .u8 (x.toNat : Int)] e)) src e hs he w.heap.size 0 1 1 [(x.toNat : Int)] rfl (fun i hi => by
  have : i = 0 := by simpa using hi
  subst this
  exact World.cell?_alloc_mark w #[.int .u8 (x.toNat : Int)] e (0, 0) 0) dst hd
 rw [h]
 congr 3
 show (⟨_⟩ : ByteArray) = _
 simp [B]
def IntInv (n m : Int) (out : Bs) : Prop := Lib.decDigits n.natAbs = (if m = 0 then [] else Lib.decDigits m.natAbs) ++ out ∧ out.length ≤ 20 ∧ m.natAbs ≤ 9223372036854775808
theorem r_Int_any (n : Int) (h1 : -9223372036854775808 ≤ n) (h2 : n ≤ 9223372036854775807) (w : World) : Calls Tryz.prog 218 #[.int .i64 n] w fun e w' => e = .returned (.string (B (Lib.itoa n))) ∧ Below w.heap.size w w' := by
 generalize hr : Lib.itoa n = r
 have HR : Hid (r = Lib.itoa n) := hr.symm
 clear hr
 by_cases h0 : n = 0
 ·have HF : Hid (r = [48]) := by show _ = _; rw [HR.out, h0]; decide +kernel
  have e0 : (n == 0) = true := by rw [beq_iff_eq]; exact h0
  clear HR h0
  go_enter Tryz.func218, Tryz.ntmps218
  go_wp2
  go_ret
  exact ⟨by rw [HF.out]; rfl, Below.refl _ _⟩
 ·have e0 : (n == 0) = false := by rw [beq_eq_false_iff_ne]; exact h0
  have hlen := ddig_len (u := n.natAbs) (k := 18) (by omega)
  go_enter Tryz.func218, Tryz.ntmps218
  go_wp2
  go_loopw [3, 4] (fun o i wr => ∃ (m : Int) (out : Bs), i = .int .i64 m ∧ o = .string (B out) ∧ Below w.heap.size w wr ∧ -9223372036854775808 ≤ m ∧ m ≤ 9223372036854775807 ∧ Hid (IntInv n m out)) (fun _ i _ => (intOf i).natAbs)
  case atStart => exact ⟨n, [], rfl, rfl, Below.refl _ _, h1, h2, by show IntInv _ _ _; exact ⟨by rw [if_neg h0]; simp, by simp, by omega⟩⟩
  case round =>
   obtain ⟨m, out, rfl, rfl, hb, m1, m2, hI⟩ := hrel
   by_cases hm : m = 0
   ·have em : (m == 0) = true := by rw [beq_iff_eq]; exact hm
    have hfin : Lib.decDigits n.natAbs = out := by have := hI.out.1; rw [if_pos hm] at this; simpa using this
    have hsz : (B out).size ≤ 1000 := by rw [Idn.size_B]; have := hI.out.2.1; omega
    clear hI hm hlen
    rcases Int.lt_or_le n 0 with hn | hn
    ·have HF : Hid (r = 45 :: out) := by show _ = _; rw [HR.out, ← hfin]; unfold Lib.itoa; rw [if_pos hn]
     clear hfin HR
     go_wp2
     go_ret
     exact ⟨by rw [HF.out, show (45 :: out) = [45] ++ out from rfl, ← B_app] <;> rfl, hb⟩
    ·have HF : Hid (r = out) := by show _ = _; rw [HR.out, ← hfin]; unfold Lib.itoa; rw [if_neg (by omega), show n.toNat = n.natAbs by omega]
     have hnI : ¬ n < 0 := by omega
     clear hfin HR
     go_wp2
     go_ret
     exact ⟨by rw [HF.out] <;> rfl, hb⟩
   ·have em : (m == 0) = false := by rw [beq_eq_false_iff_ne]; exact hm
    have hsz : (B out).size ≤ 1000 := by rw [Idn.size_B]; have := hI.out.2.1; omega
    have hcn : (Int.tmod m 10).natAbs = m.natAbs % 10 := by rw [Int.natAbs_tmod]; rfl
    have hdn : (Int.tdiv m 10).natAbs = m.natAbs / 10 := by rw [Int.natAbs_tdiv]; rfl
    obtain ⟨x, hx, hstep⟩ := ddig_step (u := m.natAbs) (by omega)
    obtain ⟨c, hc⟩ : ∃ c : Nat, c = m.natAbs % 10 := ⟨_, rfl⟩
    rw [← hc] at hcn hx
    have hc9 : c ≤ 9 := by omega
    have hxI : (x.toNat : Int) = 48 + (c : Int) := by omega
    have hone := run_one (P := Tryz.prog) (w := wr) 81 9 5 Tryz.underlying81 Tryz.underlying9 Tryz.underlying5 x
    rw [hxI] at hone
    have hx1 : (B [x]).size = 1 := rfl
    have hI2 : Hid (IntInv n (Int.tdiv m 10) (x :: out)) := by
     show IntInv _ _ _
     obtain ⟨i1, i2, i3⟩ := hI.out
     have e : Lib.decDigits n.natAbs = (if Int.tdiv m 10 = 0 then [] else Lib.decDigits (Int.tdiv m 10).natAbs) ++ x :: out := by
      rw [i1, if_neg hm, hstep, hdn, List.append_assoc]
      by_cases h10 : m.natAbs / 10 = 0
      ·rw [if_pos h10, if_pos (by omega)]; rfl
      ·rw [if_neg h10, if_neg (by omega)]; rfl
     refine ⟨e, ?_, by omega⟩
     have := congrArg List.length e
     rw [List.length_append] at this
     omega
    have hmn : Hid (Int.natAbs (Int.tdiv m 10) < m.natAbs) := by show _ < _; omega
    have hm1 : -9223372036854775808 ≤ Int.tdiv m 10 := by omega
    have hm2 : Int.tdiv m 10 ≤ 9223372036854775807 := by omega
    have q4 : IntKind.i64.wrap (Int.tdiv m 10) = Int.tdiv m 10 := IntWalk.i64_in _ ⟨hm1, hm2⟩
    have q5 : IntKind.i64.wrap (48 + (c : Int)) = 48 + (c : Int) := IntWalk.i64_in _ ⟨by omega, by omega⟩
    have q6 : (48 + (c : Int)) % 256 = 48 + (c : Int) := by omega
    by_cases hd : Int.tmod m 10 < 0
    ·have q0 : IntKind.i64.wrap (-(Int.tmod m 10)) = c := by rw [show -(Int.tmod m 10) = (c : Int) by omega]; exact IntWalk.i64_in _ ⟨by omega, by omega⟩
     clear hI hm hlen hcn hdn hstep hc hxI hx
     go_wp2
     go_roundw
     case rel => exact ⟨Int.tdiv m 10, x :: out, rfl, by rw [show x :: out = [x] ++ out from rfl, B_app], hb.alloc (by have := hb.size; omega) _, hm1, hm2, hI2⟩
     case measure => first | exact hmn.out | (simp [intOf]; omega)
    ·have q0 : Int.tmod m 10 = c := by omega
     clear hI hm hlen hcn hdn hstep hc hxI hx
     go_wp2
     go_roundw
     case rel => exact ⟨Int.tdiv m 10, x :: out, rfl, by rw [show x :: out = [x] ++ out from rfl, B_app], hb.alloc (by have := hb.size; omega) _, hm1, hm2, hI2⟩
     case measure => first | exact hmn.out | (simp [intOf]; omega)
end Go.Proofs.YtoopoglkeeoamaaGreatDoor
/- Plain laws of Valid by the reference. -/
namespace Go.Proofs.YtoopoglkeeoamaaGreatDoor
open Go.RowKit Go.Sort
open Idn (L B Bs)
theorem lin_key (s : Idn.Sch) (v : Bs) : (Idn.lin s (Idn.fold v)).length = 0 ↔ clKey s (Idn.fold v) = false := by
  have e : Idn.ixC s.classes (Idn.fold v) = s.classes.findIdx? fun t => decide (Idn.lower t.name = Idn.fold v) := by unfold Idn.ixC; rw [Idn.lower_fold]
  unfold Idn.lin clKey
  rw [e]
  cases hx : s.classes.findIdx? (fun t => decide (Idn.lower t.name = Idn.fold v)) with
  | none =>
    rw [Idn.linK_none]
    refine ⟨fun _ => ?_, fun _ => rfl⟩
    rw [List.any_eq_false]
    intro x hxm
    have := List.findIdx?_eq_none_iff.1 hx x hxm
    simpa using this
  | some k =>
    rw [List.findIdx?_eq_some_iff_getElem] at hx
    obtain ⟨hk, h1, _⟩ := hx
    refine ⟨fun h => ?_, fun h => ?_⟩
    · exfalso
      cases hc : s.classes.length with
      | zero => omega
      | succ m => rw [hc, Idn.linK_some] at h; simp at h
    · exfalso
      rw [List.any_eq_false] at h
      exact h _ (List.getElem_mem hk) h1
theorem sNorm_err {s : Idn.Sch} {n : Bs} (h : (tyLook (sound s) n).2 = true) (v : Bs) : (sNorm s n v).2 = if (Idn.normV (tyLook (sound s) n).1.syn v).2 then 0 else 8 := by
 unfold sNorm kNorm
 rw [h]
 cases (Idn.normV (tyLook (sound s) n).1.syn v).2 <;> rfl
theorem badV_step {x : Int} {l : List Bs} {r : Bool} {k : Nat} (hk : k < l.length) (h : r = badV x (l.drop k)) :
  ((Idn.normV x l[k]).2 = false → r = true) ∧ ((Idn.normV x l[k]).2 = true → r = badV x (l.drop (k + 1))) := by
 rw [List.drop_eq_getElem_cons hk] at h
 unfold badV at *
 rw [List.any_cons] at h
 refine ⟨fun h1 => ?_, fun h1 => ?_⟩
 ·rw [h, h1]; rfl
 ·rw [h, h1]; rfl
theorem attrE_none {s : Idn.Sch} {n : Bs} {vs : List Bs} (h : (tyLook s n).2 = false) : attrE s n vs = 6 := by unfold attrE; rw [h]; rfl
theorem attrE_bad {s : Idn.Sch} {n : Bs} {vs : List Bs} (h : (tyLook s n).2 = true) (hb : badV (tyLook s n).1.syn vs = true) : attrE s n vs = 8 := by unfold attrE; rw [h, hb]; rfl
theorem attrE_ok {s : Idn.Sch} {n : Bs} {vs : List Bs} (h : (tyLook s n).2 = true) (hb : badV (tyLook s n).1.syn vs = false) : attrE s n vs = if (tyLook s n).1.single && decide (1 < vs.length) then 9 else 0 := by unfold attrE; rw [h, hb]; rfl
end Go.Proofs.YtoopoglkeeoamaaGreatDoor
/- codec: plain, Escape. -/
namespace Go.Proofs.YtoopoglkeeoamaaGreatDoor
open Go.RowKit Go.Sort
open Idn (L B Bs drop_L take_L size_L)
theorem idxB_lt (c : UInt8) : ∀ l : List UInt8, decide (Lib.indexByte l c < 0) = !l.contains c
  | [] => rfl
  | b :: l => by
    have ih := idxB_lt c l
    rw [Lib.indexByte, List.contains_cons]
    by_cases h : b = c
    · subst h; simp
    · have h1 : (b == c) = false := by simpa using h
      have h2 : (c == b) = false := by rw [beq_eq_false_iff_ne]; exact fun e => h e.symm
      rw [h1, h2, Bool.false_or, if_neg (by decide), ← ih]
      by_cases h3 : Lib.indexByte l c = -1
      · rw [h3]; rfl
      · have h4 : (Lib.indexByte l c == -1) = false := by simpa using h3
        rw [h4, if_neg (by decide)]
        have h5 : -1 ≤ Lib.indexByte l c := by
          clear ih h3 h4
          induction l with
          | nil => exact Int.le_refl (-1)
          | cons d l ih => rw [Lib.indexByte]; split <;> (try split) <;> omega
        rw [decide_eq_decide]; omega
def sepB : ByteArray := ⟨#[37, 124, 44, 61, 59, 34]⟩
theorem plain_any (c : UInt8) (w : World) :
  Calls Tryz.prog 122 #[.int .u8 (c.toNat : Int)] w fun e w' => e = .returned (.bool (plainB c)) ∧ w = w' := by
 have hI := Tryz.strings_IndexByte sepB (c.toNat : Int) w
 have hb : ((c.toNat : Int).toNat.toUInt8) = c := by simp
 rw [hb] at hI
 have hlt := idxB_lt c sepB.data.toList
 generalize hix : Lib.indexByte sepB.data.toList c = ix at *
 clear hix hb
 unfold plainB
 by_cases h1 : (33 : Int) ≤ (c.toNat : Int)
 ·by_cases h2 : (c.toNat : Int) ≤ (126 : Int)
  ·have e1 : decide (33 ≤ c.toNat) = true := decide_eq_true (by omega)
   have e2 : decide (c.toNat ≤ 126) = true := decide_eq_true (by omega)
   rw [e1, e2]
   have e3 : (true && (true && ![37, 124, 44, 61, 59, 34].contains c)) = decide (ix < 0) := by rw [hlt]; rfl
   rw [e3]
   clear e1 e2 e3 hlt
   go_enter Tryz.func122, Tryz.ntmps122
   go_wp2_with (go_at_call 133; refine hI.mono ?_; rintro e w1 ⟨rfl, rfl⟩)
   go_ret
   exact ⟨rfl, rfl⟩
  ·have e2 : decide (c.toNat ≤ 126) = false := decide_eq_false (by omega)
   rw [e2, Bool.false_and, Bool.and_false]
   clear e2 hlt hI
   go_enter Tryz.func122, Tryz.ntmps122
   go_wp2
   go_ret
   exact ⟨rfl, rfl⟩
 ·have e1 : decide (33 ≤ c.toNat) = false := decide_eq_false (by omega)
  rw [e1, Bool.false_and]
  clear e1 hlt hI
  go_enter Tryz.func122, Tryz.ntmps122
  go_wp2
  go_ret
  exact ⟨rfl, rfl⟩
theorem idx_hex (q : Nat) (hq : q < 16) (w : World) : (Instr.index 9 (.string ⟨#[48, 49, 50, 51, 52, 53, 54, 55, 56, 57, 65, 66, 67, 68, 69, 70]⟩) (.int .u8 (q : Int))).run Tryz.prog w = .ok (.int .u8 ((hexB q).toNat : Int)) w := by
 rcases (by omega : q = 0 ∨ q = 1 ∨ q = 2 ∨ q = 3 ∨ q = 4 ∨ q = 5 ∨ q = 6 ∨ q = 7 ∨ q = 8 ∨ q = 9 ∨ q = 10 ∨ q = 11 ∨ q = 12 ∨ q = 13 ∨ q = 14 ∨ q = 15) with rfl | rfl | rfl | rfl | rfl | rfl | rfl | rfl | rfl | rfl | rfl | rfl | rfl | rfl | rfl | rfl <;> kernel_rfl
theorem bits_and15 (c : UInt8) : bits BinOp.and IntKind.u8 (c.toNat : Int) 15 = ((c.toNat % 16 : Nat) : Int) := by
 have h : ((List.range 256).all fun n => bits BinOp.and IntKind.u8 (n : Int) 15 == ((n % 16 : Nat) : Int)) = true := by kernel_rfl
 have := (List.all_eq_true.1 h) c.toNat (List.mem_range.2 (byte_lt c))
 simpa using this
theorem esc_snoc (l : Bs) (c : UInt8) : esc (l ++ [c]) = esc l ++ esc1 c := by unfold esc; rw [List.flatMap_append]; simp
theorem esc1_len (c : UInt8) : (esc1 c).length ≤ 3 := by unfold esc1; split <;> simp
theorem esc_len (l : Bs) : (esc l).length ≤ 3 * l.length := by
  induction l with
  | nil => simp [esc]
  | cons c l ih =>
    have := esc1_len c
    have e : esc (c :: l) = esc1 c ++ esc l := rfl
    rw [e, List.length_append, List.length_cons]; omega
theorem escape_any (s : ByteArray) (w : World) (hs : s.size ≤ 1000000000) :
  Calls Tryz.prog 63 #[.string s] w fun e w' => e = .returned (.string (B (esc (L s)))) ∧ Below w.heap.size w w' := by
 have hB0 := Bld.new w
 generalize hr : esc (L s) = r
 have HR := Lib.hid hr
 clear hr
 go_enter Tryz.func63, Tryz.ntmps63
 go_wp2
 go_loopw [8] (fun i wr => ∃ (k : Nat) (acc : Bs), k ≤ s.size ∧ i = .int .i64 k ∧ Below w.heap.size w wr ∧ Bld w.heap.size w.heap.size (Lib.byteCells acc) wr ∧ Hid (acc = esc ((L s).take k)) ∧ acc.length ≤ 3 * k) (fun i _ => s.size - (intOf i).toNat)
 case atStart => exact ⟨0, [], Nat.zero_le _, rfl, (Below.refl _ _).alloc (Nat.le_refl _) _, hB0, rfl, Nat.le_refl _⟩
 case round =>
  obtain ⟨k, acc, hk, rfl, hb, hB, hinv, hal⟩ := hrel
  clear hB0
  by_cases hlt : k < s.size
  ·have hP := plain_any s[k] wr
   have hstep : esc ((L s).take (k + 1)) = esc ((L s).take k) ++ esc1 s[k] := by rw [take_L s k hlt, esc_snoc]
   cases hp : plainB s[k]
   ·have e1 : esc1 s[k] = [37, hexB (s[k].toNat / 16), hexB (s[k].toNat % 16)] := by unfold esc1; rw [hp]; rfl
    have HF : Hid (acc ++ [37] ++ [hexB (s[k].toNat / 16)] ++ [hexB (s[k].toNat % 16)] = esc ((L s).take (k + 1))) := by
     show _ = _; rw [hstep, e1, hinv.out]; simp
    rw [hp] at hP
    clear hp hstep e1 hinv
    have hW1 : Calls Tryz.prog 123 #[.pointer (some ⟨w.heap.size, 0, none⟩), .int .u8 37] wr _ := writeByte_any w.heap.size w.heap.size (Lib.byteCells acc) 37 wr hB (by rw [byteCells_len]; omega) hb.size
    go_wp2_with fail
    refine hP.mono ?_
    rintro e w1 ⟨rfl, rfl⟩
    go_wp2_with fail
    refine hW1.mono ?_
    rintro e w1 ⟨rfl, hB1, hb1, _⟩
    have hbw1 := hb.trans hb1
    have hx1 : ∀ w, (Instr.index 9 (.string ⟨#[48, 49, 50, 51, 52, 53, 54, 55, 56, 57, 65, 66, 67, 68, 69, 70]⟩) (.int .u8 ((s[k].toNat : Int) / 16))).run Tryz.prog w = .ok (.int .u8 ((hexB (s[k].toNat / 16)).toNat : Int)) w := fun w => idx_hex (s[k].toNat / 16) (by have := byte_lt s[k]; omega) w
    have hx2 : ∀ w, (Instr.index 9 (.string ⟨#[48, 49, 50, 51, 52, 53, 54, 55, 56, 57, 65, 66, 67, 68, 69, 70]⟩) (.int .u8 (bits BinOp.and IntKind.u8 (s[k].toNat : Int) 15))).run Tryz.prog w = .ok (.int .u8 ((hexB (s[k].toNat % 16)).toNat : Int)) w := fun w => by
     rw [bits_and15]
     exact idx_hex (s[k].toNat % 16) (by omega) w
    have hW2 := writeByte_any w.heap.size w.heap.size (Lib.byteCells acc ++ [bc 37]) (hexB (s[k].toNat / 16)) w1 hB1 (by rw [List.length_append, byteCells_len]; simp; omega) hbw1.size
    clear hW1 hB
    go_wp2_with fail
    refine hW2.mono ?_
    rintro e w2 ⟨rfl, hB2, hb2, _⟩
    have hbw2 := hbw1.trans hb2
    have hW3 := writeByte_any w.heap.size w.heap.size (Lib.byteCells acc ++ [bc 37] ++ [bc (hexB (s[k].toNat / 16))]) (hexB (s[k].toNat % 16)) w2 hB2 (by rw [List.length_append, List.length_append, byteCells_len]; simp; omega) hbw2.size
    clear hW2 hB1
    go_wp2_with fail
    refine hW3.mono ?_
    rintro e w3 ⟨rfl, hB3, hb3, _⟩
    go_wp2
    go_roundw
    case rel => exact ⟨k + 1, acc ++ [37] ++ [hexB (s[k].toNat / 16)] ++ [hexB (s[k].toNat % 16)], by omega, by go_num, hbw2.trans hb3, by rw [bytes_one, bytes_one, bytes_one]; exact hB3, HF, by simp; omega⟩
    case measure => simp [intOf]; omega
   ·have e1 : esc1 s[k] = [s[k]] := by unfold esc1; rw [hp]; rfl
    have HF : Hid (acc ++ [s[k]] = esc ((L s).take (k + 1))) := by show _ = _; rw [hstep, e1, hinv.out]
    rw [hp] at hP
    have hW1 := writeByte_any w.heap.size w.heap.size (Lib.byteCells acc) s[k] wr hB (by rw [byteCells_len]; omega) hb.size
    clear hp hstep e1 hinv hB
    go_wp2_with (first | (go_at_call 122; refine hP.mono ?_; rintro e w1 ⟨rfl, rfl⟩) | (go_at_call 123; refine hW1.mono ?_; rintro e w1 ⟨rfl, hB1, hb1, _⟩))
    go_roundw
    case rel => exact ⟨k + 1, acc ++ [s[k]], by omega, by go_num, hb.trans hb1, by rw [bytes_one]; exact hB1, HF, by simp; omega⟩
    case measure => simp [intOf]; omega
  ·have hStr := Tryz.Builder_String_any_k w.heap.size w.heap.size acc wr hB hb.size
   have HF : Hid (r = acc) := by show _ = _; rw [← HR.out, hinv.out, List.take_of_length_le (by have := size_L s; omega)]
   clear hinv
   go_wp2_with fail
   refine hStr.mono ?_
   rintro e w4 ⟨rfl, _, hb4, _⟩
   go_wp2
   go_ret
   exact ⟨by rw [HF.out]; rfl, hb.trans hb4⟩
end Go.Proofs.YtoopoglkeeoamaaGreatDoor
