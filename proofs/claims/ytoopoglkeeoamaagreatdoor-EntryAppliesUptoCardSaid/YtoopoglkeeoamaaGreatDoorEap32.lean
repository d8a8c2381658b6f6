/- Part 32 of the proof that identitylaw08.EntryApplies returns true: the package variables hold what the program lays; nothing else is asked. -/
import Derived.Test.YtoopoglkeeoamaaGreatDoorEap19
import Derived.Test.YtoopoglkeeoamaaGreatDoorEap31
set_option linter.unusedVariables false
set_option linter.unusedSimpArgs false
set_option maxRecDepth 100000
set_option maxHeartbeats 8000000
/- identityref07: lineage, Lineage, Must, May: plain facts, rows of ints, appends in a region that draws. -/
namespace Go.Proofs.YtoopoglkeeoamaaGreatDoor
open Go.RowKit Go.Sort
open Idn (L B Bs drop_L take_L size_L)
def iv (k : Nat) : Value := .int .i64 (k : Int)
def EI (x : Nat) (cs : List Value) : Prop := cs = [iv x]
abbrev IntsV (w : World) (hi : Nat) (v : Value) (l : List Nat) : Prop := SlV EI w hi 1 v l
theorem IntsV.of_own {w : World} {base : Nat} {v : Value} {l : List Nat} {e : TypeId} (h : w.ownsRow base e 1 v l.length (l.map iv)) : IntsV w w.heap.size v l :=
 SlV.own h fun i x hx => ⟨[iv x], rfl, rfl, fun j u hu => by
  match j, hu with
  | 0, hu => simp at hu; subst hu; simp [hx]⟩
theorem IntsV.cell {w : World} {hi : Nat} {A : Option Addr} {n c : Nat} {l : List Nat} (h : IntsV w hi (.slice A n c) l) {k : Nat} (hk : k < l.length) :
  ∃ b off, A = some ⟨b, off, none⟩ ∧ b < hi ∧ w.cell? ⟨b, off + k, none⟩ = some (.int .i64 (l[k] : Int)) := by
 obtain ⟨b, off, hA, hb, cs, h1, h2, h3⟩ := h.at_ hk
 cases h2
 exact ⟨b, off, hA, hb, by simpa [iv] using h3 0 _ rfl⟩
def RetI (w : World) (l : List Nat) (e : Ending) (w' : World) : Prop :=
 ∃ v, e = .returned v ∧ w'.ownsRow w.heap.size 3 1 v l.length (l.map iv) ∧ Below w.heap.size w w'
theorem info_int : (Tryz.prog.info? 3).map (fun i => (i.zero, i.size, i.bytes)) = some (some (.int .i64 0), 1, 8) := by kernel_rfl
theorem ixC_nil (s : Idn.Sch) : Idn.ixC (sound s).classes [] = none := by
 unfold Idn.ixC
 rw [List.findIdx?_eq_none_iff]
 intro c hc
 unfold sound at hc
 by_cases h : Idn.sCheck s = 0
 ·rw [if_pos h] at hc
  have h1 : Idn.clsErr s.types [] s.classes = 0 := by
   unfold Idn.sCheck at h
   split at h
   ·cases h
   ·split at h
    ·rename_i hn; simp [h] at hn
    ·split at h
     ·exact h
     ·rename_i hn; simpa using hn
  obtain ⟨k, hk, rfl⟩ := List.getElem_of_mem hc
  have h2 := Idn.clsErr_zero s.types s.classes [] h1 k hk
  have h3 : Idn.name s.classes[k].name = true := by
   cases hx : Idn.name s.classes[k].name
   ·unfold Idn.clErr at h2; rw [hx] at h2; simp at h2
   ·rfl
  refine decide_eq_false fun e => ?_
  have h4 : s.classes[k].name = [] := by simpa [Idn.lower] using e
  rw [h4] at h3
  cases h3
 ·rw [if_neg h] at hc; simp at hc
theorem up1_ix (s : Idn.Sch) (k : Nat) (hk : k < (sound s).classes.length) : Idn.ixC (sound s).classes (sound s).classes[k].super = Idn.up1 (sound s).classes k := by
 unfold Idn.up1
 rw [List.getElem?_eq_getElem hk]
 dsimp only
 split
 ·rename_i h
  have : (sound s).classes[k].super = [] := by simpa using h
  rw [this, ixC_nil]
 ·rfl
theorem linK_mem (l : List Idn.Cl) (hd : Idn.Dec l) : ∀ (f : Nat) (o : Option Nat), (∀ k, o = some k → k < l.length) → ∀ j ∈ Idn.linK l f o, j < l.length
  | 0, _, _, j, h => by simp [Idn.linK] at h
  | f + 1, none, _, j, h => by simp [Idn.linK] at h
  | f + 1, some k, ho, j, h => by
    rw [Idn.linK_some] at h
    rcases List.mem_cons.1 h with rfl | h
    · exact ho j rfl
    · exact linK_mem l hd f (Idn.up1 l k) (fun i hi => Nat.lt_trans (hd k i hi) (ho k rfl)) j h
theorem lin_mem (s : Idn.Sch) (n : Bs) : ∀ j ∈ Idn.lin (sound s) n, j < (sound s).classes.length :=
 linK_mem _ (dec_sound s) _ _ fun k hk => Idn.ixC_lt _ _ _ hk
theorem linK_cons (l : List Idn.Cl) (hd : Idn.Dec l) (k : Nat) (hk : k < l.length) : Idn.linK l l.length (some k) = k :: Idn.linK l l.length (Idn.up1 l k) := by
 obtain ⟨m, hm⟩ : ∃ m, l.length = m + 1 := ⟨l.length - 1, by omega⟩
 rw [hm, Idn.linK_some]
 congr 1
 exact (Idn.linK_more l hd m _ fun j hj => by have := hd k j hj; omega).symm
theorem filterMap_all {α : Type} (l : List α) : ∀ ks : List Nat, (∀ k ∈ ks, k < l.length) → (ks.filterMap (l[·]?)).length = ks.length ∧ ∀ (i : Nat) (hi : i < ks.length) (hk : ks[i] < l.length), (ks.filterMap (l[·]?))[i]? = some l[ks[i]]
  | [], _ => ⟨rfl, fun i hi => by simp at hi⟩
  | k :: ks, h => by
    obtain ⟨h1, h2⟩ := filterMap_all l ks fun j hj => h j (List.mem_cons_of_mem _ hj)
    have hk := h k List.mem_cons_self
    have e : (k :: ks).filterMap (l[·]?) = l[k] :: ks.filterMap (l[·]?) := by
      rw [List.filterMap_cons, List.getElem?_eq_getElem hk]
    refine ⟨by rw [e]; simp [h1], fun i hi hki => ?_⟩
    rw [e]
    match i with
    | 0 => rfl
    | i + 1 => exact h2 i (by simpa using hi) hki
theorem lin_in (s : Idn.Sch) (n : Bs) (i : Nat) (hi : i < (Idn.lin (sound s) n).length) :
  ∃ hk : (Idn.lin (sound s) n)[i] < s.classes.length, (linC (sound s) n)[i]? = some s.classes[(Idn.lin (sound s) n)[i]] := by
 have hm := lin_mem s n
 have hx := (filterMap_all (sound s).classes _ hm).2 i hi (hm _ (List.getElem_mem hi))
 have hlt := hm _ (List.getElem_mem hi)
 have hs : sound s = s := by
  by_cases h : Idn.sCheck s = 0
  ·exact if_pos h
  ·have h0 : (sound s).classes.length = 0 := by unfold sound; rw [if_neg h]; rfl
   omega
 have hc : (sound s).classes = s.classes := by rw [hs]
 refine ⟨by rw [← hc]; exact hlt, ?_⟩
 rw [show linC (sound s) n = (Idn.lin (sound s) n).filterMap ((sound s).classes[·]?) from rfl, hx]
 simp [hc]
theorem lin_len (s : Idn.Sch) (n : Bs) : (linC (sound s) n).length = (Idn.lin (sound s) n).length := (filterMap_all (sound s).classes _ (lin_mem s n)).1
theorem run_push {P : Program} {w : World} (t ty : TypeId) (base : Nat) (e : TypeId) (z : Value) (size bytes : Nat) (ht : P.underlying t = some (.slice e)) (hinf : (P.info? e).map (fun i => (i.zero, i.size, i.bytes)) = some (some z, size, bytes)) (hzs : z.cells.size = size) (hsz : 0 < size)
    (v : Value) (n : Nat) (xs : List Value) (hown : w.ownsRow base e size v n xs) (cs : List Value) (hl : cs.length = size)
    (h1 : ∀ u ∈ cs, u.oneCell' = true) (hn : (n + 1) * (bytes + 1) ≤ 140737488355328) (hbase : base ≤ w.heap.size) :
    ∃ v' w', (Builtin.append_ #[t, t] ty #[v, .slice (some ⟨w.heap.size, 0, none⟩) 1 1]).run P (w.alloc (.cells cs.toArray e)) = .ok v' w' ∧ w'.ownsRow base e size v' (n + 1) (xs ++ cs) ∧ w.grownBy w' v.ownBlock ∧ (v'.ownBlock = v.ownBlock ∨ v'.ownBlock = some (w.heap.size + 1)) := by
  obtain ⟨i, hi, hz0, hz1, hz2⟩ := info_parts hinf
  have hmul : (n + 1) * bytes + (n + 1) ≤ 140737488355328 := by rw [Nat.mul_add] at hn; omega
  obtain ⟨v', w', hrun, h2, h3, _, h5⟩ := run_append_own_at (P := P) (w.alloc (.cells cs.toArray e)) base t ty e i z size bytes ht hi hz0 hz1 hz2 hzs hsz v n xs (hown.alloc _) ⟨w.heap.size, 0, none⟩ 1 1 cs (by simpa using hl) (by
    intro j u hu
    have hadd : (⟨w.heap.size, 0, none⟩ : Addr).add j = ⟨w.heap.size, j, none⟩ := by unfold Addr.add; split <;> simp_all
    rw [hadd, cell_of_row _ w.heap.size j cs.toArray e (0, 0) (heap_alloc_new w _)]
    simpa using hu) h1 (by unfold maxLen; omega) (by omega) (by simp; omega)
  exact ⟨v', w', hrun, h2, (World.grownBy_alloc w _ _).trans h3, by simpa using h5⟩
theorem step_push {P : Program} {ops : Array Oper} {o : Oper} {a : Act} {w w2 : World} {K : Act → World → Prop} {Q : Exit → Act → World → Prop} {E : Prop}
  (hgd : o.guard = none) (s x : Operand) (t : TypeId) (ho : o.op = .call { callee := .builtin .append, args := #[s, x], argTypes := #[t, t] })
  (base : Nat) (e : TypeId) (z : Value) (size bytes : Nat) (ht : P.underlying t = some (.slice e)) (hinf : (P.info? e).map (fun i => (i.zero, i.size, i.bytes)) = some (some z, size, bytes)) (hzs : z.cells.size = size) (hsz : 0 < size)
  (v : Value) (n : Nat) (xs : List Value) (hown : w.ownsRow base e size v n xs) (hs : a.eval s = v) (cs : List Value) (hx : a.eval x = .slice (some ⟨w.heap.size, 0, none⟩) 1 1) (hl : cs.length = size)
  (h1 : ∀ u ∈ cs, u.oneCell' = true) (hn : (n + 1) * (bytes + 1) ≤ 140737488355328) (hbase : base ≤ w.heap.size)
  (hK : ∀ v' w', w'.ownsRow base e size v' (n + 1) (xs ++ cs) → w.grownBy w' v.ownBlock → (v'.ownBlock = v.ownBlock ∨ v'.ownBlock = some (w.heap.size + 1)) → K (a.put o.dst v') w') (hw2 : w2 = w.alloc (.cells cs.toArray e)) :
  if Region.wanted o (yielded ops a.tmps) = true then Oper.wp P o a w2 K Q else E := by
 have hw : Region.wanted o (yielded ops a.tmps) = true := by simp [Region.wanted, hgd]
 rw [if_pos hw]
 subst hw2
 obtain ⟨v', w', hrun, g1, g2, g3⟩ := run_push (P := P) t o.type base e z size bytes ht hinf hzs hsz v n xs hown cs hl h1 hn hbase
 unfold Oper.wp execOp
 simp only [ho, resolve, invoke, builtin, Sem.run_bind, Sem.run_pure, Result.andThen_ok, List.map_toArray, List.map_cons, List.map_nil, hs, hx, hrun]
 exact hK v' w' g1 g2 g3
end Go.Proofs.YtoopoglkeeoamaaGreatDoor
/- identityref07: lineage, Lineage. -/
namespace Go.Proofs.YtoopoglkeeoamaaGreatDoor
open Go.RowKit Go.Sort
open Idn (L B Bs drop_L take_L size_L)
theorem r_lineage_any (v : Value) (s : Idn.Sch) (n : ByteArray) (w : World) (hv : SchV w w.heap.size v s) (hs : SSm s) (hn : n.size ≤ 1000000000) :
    Calls Tryz.prog 107 #[v, .string n] w (RetI w (Idn.lin (sound s) (L n))) := by
  have hE := fun W (hW : Below w.heap.size w W) => r_sound_any v s W (SchV.mono (SchV.keep hv hW) hW.size) hs
  have hss := ssm_sound' hs
  have hd := dec_sound s
  have hup := up1_ix s
  have hlx : Idn.lin (sound s) (L n) = Idn.linK (sound s).classes (sound s).classes.length (Idn.ixC (sound s).classes (L n)) := rfl
  have hix := Idn.ixC_lt (sound s).classes (L n)
  generalize Idn.lin (sound s) (L n) = full at *
  obtain ⟨a, b, rfl, hT, hC⟩ := hv
  obtain ⟨A, ca, rfl, hca⟩ := SlV.shape hT
  obtain ⟨A', cb, rfl, hcb⟩ := SlV.shape hC
  clear hT hC
  generalize sound s = t at *
  have HL := Lib.hid hlx
  clear hlx
  go_enter Tryz.func107, Tryz.ntmps107
  go_wp2_with fail
  with_reducible refine gen1 (R := fun W => Calls Tryz.prog 172 _ W _) ?_
  intro W hbW hszW _ _
  refine (hE W hbW).mono ?_
  rintro e w1 ⟨v', rfl, hb1, hv'⟩
  obtain ⟨a', b', rfl, hT', hC'⟩ := hv'
  obtain ⟨D, cd, rfl, hcd⟩ := SlV.shape hT'
  obtain ⟨D', cd', rfl, hcd'⟩ := SlV.shape hC'
  have hfd := field_sch1 D D' t.types.length cd t.classes.length cd' w1
  have hC1 := ClassesV.mono hC' hb1.size
  have hCA := fun W (hW : Below w1.heap.size w1 W) (x : ByteArray) (hx : x.size ≤ 1000000000) => r_classAt_any _ t.classes x W (ClassesV.mono (ClassesV.keep hC1 hW) hW.size) hss.2 hx
  have hCA1 := hCA w1 (Below.refl _ _) n hn
  have hbw1 := hbW.trans (hb1.mono hbW.size)
  clear hE
  go_wp2_with fail
  refine hCA1.mono ?_
  rintro e w2 ⟨rfl, hb2⟩
  have hbw2 := hbw1.trans (hb2.mono hbw1.size)
  have hC2 := ClassesV.keep hC1 hb2
  clear hCA1 hfd hT' hC'
  have hlen := hss.2.1
  generalize Idn.ixC t.classes (L n) = o0 at *
  go_wp2
  go_loopw [5, 7] (fun u x wr => ∃ (ks : List Nat) (o : Option Nat), x = .int .i64 (Idn.optI o) ∧ wr.ownsRow w2.heap.size 3 1 u ks.length (ks.map iv) ∧ Below w2.heap.size w2 wr ∧ Hid (full = ks ++ Idn.linK t.classes t.classes.length o) ∧ (∀ k, o = some k → k < t.classes.length) ∧ (ks.length : Int) + Idn.optI o + 1 ≤ t.classes.length) (fun _ x _ => (intOf x + 1).toNat)
  case atStart =>
    refine ⟨[], o0, rfl, World.ownsRow_nil _ _ _ _, Below.refl _ _, by show _ = _; rw [HL.out]; rfl, hix, ?_⟩
    cases o0 with
    | none => simp [Idn.optI]
    | some k => have := hix k rfl; simp [Idn.optI]; omega
  case round =>
    obtain ⟨ks, o, rfl, hown, hb, hinv, hlt, hbd⟩ := hrel
    cases o with
    | none =>
      have hF : Hid (full = ks) := by show _ = _; rw [hinv.out, Idn.linK_none, List.append_nil]
      have hI : decide ((0 : Int) ≤ Idn.optI none) = false := rfl
      clear hinv hlt hbd
      go_wp2
      go_ret
      have hfin := own_base hown hbw2.size
      exact ⟨_, rfl, by rw [hF.out]; exact hfin, hbw2.trans (hb.mono hbw2.size)⟩
    | some k =>
      have hkl := hlt k rfl
      have hHH : Hid (full = (ks ++ [k]) ++ Idn.linK t.classes t.classes.length (Idn.up1 t.classes k)) := by
        show _ = _
        rw [hinv.out, linK_cons _ hd k hkl, List.append_assoc]; rfl
      have hdk : ∀ j, Idn.up1 t.classes k = some j → j < k := fun j hj => hd k j hj
      have hj : Idn.optI (some k) = (k : Int) := rfl
      have hI : decide ((0 : Int) ≤ Idn.optI (some k)) = true := decide_eq_true (by rw [hj]; omega)
      have hkI : (k : Int) < (t.classes.length : Int) := by omega
      have hk0 : (0 : Int) ≤ (k : Int) := by omega
      have hksl : ks.length ≤ t.classes.length := by rw [hj] at hbd; omega
      have hsup := hup k hkl
      have HUP := Lib.hid hsup
      simp only [hj] at hI ⊢
      clear hinv hlt hsup hj
      have hs2 := hb.size
      have hsz := (hss.2.2 t.classes[k] (List.getElem_mem hkl)).2.1
      go_wp2_with (at_builtin; refine wpList_push wr rfl _ _ 125 rfl w2.heap.size 3 (.int .i64 0) 1 8 Tryz.underlying125 info_int rfl (by decide) _ _ _ hown rfl [.int .i64 (k : Int)] rfl rfl (by intro u hu; simp at hu; subst hu; rfl) (by omega) hs2 ?_ rfl)
      intro v' x1 ho1 _ _ hx1 _
      have hbx1 := hb.trans hx1
      obtain ⟨bb, off, vm, vn, rfl, hbl, c0, c1, c2, c3, _, _⟩ := ClassesV.cell (ClassesV.keep hC2 (hbx1.mono hb2.size)) hkl
      have hcall := hCA x1 (hb2.trans (hbx1.mono hb2.size)) (B t.classes[k].super) (by rw [Idn.size_B]; omega)
      rw [Idn.L_B, HUP.out] at hcall
      clear hown c0 c2 c3
      go_wp2_with fail
      refine hcall.mono ?_
      rintro e x2 ⟨rfl, hx2⟩
      have ho2 := own_below ho1 hx2
      clear hcall ho1
      go_wp2_with fail
      go_roundw
      case rel =>
        refine ⟨ks ++ [k], Idn.up1 t.classes k, rfl, by simpa [iv] using ho2, hbx1.trans (hx2.mono hbx1.size), hHH, fun j hj => Nat.lt_trans (hdk j hj) hkl, ?_⟩
        simp only [List.length_append, List.length_singleton]
        have h9 : Idn.optI (Idn.up1 t.classes k) + 1 ≤ (k : Int) := by
          cases hq : Idn.up1 t.classes k with
          | none => simp [Idn.optI]
          | some j => have := hdk j hq; simp [Idn.optI]; omega
        have h10 : (ks.length : Int) + (k : Int) + 1 ≤ t.classes.length := hbd
        omega
      case measure =>
        have h9 : Idn.optI (Idn.up1 t.classes k) + 1 ≤ (k : Int) := by
          cases hq : Idn.up1 t.classes k with
          | none => simp [Idn.optI]
          | some j => have := hdk j hq; simp [Idn.optI]; omega
        simp only [intOf]; omega
end Go.Proofs.YtoopoglkeeoamaaGreatDoor
/- identityref07: Must, May. -/
namespace Go.Proofs.YtoopoglkeeoamaaGreatDoor
open Go.RowKit Go.Sort
open Idn (L B Bs drop_L take_L size_L)
theorem SlV.grown {α : Type} {E : α → List Value → Prop} {w w' : World} {hi size n c : Nat} {A : Option Addr} {l : List α} {row : Option Nat} (h : SlV E w hi size (.slice A n c) l) (hg : w.grownBy w' row) (hs : ∀ b off, A = some ⟨b, off, none⟩ → row ≠ some b) (hh : hi ≤ w.heap.size) : SlV E w' hi size (.slice A n c) l := by
 obtain ⟨A', c', e, h1, h2⟩ := h
 injection e with e1 e2 e3
 subst e1
 refine ⟨A, c', by rw [e2, e3], h1, fun hp => ?_⟩
 obtain ⟨b, off, hA, hb, hx⟩ := h2 hp
 refine ⟨b, off, hA, hb, fun i x hix => ?_⟩
 obtain ⟨cs, h3, h4, h5⟩ := hx i x hix
 exact ⟨cs, h3, h4, fun j u hj => (World.cell?_of_block (w := w) (hg.block b (by omega) (fun e => hs b off hA e.symm))).trans (h5 j u hj)⟩
theorem linC_mem {s : Idn.Sch} {n : Bs} {c : Idn.Cl} (h : c ∈ linC (sound s) n) : c ∈ (sound s).classes := linS_mem h
theorem ownS_ge {w : World} {base : Nat} {e : TypeId} {size : Nat} {A : Option Addr} {n c : Nat} {xs : List Value} (h : w.ownsRow base e size (.slice A n c) n xs) {b off : Nat} (hA : A = some ⟨b, off, none⟩) : base ≤ b := by
 subst hA
 rcases h.2 with ⟨h0, _⟩ | ⟨g, cap, cur, hv, hb', _⟩
 ·cases h0
 ·injection hv with hv _ _
  injection hv with hv
  injection hv with hv _
  omega
theorem r_Must_any (v : Value) (s : Idn.Sch) (n : ByteArray) (w : World) (hv : SchV w w.heap.size v s) (hs : SSm s) (hn : n.size ≤ 1000000000) :
  Calls Tryz.prog 108 #[v, .string n] w (RetS w (mustL (sound s) (L n))) := by
 have hE := fun W (hW : Below w.heap.size w W) => r_lineage_any v s n W (SchV.mono (SchV.keep hv hW) hW.size) hs hn
 have hin := lin_in s (L n)
 have hln := lin_len s (L n)
 have hlc := linC_len (sound s) (L n)
 have hbd := bd_sound s
 have hres : mustL (sound s) (L n) = merged ((linC (sound s) (L n)).flatMap (·.must)) := rfl
 have hmem := fun c => linC_mem (s := s) (n := L n) (c := c)
 generalize Idn.lin (sound s) (L n) = ks at *
 generalize hcs : linC (sound s) (L n) = cs at *
 have hc64 : ∀ c ∈ cs, c.must.length ≤ 64 := fun c hc => (hbd.2 c (hmem c hc)).1
 have hc9 : ∀ x ∈ cs.flatMap (·.must), x.length ≤ 1000000000 := fun x hx => by
  obtain ⟨c, hc, hx⟩ := List.mem_flatMap.1 hx
  exact ((ssm_sound hs).2.2 c (hmem c hc)).2.2.1.2 x hx
 have hl32 : cs.length ≤ 32 := Nat.le_trans hlc hbd.1
 have hfl := flat_len (·.must) 64 cs hc64
 have Hres := Lib.hid hres
 obtain ⟨a, b, rfl, hT, hC⟩ := hv
 obtain ⟨A, ca, rfl, hca⟩ := SlV.shape hT
 obtain ⟨A', cb, rfl, hcb⟩ := SlV.shape hC
 have HLN := Lib.hid hln
 clear hT hln hres hmem hbd hcs hlc
 go_enter Tryz.func108, Tryz.ntmps108
 go_wp2_with fail
 with_reducible refine gen1 (R := fun W => Calls Tryz.prog 107 _ W _) ?_
 intro W hbW hszW hc1 _
 have q1 := hc1 1 _ rfl
 clear hc1
 refine (hE W hbW).mono ?_
 rintro e w1 ⟨v1, rfl, ho1, hb1⟩
 replace q1 := cell_later hb1 q1
 have hI1 := IntsV.of_own ho1
 have hbw1 := hbW.trans (hb1.mono hbW.size)
 have hC1 := ClassesV.keep hC hbw1
 obtain ⟨D, cd, rfl, hcd⟩ := SlV.shape hI1
 clear hE ho1
 go_wp2
 go_loopw [5, 7] (fun u x wr => ∃ i : Nat, i ≤ ks.length ∧ x = .int .i64 i ∧ wr.ownsRow w1.heap.size 9 1 u (flatK (·.must) cs i).length ((flatK (·.must) cs i).map sv) ∧ Below w1.heap.size w1 wr) (fun _ x _ => ks.length - (intOf x).toNat)
 case atStart => exact ⟨0, Nat.zero_le _, rfl, World.ownsRow_nil _ _ _ _, Below.refl _ _⟩
 case round =>
  obtain ⟨i, hi, rfl, hown, hb⟩ := hrel
  by_cases hlt : i < ks.length
  ·obtain ⟨hk, hci⟩ := hin i hlt
   have hil : i < cs.length := by rw [HLN.out]; exact hlt
   obtain ⟨g, o, rfl, hgl, d0⟩ := IntsV.cell (SlV.keep hI1 hb) hlt
   obtain ⟨bb, off, vm, vn, rfl, hbl, c0, c1, c2, c3, hm, _⟩ := ClassesV.cell (ClassesV.keep hC1 (hb.mono hbw1.size)) hk
   have he : cs[i] = s.classes[ks[i]] := by rw [List.getElem?_eq_getElem hil] at hci; injection hci
   have hk64 := hc64 cs[i] (List.getElem_mem hil)
   rw [← he] at hm
   have hmr : StrsV wr.drew w.heap.size vm cs[i].must := hm
   have q1r : wr.drew.cell? ⟨w.heap.size, 1, none⟩ = some (.slice (some ⟨bb, off, none⟩) s.classes.length cb) := cell_later hb.drew q1
   have d0r : wr.drew.cell? ⟨g, o + i, none⟩ = some (.int .i64 (ks[i] : Int)) := d0
   have c2r : wr.drew.cell? ⟨bb, off + ks[i] * 4 + 2, none⟩ = some vm := c2
   obtain ⟨Am, cm, rfl, hcm⟩ := SlV.shape hm
   have hownr : wr.drew.ownsRow w1.heap.size 9 1 u5 (flatK (·.must) cs i).length ((flatK (·.must) cs i).map sv) := hown
   have hltI : (i : Int) < (ks.length : Int) := by omega
   have hkI : ((ks[i] : Nat) : Int) < (s.classes.length : Int) := by omega
   have hk0 : (0 : Int) ≤ ((ks[i] : Nat) : Int) := by omega
   have hbr : Below w1.heap.size w1 wr.drew := hb.drew
   have hsr := hbr.size
   have htk : (flatK (·.must) cs i).length ≤ 2048 := by
    have h1 := flatK_len (·.must) cs 64 i hc64
    omega
   clear hci hown c0 c1 c2 c3 d0 he hm
   generalize ks[i] = kk at *
   go_wp2_with fail
   go_region_law (refine step_appendS rfl _ _ 45 rfl w1.heap.size 9 Tryz.underlying45 info_str _ _ _ hownr rfl _ cs[i].must _ hmr rfl (by omega) hsr ?_; intro v' w' hown' hg' hat')
   all_goals
    have hbn : Below w1.heap.size w1 w' := hbr.grown hg' hsr (fun g hg => (hownr.lt g hg).1)
    go_wp2_with fail
    go_roundw
    case rel =>
     refine ⟨i + 1, by omega, by go_num, ?_, hbn⟩
     rw [flatK_succ _ _ _ hil, List.map_append, List.length_append]
     exact hown'
    case measure => simp [intOf]; omega
  ·have hkl : i = cs.length := by have := HLN.out; omega
   have hltI : ¬ (i : Int) < (ks.length : Int) := by omega
   subst hkl
   rw [flatK_all] at hown
   generalize cs.flatMap (·.must) = q at *
   obtain ⟨A3, c3, hu⟩ := own_shape hown
   subst hu
   have hM := r_low_any _ q wr (StrsV.of_own hown) (by omega) hc9
   have hbw := hbw1.trans (hb.mono hbw1.size)
   clear hown
   go_wp2_with fail
   refine hM.mono ?_
   rintro e w5 ⟨v5, rfl, hown5, hb5⟩
   go_wp2
   go_ret
   exact ⟨_, rfl, by rw [Hres.out]; exact own_base hown5 hbw.size, hbw.trans (hb5.mono hbw.size)⟩
theorem r_May_any (v : Value) (s : Idn.Sch) (n : ByteArray) (w : World) (hv : SchV w w.heap.size v s) (hs : SSm s) (hn : n.size ≤ 1000000000) :
  Calls Tryz.prog 110 #[v, .string n] w (RetS w (mayL (sound s) (L n))) := by
 have hE := fun W (hW : Below w.heap.size w W) => r_lineage_any v s n W (SchV.mono (SchV.keep hv hW) hW.size) hs hn
 have hMu := fun W (hW : Below w.heap.size w W) => r_Must_any v s n W (SchV.mono (SchV.keep hv hW) hW.size) hs hn
 have hin := lin_in s (L n)
 have hln := lin_len s (L n)
 have hlc := linC_len (sound s) (L n)
 have hbd := bd_sound s
 have hml := mustL_len hbd (L n)
 have hmx := fun x => mustL_sm (ssm_sound hs) (n := L n) (x := x)
 have hres : mayL (sound s) (L n) = merged (mustL (sound s) (L n) ++ (linC (sound s) (L n)).flatMap (·.may)) := rfl
 have hmem := fun c => linC_mem (s := s) (n := L n) (c := c)
 generalize Idn.lin (sound s) (L n) = ks at *
 generalize hcs : linC (sound s) (L n) = cs at *
 generalize mustL (sound s) (L n) = mu at *
 have hc64 : ∀ c ∈ cs, c.may.length ≤ 64 := fun c hc => (hbd.2 c (hmem c hc)).2
 have hc9 : ∀ x ∈ mu ++ cs.flatMap (·.may), x.length ≤ 1000000000 := fun x hx => by
  rcases List.mem_append.1 hx with hx | hx
  ·exact hmx x hx
  ·obtain ⟨c, hc, hx⟩ := List.mem_flatMap.1 hx
   exact ((ssm_sound hs).2.2 c (hmem c hc)).2.2.2.2 x hx
 have hl32 : cs.length ≤ 32 := Nat.le_trans hlc hbd.1
 have hfl := flat_len (·.may) 64 cs hc64
 have Hres := Lib.hid hres
 obtain ⟨a, b, rfl, hT, hC⟩ := hv
 obtain ⟨A, ca, rfl, hca⟩ := SlV.shape hT
 obtain ⟨A', cb, rfl, hcb⟩ := SlV.shape hC
 have HLN := Lib.hid hln
 have hfz : Hid (mu = catK mu (·.may) cs 0) := (catK_zero mu (·.may) cs).symm
 clear hT hln hres hmem hbd hcs hlc hmx
 go_enter Tryz.func110, Tryz.ntmps110
 go_wp2_with fail
 with_reducible refine gen1 (R := fun W => Calls Tryz.prog 108 _ W _) ?_
 intro W hbW hszW hc1 _
 have q0 := hc1 0 _ rfl
 have q1 := hc1 1 _ rfl
 clear hc1
 refine (hMu W hbW).mono ?_
 rintro e w0 ⟨v0, rfl, ho0, hb0⟩
 replace q0 := cell_later hb0 q0
 replace q1 := cell_later hb0 q1
 have hbw0 := hbW.trans (hb0.mono hbW.size)
 clear hMu
 go_wp2_with fail
 refine (hE w0 hbw0).mono ?_
 rintro e w1 ⟨v1, rfl, ho1, hb1⟩
 replace q1 := cell_later hb1 q1
 have hlt0 := fun g => own_lt ho0 (g := g)
 replace ho0 := own_below ho0 hb1
 have hI1 := IntsV.of_own ho1
 have hbw1 := hbw0.trans (hb1.mono hbw0.size)
 have hC1 := ClassesV.keep hC hbw1
 obtain ⟨D, cd, rfl, hcd⟩ := SlV.shape hI1
 have hge1 := fun b off => ownS_ge ho1 (b := b) (off := off)
 have hWs := Nat.le_trans hb0.size hb1.size
 clear hE ho1 q0
 go_wp2
 go_loopw [5, 7] (fun u x wr => ∃ i : Nat, i ≤ ks.length ∧ x = .int .i64 i ∧ wr.ownsRow W.heap.size 9 1 u (catK mu (·.may) cs i).length ((catK mu (·.may) cs i).map sv) ∧ Below W.heap.size w1 wr ∧ IntsV wr w1.heap.size (.slice D ks.length cd) ks ∧ (∀ g, u.ownBlock = some g → ∀ b off, D = some ⟨b, off, none⟩ → b ≠ g) ∧ w1.heap.size ≤ wr.heap.size) (fun _ x _ => ks.length - (intOf x).toNat)
 case atStart => exact ⟨0, Nat.zero_le _, rfl, by rw [← hfz.out]; exact ho0, Below.refl _ _, hI1, fun g hg b off hD => by have := hlt0 g hg; have := hge1 b off hD; omega, Nat.le_refl _⟩
 case round =>
  obtain ⟨i, hi, rfl, hown, hb, hIr, hsep, hsz⟩ := hrel
  by_cases hlt : i < ks.length
  ·obtain ⟨hk, hci⟩ := hin i hlt
   have hil : i < cs.length := by rw [HLN.out]; exact hlt
   obtain ⟨g, o, hD, hgl, d0⟩ := IntsV.cell hIr hlt
   have hbwr : Below w.heap.size w wr := hbw1.trans (hb.mono hbW.size)
   obtain ⟨bb, off, vm, vn, rfl, hbl, c0, c1, c2, c3, _, hm⟩ := ClassesV.cell (ClassesV.keep hC hbwr) hk
   have he : cs[i] = s.classes[ks[i]] := by rw [List.getElem?_eq_getElem hil] at hci; injection hci
   have hk64 := hc64 cs[i] (List.getElem_mem hil)
   rw [← he] at hm
   have hmr : StrsV wr.drew w.heap.size vn cs[i].may := hm
   have q1r : wr.drew.cell? ⟨w.heap.size, 1, none⟩ = some (.slice (some ⟨bb, off, none⟩) s.classes.length cb) := by
    have := (hb.cell (p := ⟨w.heap.size, 1, none⟩) (by show w.heap.size < _; omega)).trans q1
    exact this
   have d0r : wr.drew.cell? ⟨g, o + i, none⟩ = some (.int .i64 (ks[i] : Int)) := d0
   have c3r : wr.drew.cell? ⟨bb, off + ks[i] * 4 + 3, none⟩ = some vn := c3
   obtain ⟨Am, cm, rfl, hcm⟩ := SlV.shape hm
   have hownr : wr.drew.ownsRow W.heap.size 9 1 u5 (catK mu (·.may) cs i).length ((catK mu (·.may) cs i).map sv) := hown
   have hIrr : IntsV wr.drew w1.heap.size (.slice D ks.length cd) ks := hIr
   have hltI : (i : Int) < (ks.length : Int) := by omega
   have hkI : ((ks[i] : Nat) : Int) < (s.classes.length : Int) := by omega
   have hk0 : (0 : Int) ≤ ((ks[i] : Nat) : Int) := by omega
   have hbr : Below W.heap.size w1 wr.drew := hb.drew
   have hsr : W.heap.size ≤ wr.drew.heap.size := by show W.heap.size ≤ wr.heap.size; omega
   have hszd : w1.heap.size ≤ wr.drew.heap.size := hsz
   have htk : (catK mu (·.may) cs i).length ≤ 4096 := by
    have h1 := flatK_len (·.may) cs 64 i hc64
    rw [catK_lenEq]; omega
   have HD := Lib.hid hD
   clear hci hown c0 c1 c2 c3 d0 he hm hIr
   generalize ks[i] = kk at *
   subst hD
   go_wp2_with fail
   go_region_law (refine step_appendS rfl _ _ 45 rfl W.heap.size 9 Tryz.underlying45 info_str _ _ _ hownr rfl _ cs[i].may _ hmr rfl (by omega) hsr ?_; intro v' w' hown' hg' hat')
   all_goals
    have hbn : Below W.heap.size w1 w' := hbr.grown hg' hsr (fun g hg => (hownr.lt g hg).1)
    have hIn := SlV.grown hIrr hg' (fun b' off' e h => hsep b' h b' off' e rfl) hszd
    have hszn : w1.heap.size ≤ w'.heap.size := Nat.le_trans hszd hg'.size
    go_wp2_with fail
    go_roundw
    case rel =>
     refine ⟨i + 1, by omega, by go_num, ?_, hbn, hIn, ?_, hszn⟩
     ·rw [catK_succ _ _ _ _ hil, List.map_append, List.length_append]
      exact hown'
     ·intro g' hg b' off' e
      rcases hat' with hat | hat
      ·exact hsep g' (hat ▸ hg) b' off' e
      ·rw [hat] at hg
       injection hg with hg
       injection e with e
       injection e with e _
       omega
    case measure => simp [intOf]; omega
  ·have hkl : i = cs.length := by have := HLN.out; omega
   have hltI : ¬ (i : Int) < (ks.length : Int) := by omega
   subst hkl
   rw [catK_all] at hown
   have hql : (mu ++ cs.flatMap (·.may)).length ≤ 1000000 := by rw [List.length_append]; omega
   generalize mu ++ cs.flatMap (·.may) = q at *
   obtain ⟨A3, c3, hu⟩ := own_shape hown
   subst hu
   have hM := r_low_any _ q wr (StrsV.of_own hown) hql hc9
   have hbw := hbw1.trans (hb.mono hbW.size)
   clear hown
   go_wp2_with fail
   refine hM.mono ?_
   rintro e w5 ⟨v5, rfl, hown5, hb5⟩
   go_wp2
   go_ret
   exact ⟨_, rfl, by rw [Hres.out]; exact own_base hown5 hbw.size, hbw.trans (hb5.mono hbw.size)⟩
end Go.Proofs.YtoopoglkeeoamaaGreatDoor
