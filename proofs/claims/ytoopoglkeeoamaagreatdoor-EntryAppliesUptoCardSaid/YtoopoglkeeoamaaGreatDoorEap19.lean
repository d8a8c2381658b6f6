/- Part 19 of the proof that identitylaw08.EntryApplies returns true: the package variables hold what the program lays; nothing else is asked. -/
import Derived.Test.YtoopoglkeeoamaaGreatDoorEap15
import Derived.Test.YtoopoglkeeoamaaGreatDoorEap16
import Derived.Test.YtoopoglkeeoamaaGreatDoorEap17
import Derived.Test.YtoopoglkeeoamaaGreatDoorEap18
set_option linter.unusedVariables false
set_option linter.unusedSimpArgs false
set_option maxRecDepth 100000
set_option maxHeartbeats 8000000
/- schema.Lineage. -/
namespace Go.Proofs.YtoopoglkeeoamaaGreatDoor
open Go.RowKit Go.Sort
open Idn (L B Bs drop_L take_L size_L)
theorem dec_sound (s : Idn.Sch) : Idn.Dec (sound s).classes := by
 unfold sound
 by_cases h : Idn.sCheck s = 0
 ·rw [if_pos h]; exact Idn.dec_of s h
 ·rw [if_neg h]; exact Idn.dec_nil
theorem ssm_sound {s : Idn.Sch} (h : SSm s) : SSm (sound s) := by
 unfold sound
 by_cases h' : Idn.sCheck s = 0
 ·rw [if_pos h']; exact h
 ·rw [if_neg h']; exact ⟨⟨by simp, by simp⟩, ⟨by simp, by simp⟩⟩
def linC (s : Idn.Sch) (n : Bs) : List Idn.Cl := (Idn.lin s n).filterMap (s.classes[·]?)
theorem linK_len (l : List Idn.Cl) : ∀ (f : Nat) (o : Option Nat), (Idn.linK l f o).length ≤ f
 | 0, _ => Nat.le_refl _
 | f + 1, none => by simp [Idn.linK]
 | f + 1, some k => by rw [Idn.linK_some]; have := linK_len l f (Idn.up1 l k); simp; omega
theorem linC_len (s : Idn.Sch) (n : Bs) : (linC s n).length ≤ s.classes.length :=
 Nat.le_trans (List.length_filterMap_le _ _) (linK_len _ _ _)
end Go.Proofs.YtoopoglkeeoamaaGreatDoor
/- schema: must, may, Must, May. -/
namespace Go.Proofs.YtoopoglkeeoamaaGreatDoor
open Go.RowKit Go.Sort
open Idn (L B Bs drop_L take_L size_L)
def Bd (s : Idn.Sch) : Prop := s.classes.length ≤ 32 ∧ ∀ c ∈ s.classes, c.must.length ≤ 64 ∧ c.may.length ≤ 64
theorem clErr_lens {ts : List Idn.AT} {p : List Idn.Cl} {c : Idn.Cl} (h : Idn.clErr ts p c = 0) : c.must.length ≤ 64 ∧ c.may.length ≤ 64 := by
 unfold Idn.clErr at h
 split at h
 ·cases h
 ·split at h
  ·cases h
  ·split at h
   ·cases h
   ·split at h
    ·cases h
    ·rename_i hn
     simp at hn
     omega
theorem bd_sound (s : Idn.Sch) : Bd (sound s) := by
 unfold sound
 by_cases h : Idn.sCheck s = 0
 ·rw [if_pos h]
  have hl : ¬ ((decide (64 < s.types.length) || decide (32 < s.classes.length)) = true) := by
   intro he; unfold Idn.sCheck at h; rw [if_pos he] at h; cases h
  have hc : Idn.clsErr s.types [] s.classes = 0 := by
   unfold Idn.sCheck at h
   rw [if_neg hl] at h
   split at h
   ·rename_i hn; simp [h] at hn
   ·split at h
    ·exact h
    ·rename_i hn; simpa using hn
  simp at hl
  refine ⟨by omega, fun c hc' => ?_⟩
  obtain ⟨k, hk, rfl⟩ := List.getElem_of_mem hc'
  exact clErr_lens (Idn.clsErr_zero _ _ _ hc k hk)
 ·rw [if_neg h]
  exact ⟨by simp, by simp⟩
theorem linS_len (s : Idn.Sch) (n : Bs) : ((Idn.lin s n).filterMap (s.classes[·]?)).length ≤ s.classes.length := linC_len s n
theorem linS_mem {s : Idn.Sch} {n : Bs} {c : Idn.Cl} (h : c ∈ (Idn.lin s n).filterMap (s.classes[·]?)) : c ∈ s.classes := by
 obtain ⟨k, _, hk⟩ := List.mem_filterMap.1 h
 exact List.mem_of_getElem? hk
theorem flat_len {α : Type} (f : α → List Bs) (c : Nat) : ∀ (l : List α), (∀ x ∈ l, (f x).length ≤ c) → (l.flatMap f).length ≤ l.length * c
  | [], _ => by simp
  | x :: l, h => by
    have := flat_len f c l (fun y hy => h y (List.mem_cons_of_mem _ hy))
    have h0 := h x List.mem_cons_self
    simp only [List.flatMap_cons, List.length_append, List.length_cons]
    rw [Nat.add_mul]; omega
theorem take_flat {α : Type} (f : α → List Bs) (l : List α) (k : Nat) (hk : k < l.length) : (l.take (k + 1)).flatMap f = (l.take k).flatMap f ++ f l[k] := by
 rw [List.take_succ_eq_append_getElem hk, List.flatMap_append]; simp
def flatK (f : Idn.Cl → List Bs) (l : List Idn.Cl) (k : Nat) : List Bs := (l.take k).flatMap f
theorem flatK_zero (f : Idn.Cl → List Bs) (l : List Idn.Cl) : flatK f l 0 = [] := rfl
theorem flatK_succ (f : Idn.Cl → List Bs) (l : List Idn.Cl) (k : Nat) (hk : k < l.length) : flatK f l (k + 1) = flatK f l k ++ f l[k] := take_flat f l k hk
theorem flatK_all (f : Idn.Cl → List Bs) (l : List Idn.Cl) : flatK f l l.length = l.flatMap f := by unfold flatK; rw [List.take_length]
def catK (m : List Bs) (f : Idn.Cl → List Bs) (l : List Idn.Cl) (k : Nat) : List Bs := m ++ flatK f l k
theorem catK_zero (m : List Bs) (f : Idn.Cl → List Bs) (l : List Idn.Cl) : catK m f l 0 = m := by rw [catK, flatK_zero, List.append_nil]
theorem catK_succ (m : List Bs) (f : Idn.Cl → List Bs) (l : List Idn.Cl) (k : Nat) (hk : k < l.length) : catK m f l (k + 1) = catK m f l k ++ f l[k] := by rw [catK, flatK_succ _ _ _ hk, ← List.append_assoc]; rfl
theorem catK_all (m : List Bs) (f : Idn.Cl → List Bs) (l : List Idn.Cl) : catK m f l l.length = m ++ l.flatMap f := by rw [catK, flatK_all]
theorem catK_lenEq (m : List Bs) (f : Idn.Cl → List Bs) (l : List Idn.Cl) (k : Nat) : (catK m f l k).length = m.length + (flatK f l k).length := by rw [catK, List.length_append]
theorem flatK_len (f : Idn.Cl → List Bs) (l : List Idn.Cl) (c k : Nat) (h : ∀ x ∈ l, (f x).length ≤ c) : (flatK f l k).length ≤ l.length * c := by
 have h1 := flat_len f c (l.take k) (fun x hx => h x (List.mem_of_mem_take hx))
 have h2 : (l.take k).length ≤ l.length := by rw [List.length_take]; omega
 exact Nat.le_trans h1 (Nat.mul_le_mul_right c h2)
def mustL (s : Idn.Sch) (n : Bs) : List Bs := merged (((Idn.lin s n).filterMap (s.classes[·]?)).flatMap (·.must))
def mayL (s : Idn.Sch) (n : Bs) : List Bs := merged (mustL s n ++ ((Idn.lin s n).filterMap (s.classes[·]?)).flatMap (·.may))
theorem must_any (m1 m2 : Value) (s : Idn.Sch) (hi : Nat) (n : ByteArray) (w : World) (hk : KnV w hi m1 m2 s) (hh : hi ≤ w.heap.size) (hd : Idn.Dec s.classes) (hs : SSm s) (hbd : Bd s) (hn : n.size ≤ 1000000000) :
  Calls Tryz.prog 164 #[.agg #[m1, m2], .string n] w (RetS w (mustL s (L n))) := by
 obtain ⟨o1, o2, rfl, rfl⟩ := hk.shape
 have hLin := fun W (hW : Below w.heap.size w W) => lineage_any _ _ s hi n W (hk.keep hW hh) (Nat.le_trans hh hW.size) hd hs hn
 have hlen := linS_len s (L n)
 have hmem := fun c => linS_mem (s := s) (n := L n) (c := c)
 have hres : mustL s (L n) = merged (((Idn.lin s (L n)).filterMap (s.classes[·]?)).flatMap (·.must)) := rfl
 clear hk
 generalize (Idn.lin s (L n)).filterMap (s.classes[·]?) = l at *
 have hc64 : ∀ c ∈ l, c.must.length ≤ 64 := fun c hc => (hbd.2 c (hmem c hc)).1
 have hc9 : ∀ x ∈ l.flatMap (·.must), x.length ≤ 1000000000 := fun x hx => by
  obtain ⟨c, hc, hx⟩ := List.mem_flatMap.1 hx
  exact (hs.2.2 c (hmem c hc)).2.2.1.2 x hx
 have hl32 : l.length ≤ 32 := Nat.le_trans hlen hbd.1
 have hfl := flat_len (·.must) 64 l hc64
 have Hres := Lib.hid hres
 clear hres hmem hlen hbd hs hd
 go_enter Tryz.func164, Tryz.ntmps164
 go_wp2_with fail
 with_reducible refine gen1 (R := fun W => Calls Tryz.prog 213 _ W _) ?_
 intro W hbW hszW _ _
 refine (hLin W hbW).mono ?_
 rintro e w2 ⟨vc, rfl, hb2, hcl⟩
 have hbw2 := hbW.trans (hb2.mono hbW.size)
 clear hLin
 obtain ⟨AA, cc, rfl, hcc⟩ := SlV.shape hcl
 go_wp2
 go_loopw [5, 12] (fun v i wr => ∃ k : Nat, k ≤ l.length ∧ i = .int .i64 k ∧ wr.ownsRow w2.heap.size 9 1 v (flatK (·.must) l k).length ((flatK (·.must) l k).map sv) ∧ Below w2.heap.size w2 wr) (fun _ i _ => l.length - (intOf i).toNat)
 case atStart => exact ⟨0, Nat.zero_le _, rfl, World.ownsRow_nil _ _ _ _, Below.refl _ _⟩
 case round =>
  obtain ⟨k, hk, rfl, hown, hb⟩ := hrel
  by_cases hlt : k < l.length
  ·obtain ⟨b, off, vm, vn, rfl, hbl, c0, c1, c2, c3, hm, hn'⟩ := ClassesV.cell (ClassesV.keep hcl hb) hlt
   obtain ⟨Am, cm, rfl, hcm⟩ := SlV.shape hm
   obtain ⟨An, cn, rfl, hcn⟩ := SlV.shape hn'
   have hltI : (k : Int) < (l.length : Int) := by omega
   have ba := (Below.refl wr.heap.size wr).alloc (Nat.le_refl _) (.cells #[.string (B l[k].name), .string (B l[k].super), .slice Am l[k].must.length cm, .slice An l[k].may.length cn] 67)
   have hown1 := own_below hown ba
   have hm1 := SlV.keep (SlV.mono hm hb.size) ba
   have hbw := hb.trans (ba.mono hb.size)
   have hbs1 := hbw.size
   have htk : (flatK (·.must) l k).length ≤ 2048 := by
    have h1 := flatK_len (·.must) l 64 k hc64
    omega
   have hk64 := hc64 l[k] (List.getElem_mem hlt)
   clear hm hn' hown ba
   go_wp2_with (at_builtin; refine wpList_appendS rfl _ _ 45 rfl w2.heap.size 9 Tryz.underlying45 info_str _ _ _ hown1 rfl _ l[k].must _ hm1 rfl (by omega) hbs1 ?_)
   intro v' w1' hown' hb' _ _
   clear hown1 hm1
   go_wp2
   go_roundw
   case rel =>
    refine ⟨k + 1, by omega, by go_num, ?_, hbw.trans hb'⟩
    rw [flatK_succ _ _ _ hlt, List.map_append, List.length_append]
    exact hown'
   case measure => simp [intOf]; omega
  ·have hkl : k = l.length := by omega
   have hltI : ¬ (k : Int) < (l.length : Int) := by omega
   subst hkl
   rw [flatK_all] at hown
   generalize l.flatMap (·.must) = q at *
   obtain ⟨A3, c3, hu⟩ := own_shape hown
   subst hu
   have hM := merged_any _ q wr (StrsV.of_own hown) (by omega) hc9
   have hbw := hbw2.trans (hb.mono hbw2.size)
   clear hown
   go_wp2_with fail
   refine hM.mono ?_
   rintro e w5 ⟨v5, rfl, hown5, hb5⟩
   go_wp2
   go_ret
   exact ⟨_, rfl, by rw [Hres.out]; exact own_base hown5 hbw.size, hbw.trans (hb5.mono hbw.size)⟩
theorem sorted_len (l : List Bs) : (sorted l).length = l.length := by simp [sorted]
theorem merged_len (l : List Bs) : (merged l).length ≤ l.length := by
 have h := Lib.compact_length_le (sorted (l.map Idn.lower))
 rw [sorted_len, List.length_map] at h
 exact h
theorem compact_mem {x : Bs} {l : List Bs} (h : x ∈ Lib.compact l) : x ∈ l := by
 unfold Lib.compact Lib.compactUpTo at h
 obtain ⟨i, hi, rfl⟩ := List.mem_map.1 h
 have hil := (List.mem_filter.1 hi).1
 rw [List.mem_range] at hil
 simp [hil]
theorem own_lt {w : World} {base : Nat} {e : TypeId} {size : Nat} {v : Value} {n : Nat} {xs : List Value} (h : w.ownsRow base e size v n xs) {g : Nat} (hg : v.ownBlock = some g) : g < w.heap.size := (h.lt g hg).2
theorem LinV.shape {w : World} {base hi : Nat} {v : Value} {l : List Idn.Cl} (h : LinV w base hi v l) : ∃ A c, v = .slice A l.length c := by
 obtain ⟨xs, h1, _⟩ := h
 exact own_shape h1
theorem LinV.cell {w : World} {base hi : Nat} {A : Option Addr} {n c : Nat} {l : List Idn.Cl} (h : LinV w base hi (.slice A n c) l) {k : Nat} (hk : k < l.length) :
  ∃ g vm vn, A = some ⟨g, 0, none⟩ ∧ g < w.heap.size ∧ w.cell? ⟨g, k * 4, none⟩ = some (.string (B l[k].name)) ∧ w.cell? ⟨g, k * 4 + 1, none⟩ = some (.string (B l[k].super)) ∧ w.cell? ⟨g, k * 4 + 2, none⟩ = some vm ∧ w.cell? ⟨g, k * 4 + 3, none⟩ = some vn ∧ StrsV w hi vm l[k].must ∧ StrsV w hi vn l[k].may := by
 obtain ⟨xs, h1, h2⟩ := h
 obtain ⟨g, cap, cur, hv, _, hgg, _⟩ : ∃ g cap cur, Value.slice A n c = .slice (some ⟨g, 0, none⟩) l.length cap ∧ base ≤ g ∧ w.heap[g]? = some (.cells cur 67 (0, 0)) ∧ True := by
  rcases h1.2 with ⟨_, hn⟩ | ⟨g, cap, cur, hv, hb', hgg, rest⟩
  ·omega
  ·exact ⟨g, cap, cur, hv, hb', hgg, trivial⟩
 have hlt := (Array.getElem?_eq_some_iff.1 hgg).1
 injection hv with hv
 subst hv
 obtain ⟨cs, h3, ⟨v, u, h4, hv, hu⟩, h5⟩ := h2 k l[k] (List.getElem?_eq_getElem hk)
 subst h4
 have hc := h1.cells (g := g) rfl
 have e : ∀ j, ((⟨g, 0, none⟩ : Addr).add j) = ⟨g, j, none⟩ := fun j => by unfold Addr.add; split <;> simp_all
 have h6 := fun (j : Nat) (u : Value) (hj) => (e (k * 4 + j)) ▸ hc (k * 4 + j) u (h5 j u hj)
 exact ⟨g, v, u, rfl, hlt, h6 0 _ rfl, h6 1 _ rfl, h6 2 _ rfl, h6 3 _ rfl, hv, hu⟩
theorem LinV.grown {w w' : World} {base hi : Nat} {A : Option Addr} {n c : Nat} {l : List Idn.Cl} (h : LinV w base hi (.slice A n c) l) {row : Option Nat} (hg : w.grownBy w' row) (hs : ∀ g, row = some g → A ≠ some ⟨g, 0, none⟩) (hb : Below hi w w') : LinV w' base hi (.slice A n c) l := by
 obtain ⟨xs, h1, h2⟩ := h
 refine ⟨xs, ⟨h1.1, ?_⟩, fun i x hx => ?_⟩
 ·rcases h1.2 with hn | ⟨g, cap, cur, hv, hb', hgg, rest⟩
  ·exact .inl hn
  ·injection hv with hv1 hv2 hv3
   subst hv1
   exact .inr ⟨g, cap, cur, by rw [hv2, hv3], hb', by rw [hg.block g (Array.getElem?_eq_some_iff.1 hgg).1 (fun e => hs g e.symm rfl)]; exact hgg, rest⟩
 ·obtain ⟨cs, h3, h4, h5⟩ := h2 i x hx
  exact ⟨cs, h3, h4.keep hb, h5⟩
theorem LinV.ge {w : World} {base hi : Nat} {g n c : Nat} {l : List Idn.Cl} (h : LinV w base hi (.slice (some ⟨g, 0, none⟩) n c) l) : base ≤ g := by
 obtain ⟨xs, h1, _⟩ := h
 exact (h1.lt g rfl).1
theorem merged_mem {l : List Bs} {x : Bs} (h : x ∈ merged l) : ∃ y ∈ l, x = Idn.lower y := by
 have h1 := compact_mem h
 have h2 : x ∈ l.map Idn.lower := by
  unfold sorted at h1
  exact (List.mergeSort_perm _ _).mem_iff.1 h1
 obtain ⟨y, hy, rfl⟩ := List.mem_map.1 h2
 exact ⟨y, hy, rfl⟩
theorem mustL_len {s : Idn.Sch} (hbd : Bd s) (n : Bs) : (mustL s n).length ≤ 2048 := by
 have h1 := linS_len s n
 have h2 := flat_len (·.must) 64 ((Idn.lin s n).filterMap (s.classes[·]?)) (fun c hc => (hbd.2 c (linS_mem hc)).1)
 have h3 := merged_len (((Idn.lin s n).filterMap (s.classes[·]?)).flatMap (·.must))
 have := hbd.1
 unfold mustL
 omega
theorem mustL_sm {s : Idn.Sch} (hs : SSm s) {n x : Bs} (h : x ∈ mustL s n) : x.length ≤ 1000000000 := by
 obtain ⟨y, hy, rfl⟩ := merged_mem h
 obtain ⟨c, hc, hx⟩ := List.mem_flatMap.1 hy
 rw [Idn.length_lower]
 exact (hs.2.2 c (linS_mem hc)).2.2.1.2 y hx
theorem may_any (m1 m2 : Value) (s : Idn.Sch) (hi : Nat) (n : ByteArray) (w : World) (hk : KnV w hi m1 m2 s) (hh : hi ≤ w.heap.size) (hd : Idn.Dec s.classes) (hs : SSm s) (hbd : Bd s) (hn : n.size ≤ 1000000000) :
  Calls Tryz.prog 165 #[.agg #[m1, m2], .string n] w (RetS w (mayL s (L n))) := by
 obtain ⟨o1, o2, rfl, rfl⟩ := hk.shape
 have hMu := fun W (hW : Below w.heap.size w W) => must_any _ _ s hi n W (hk.keep hW hh) (Nat.le_trans hh hW.size) hd hs hbd hn
 have hLin := fun W (hW : Below w.heap.size w W) => lineage_lin _ _ s hi n W (hk.keep hW hh) (Nat.le_trans hh hW.size) hd hs hn
 have hlen := linS_len s (L n)
 have hmem := fun c => linS_mem (s := s) (n := L n) (c := c)
 have hml := mustL_len hbd (L n)
 have hmx := fun x => mustL_sm hs (n := L n) (x := x)
 have hres : mayL s (L n) = merged (mustL s (L n) ++ ((Idn.lin s (L n)).filterMap (s.classes[·]?)).flatMap (·.may)) := rfl
 clear hk
 generalize (Idn.lin s (L n)).filterMap (s.classes[·]?) = l at *
 generalize mustL s (L n) = mu at *
 have hc64 : ∀ c ∈ l, c.may.length ≤ 64 := fun c hc => (hbd.2 c (hmem c hc)).2
 have hc9 : ∀ x ∈ mu ++ l.flatMap (·.may), x.length ≤ 1000000000 := fun x hx => by
  rcases List.mem_append.1 hx with hx | hx
  ·exact hmx x hx
  ·obtain ⟨c, hc, hx⟩ := List.mem_flatMap.1 hx
   exact (hs.2.2 c (hmem c hc)).2.2.2.2 x hx
 have hl32 : l.length ≤ 32 := Nat.le_trans hlen hbd.1
 have hfl := flat_len (·.may) 64 l hc64
 have Hres := Lib.hid hres
 clear hres hmem hlen hbd hs hd hmx
 go_enter Tryz.func165, Tryz.ntmps165
 go_wp2_with fail
 with_reducible refine gen1 (R := fun W => Calls Tryz.prog 164 _ W _) ?_
 intro W hbW hszW hcW _
 have k0 := hcW 0 _ rfl
 have k1 := hcW 1 _ rfl
 clear hcW
 refine (hMu W hbW).mono ?_
 rintro e w1 ⟨v1, rfl, hown1, hb1⟩
 obtain ⟨A1, c1, hu1⟩ := own_shape hown1
 subst hu1
 have hbw1 := hbW.trans (hb1.mono hbW.size)
 replace k0 := cell_later hb1 k0
 replace k1 := cell_later hb1 k1
 clear hMu
 go_wp2_with fail
 refine (hLin w1 hbw1).mono ?_
 rintro e w2 ⟨vc, rfl, hb2, hcl⟩
 have hown2 := own_below hown1 hb2
 have hbw2 := hbw1.trans (hb2.mono hbw1.size)
 have hlt1 := fun g => own_lt hown1 (g := g)
 obtain ⟨AA, cc, hvc⟩ := hcl.shape
 subst hvc
 have hhi : hi ≤ W.heap.size := Nat.le_trans hh hbW.size
 clear hLin hown1 k0 k1
 have hbq := hb1.trans (hb2.mono hb1.size)
 have hfz : Hid (mu = catK mu (·.may) l 0) := (catK_zero mu (·.may) l).symm
 clear hszW
 go_wp2
 go_loopw [5, 15] (fun v i wr => ∃ k : Nat, k ≤ l.length ∧ i = .int .i64 k ∧ wr.ownsRow W.heap.size 9 1 v (catK mu (·.may) l k).length ((catK mu (·.may) l k).map sv) ∧ Below W.heap.size w2 wr ∧ LinV wr w1.heap.size hi (.slice AA l.length cc) l ∧ ∀ g, v.ownBlock = some g → AA ≠ some ⟨g, 0, none⟩) (fun _ i _ => l.length - (intOf i).toNat)
 case atStart => exact ⟨0, Nat.zero_le _, rfl, by rw [← hfz.out]; exact hown2, Below.refl _ _, hcl, fun g hg hAA => by subst hAA; have := hlt1 g hg; have := hcl.ge; omega⟩
 case round =>
  obtain ⟨k, hk, rfl, hown, hb, hcr, hsep⟩ := hrel
  by_cases hlt : k < l.length
  ·obtain ⟨b, vm, vn, rfl, hbl, c0, c1, c2, c3, hm, hn'⟩ := hcr.cell hlt
   obtain ⟨Am, cm, rfl, hcm⟩ := SlV.shape hm
   obtain ⟨An, cn, rfl, hcn⟩ := SlV.shape hn'
   have hltI : (k : Int) < (l.length : Int) := by omega
   have ba := (Below.refl wr.heap.size wr).alloc (Nat.le_refl _) (.cells #[.string (B l[k].name), .string (B l[k].super), .slice Am l[k].must.length cm, .slice An l[k].may.length cn] 67)
   have hgA := World.grownBy_alloc wr (.cells #[.string (B l[k].name), .string (B l[k].super), .slice Am l[k].must.length cm, .slice An l[k].may.length cn] 67) (Value.ownBlock u5)
   have hown1 := own_below hown ba
   have hhr : hi ≤ wr.heap.size := Nat.le_trans hhi (Nat.le_trans hbq.size hb.size)
   have hn1 := SlV.keep hn' (ba.mono hhr)
   have hbs1 : W.heap.size ≤ (wr.alloc (.cells #[.string (B l[k].name), .string (B l[k].super), .slice Am l[k].must.length cm, .slice An l[k].may.length cn] 67)).heap.size := by simp; have := hbq.size; have := hb.size; omega
   have hbw := hb.trans (ba.mono (Nat.le_trans hbq.size hb.size))
   have htk : (catK mu (·.may) l k).length ≤ 4096 := by
    have h1 := flatK_len (·.may) l 64 k hc64
    rw [catK_lenEq]; omega
   have hk64 := hc64 l[k] (List.getElem_mem hlt)
   clear hm hn' hown ba
   go_wp2_with (at_builtin; refine wpList_appendS rfl _ _ 45 rfl W.heap.size 9 Tryz.underlying45 info_str _ _ _ hown1 rfl _ l[k].may _ hn1 rfl (by omega) hbs1 ?_)
   intro v' w1' hown' hb' hgr hat
   have hgr' := hgA.trans hgr
   have hcr' := hcr.grown hgr' hsep (Below.grown (Below.refl hi wr) hgr' hhr (fun g hg => Nat.le_trans hhi ((hown1.lt g hg).1)))
   clear hown1 hn1
   go_wp2
   go_roundw
   case rel =>
    refine ⟨k + 1, by omega, by go_num, ?_, hbw.trans hb', ?_, ?_⟩
    ·rw [catK_succ _ _ _ _ hlt, List.map_append, List.length_append]
     exact hown'
    ·exact hcr'
    ·intro g hg hAA
     rcases hat with hat | hat
     ·exact hsep g (hat ▸ hg) hAA
     ·rw [hat] at hg
      injection hg with hg
      injection hAA with hAA
      injection hAA with hAA
      omega
   case measure => simp [intOf]; omega
  ·have hkl : k = l.length := by omega
   have hltI : ¬ (k : Int) < (l.length : Int) := by omega
   subst hkl
   rw [catK_all] at hown
   have hql : (mu ++ l.flatMap (·.may)).length ≤ 1000000000 := by rw [List.length_append]; omega
   generalize mu ++ l.flatMap (·.may) = q at *
   obtain ⟨A3, c3, hu⟩ := own_shape hown
   subst hu
   have hM := merged_any _ q wr (StrsV.of_own hown) hql hc9
   have hbw := hbW.trans ((hbq.trans hb).mono hbW.size)
   clear hown
   go_wp2_with fail
   refine hM.mono ?_
   rintro e w5 ⟨v5, rfl, hown5, hb5⟩
   go_wp2
   go_ret
   exact ⟨_, rfl, by rw [Hres.out]; exact own_base hown5 hbw.size, hbw.trans (hb5.mono hbw.size)⟩
end Go.Proofs.YtoopoglkeeoamaaGreatDoor
/- schema: Text. -/
namespace Go.Proofs.YtoopoglkeeoamaaGreatDoor
open Go.RowKit Go.Sort
open Idn (L B Bs drop_L take_L size_L)
theorem strCells_B (a : Bs) : Lib.strCells (B a) = Lib.byteCells a := by simp [Lib.strCells, Lib.byteCells, B]
theorem byteCells_app (a b : Bs) : Lib.byteCells (a ++ b) = Lib.byteCells a ++ Lib.byteCells b := by simp [Lib.byteCells]
theorem Bld.keep {lo b : Nat} {bs : List Value} {w w' : World} (h : Bld lo b bs w) (hb : Below w.heap.size w w') : Bld lo b bs w' := by
 have key : ∀ p, Lib.BuilderAtF 83 5 lo b p bs w → Lib.BuilderAtF 83 5 lo b p bs w' := by
  rintro p ⟨hB, v, hbk, hown, hne⟩
  refine ⟨hB, v, (hb.block b (Array.getElem?_eq_some_iff.1 hbk).1).trans hbk, ⟨hown.1, ?_⟩, hne⟩
  rcases hown.2 with hn | ⟨g, cap, cur, fz, hv, hb', hgg, rest⟩
  ·exact .inl hn
  ·exact .inr ⟨g, cap, cur, fz, hv, hb', (hb.block g (Array.getElem?_eq_some_iff.1 hgg).1).trans hgg, rest⟩
 rcases h with h | h
 ·exact .inl (key _ h)
 ·exact .inr (key _ h)
theorem Bld.new (w : World) : Bld w.heap.size w.heap.size [] (w.alloc (.cells #[.pointer none, .slice none 0 0] 83)) :=
 Lib.IsBuilderF.of (Lib.fresh_isBuilder _ _ _)
theorem Bld.bytes {lo b : Nat} {a : Bs} {s : ByteArray} {w : World} (h : Bld lo b (Lib.byteCells a ++ Lib.strCells s) w) : Bld lo b (Lib.byteCells (a ++ L s)) w := by
 rw [byteCells_app, ← strCells_B]; exact h
theorem byteCells_len (a : Bs) : (Lib.byteCells a).length = a.length := by simp [Lib.byteCells]
theorem flat_len8 {α β : Type} (f : α → List β) (c : Nat) : ∀ (l : List α), (∀ x ∈ l, (f x).length ≤ c) → (l.flatMap f).length ≤ l.length * c
  | [], _ => by simp
  | x :: l, h => by
    have := flat_len8 f c l (fun y hy => h y (List.mem_cons_of_mem _ hy))
    have h0 := h x List.mem_cons_self
    simp only [List.flatMap_cons, List.length_append, List.length_cons]
    rw [Nat.add_mul]; omega
end Go.Proofs.YtoopoglkeeoamaaGreatDoor
/- name: value, trimmed, component. -/
namespace Go.Proofs.YtoopoglkeeoamaaGreatDoor
open Go.RowKit Go.Sort
open Idn (L B Bs drop_L take_L size_L)
def valR (l : Bs) : Bs × Bool := match Idn.val l with | none => ([], false) | some v => (v, true)
theorem valR_none {l : Bs} (h : Idn.val l = none) : valR l = ([], false) := by rw [valR, h]
theorem valR_some {l v : Bs} (h : Idn.val l = some v) : valR l = (v, true) := by rw [valR, h]
theorem val_len : ∀ l v, Idn.val l = some v → v.length ≤ l.length := by
  intro l
  induction l using Idn.val.induct with
  | case1 => intro v h; simp [Idn.val] at h; subst h; simp
  | case2 x hx => intro v h; simp [Idn.val, hx] at h
  | case3 x hx => intro v h; simp [Idn.val, hx] at h; subst h; simp
  | case4 x y l hx hy ih =>
    intro v h
    rw [Idn.val, if_pos hx, if_pos hy] at h
    obtain ⟨u, hu, rfl⟩ := Option.map_eq_some_iff.1 h
    have := ih u hu; simp; omega
  | case5 x y l hx hy => intro v h; rw [Idn.val, if_pos hx, if_neg hy] at h; cases h
  | case6 x y l hx hs => intro v h; rw [Idn.val, if_neg hx, if_pos hs] at h; cases h
  | case7 x y l hx hs ih =>
    intro v h
    rw [Idn.val, if_neg hx, if_neg hs] at h
    obtain ⟨u, hu, rfl⟩ := Option.map_eq_some_iff.1 h
    have := ih u hu; simp at this ⊢; omega
theorem val_plain (s : ByteArray) (k : Nat) (hk : k < s.size) (h92 : ¬ s[k] = 92) (hs : Idn.special s[k] = false) : Idn.val ((L s).drop k) = (Idn.val ((L s).drop (k + 1))).map (s[k] :: ·) := by
 by_cases h2 : k + 1 < s.size
 ·rw [drop_two s k h2, Idn.val, if_neg (by simpa using h92), if_neg (by simp [hs]), drop_L s (k + 1) h2]
 ·rw [drop_last s k hk h2, drop_end s (k + 1) h2]
  simp [Idn.val, hs]
theorem val_spec (s : ByteArray) (k : Nat) (hk : k < s.size) (h92 : ¬ s[k] = 92) (hs : Idn.special s[k] = true) : Idn.val ((L s).drop k) = none := by
 by_cases h2 : k + 1 < s.size
 ·rw [drop_two s k h2, Idn.val, if_neg (by simpa using h92), if_pos hs]
 ·rw [drop_last s k hk h2]; simp [Idn.val, hs]
theorem val_esc (s : ByteArray) (k : Nat) (h2 : k + 1 < s.size) (h92 : s[k] = 92) (hs : Idn.special s[k + 1] = true) : Idn.val ((L s).drop k) = (Idn.val ((L s).drop (k + 2))).map (s[k + 1] :: ·) := by
 rw [drop_two s k h2, Idn.val, if_pos (by simpa using h92), if_pos hs]
theorem val_bad (s : ByteArray) (k : Nat) (h2 : k + 1 < s.size) (h92 : s[k] = 92) (hs : Idn.special s[k + 1] = false) : Idn.val ((L s).drop k) = none := by
 rw [drop_two s k h2, Idn.val, if_pos (by simpa using h92), if_neg (by simp [hs])]
theorem val_end (s : ByteArray) (k : Nat) (hk : k < s.size) (h2 : ¬ k + 1 < s.size) (h92 : s[k] = 92) : Idn.val ((L s).drop k) = none := by
 rw [drop_last s k hk h2, h92]; rfl
theorem map_app {a : Bs} {c : UInt8} {o : Option Bs} : (o.map (c :: ·)).map (a ++ ·) = o.map ((a ++ [c]) ++ ·) := by
 cases o <;> simp
theorem bytes_one (a : Bs) (c : UInt8) : Lib.byteCells (a ++ [c]) = Lib.byteCells a ++ [bc c] := by rw [byteCells_app]; rfl
theorem nm_value_any (s : ByteArray) (w : World) (hs : s.size ≤ 1000000000) :
  Calls Tryz.prog 202 #[.string s] w fun e w' => e = .returned (.tuple #[.string (B (valR (L s)).1), .bool (valR (L s)).2]) ∧ Below w.heap.size w w' := by
 have hB0 := Bld.new w
 generalize hr : valR (L s) = r
 have HR := Lib.hid hr
 clear hr
 go_enter Tryz.func202, Tryz.ntmps202
 go_wp2
 go_loopw [5] (fun i wr => ∃ (k : Nat) (acc : Bs), k ≤ s.size ∧ i = .int .i64 k ∧ Below w.heap.size w wr ∧ Bld w.heap.size w.heap.size (Lib.byteCells acc) wr ∧ Hid (Idn.val (L s) = (Idn.val ((L s).drop k)).map (acc ++ ·)) ∧ acc.length ≤ k) (fun i _ => s.size - (intOf i).toNat)
 case atStart => exact ⟨0, [], Nat.zero_le _, rfl, (Below.refl _ _).alloc (Nat.le_refl _) _, hB0, by show _ = _; simp, Nat.le_refl _⟩
 case round =>
  obtain ⟨k, acc, hk, rfl, hb, hB, hinv, hal⟩ := hrel
  clear hB0
  have hWB := fun c => writeByte_any w.heap.size w.heap.size (Lib.byteCells acc) c wr hB (by rw [byteCells_len]; omega) hb.size
  by_cases hlt : k < s.size
  ·by_cases h92 : s[k] = 92
   ·have e2 : ((s[k].toNat : Int) == 92) = true := by rw [h92]; rfl
    by_cases h2 : k + 1 < s.size
    ·have hne : (((k : Int) + 1) == (s.size : Int)) = false := by rw [beq_eq_false_iff_ne]; omega
     have hSp := special_any s[k + 1] wr
     cases hsp : Idn.special s[k + 1]
     ·have hvb := val_bad s k h2 h92 hsp
      rw [hsp] at hSp
      have HF : Hid (r = ([], false)) := by show _ = _; rw [← HR.out]; exact valR_none (by rw [hinv.out, hvb]; rfl)
      clear hvb hinv hsp h92
      go_wp2_with (go_at_call 149; refine hSp.mono ?_; rintro e w1 ⟨rfl, rfl⟩)
      go_ret2
      exact ⟨by rw [HF.out]; rfl, hb⟩
     ·have hvb := val_esc s k h2 h92 hsp
      rw [hsp] at hSp
      have HF : Hid (Idn.val (L s) = (Idn.val ((L s).drop (k + 2))).map ((acc ++ [s[k + 1]]) ++ ·)) := by show _ = _; rw [hinv.out, hvb, map_app]
      have hW1 := hWB s[k + 1]
      clear hvb hinv hsp h92 hWB hB
      go_wp2_with (first | (go_at_call 149; refine hSp.mono ?_; rintro e w1 ⟨rfl, rfl⟩) | (go_at_call 123; refine hW1.mono ?_; rintro e w1 ⟨rfl, hB1, hb1, _⟩))
      go_roundw
      case rel => exact ⟨k + 2, acc ++ [s[k + 1]], by omega, by go_num, hb.trans hb1, by rw [bytes_one]; exact hB1, HF, by simp; omega⟩
      case measure => simp [intOf]; omega
    ·have hne : (((k : Int) + 1) == (s.size : Int)) = true := by rw [beq_iff_eq]; omega
     have hvb := val_end s k hlt h2 h92
     have HF : Hid (r = ([], false)) := by show _ = _; rw [← HR.out]; exact valR_none (by rw [hinv.out, hvb]; rfl)
     clear hvb hinv h92
     go_wp2
     go_ret2
     exact ⟨by rw [HF.out]; rfl, hb⟩
   ·have e2 : ((s[k].toNat : Int) == 92) = false := byte_not (d := 92) h92
    have hSp := special_any s[k] wr
    cases hsp : Idn.special s[k]
    ·have hvb := val_plain s k hlt h92 hsp
     rw [hsp] at hSp
     have HF : Hid (Idn.val (L s) = (Idn.val ((L s).drop (k + 1))).map ((acc ++ [s[k]]) ++ ·)) := by show _ = _; rw [hinv.out, hvb, map_app]
     have hW1 := hWB s[k]
     clear hvb hinv hsp h92 hWB hB
     go_wp2_with (first | (go_at_call 149; refine hSp.mono ?_; rintro e w1 ⟨rfl, rfl⟩) | (go_at_call 123; refine hW1.mono ?_; rintro e w1 ⟨rfl, hB1, hb1, _⟩))
     go_roundw
     case rel => exact ⟨k + 1, acc ++ [s[k]], by omega, by go_num, hb.trans hb1, by rw [bytes_one]; exact hB1, HF, by simp; omega⟩
     case measure => simp [intOf]; omega
    ·have hvb := val_spec s k hlt h92 hsp
     rw [hsp] at hSp
     have HF : Hid (r = ([], false)) := by show _ = _; rw [← HR.out]; exact valR_none (by rw [hinv.out, hvb]; rfl)
     clear hvb hinv hsp h92
     go_wp2_with (go_at_call 149; refine hSp.mono ?_; rintro e w1 ⟨rfl, rfl⟩)
     go_ret2
     exact ⟨by rw [HF.out]; rfl, hb⟩
  ·have hStr := Tryz.Builder_String_any_k w.heap.size w.heap.size acc wr hB hb.size
   have HF : Hid (r = (acc, true)) := by show _ = _; rw [← HR.out]; exact valR_some (by rw [hinv.out, drop_end s k hlt]; simp [Idn.val])
   clear hWB hinv
   go_wp2_with fail
   refine hStr.mono ?_
   rintro e w4 ⟨rfl, _, hb4, _⟩
   go_wp2
   go_ret2
   exact ⟨by rw [HF.out]; rfl, hb.trans hb4⟩
theorem nm_trimmed_any (s : ByteArray) (w : World) (hs : s.size ≤ 1000000000) :
  Calls Tryz.prog 203 #[.string s] w fun e w' => e = .returned (.string (B (Idn.trim (L s)))) ∧ Below w.heap.size w w' := by
 have h := fun W => trim_any s W (by omega)
 go_enter Tryz.func203, Tryz.ntmps203
 go_wp2_with fail
 refine (h _).mono ?_
 rintro e w1 ⟨rfl, hb1⟩
 go_wp2
 go_ret
 exact ⟨rfl, hb1⟩
def prV (p : Bs × Bs) : Value := .agg #[.string (B p.1), .string (B p.2)]
theorem component_any (s : ByteArray) (w : World) (hs : s.size ≤ 1000000000) :
    Calls Tryz.prog 146 #[.string s] w fun e w' => e = .returned (.tuple #[prV (Idn.component (L s)).1, .int .i64 (Idn.component (L s)).2]) ∧ Below w.heap.size w w' := by
  generalize hr : Idn.component (L s) = r
  have HR := Lib.hid hr
  clear hr
  have hI := fun W => index_any s 61 W (by omega)
  cases hx : Idn.idx 61 (L s) with
  | none =>
    rw [idxI_none hx] at hI
    have HF : Hid (r = (([], []), 4)) := by show _ = _; rw [← HR.out, Idn.component, hx]
    clear hx
    go_enter Tryz.func146, Tryz.ntmps146
    go_wp2_with fail
    with_reducible refine gen1 (R := fun W => Calls Tryz.prog 201 _ W _) ?_
    intro W hbW hszW hc1 hf1
    have r0 := hc1 0 _ rfl
    have r1 := hc1 1 _ rfl
    have f0 := hf1 0
    have f1 := hf1 1
    clear hc1 hf1
    refine (hI W).mono ?_
    rintro e w1 ⟨rfl, rfl⟩
    clear hI
    go_wp2
    exact bodyPost_ret (v := .tuple #[.agg #[.string ⟨#[]⟩, .string ⟨#[]⟩], .int .i64 4]) (by simp [results, Tryz.results146, go_sem, r0, r1, f0, f1]) rfl ⟨by rw [HF.out]; rfl, (hbW.setCell (by simp) _).setCell (by simp) _⟩
  | some i =>
    rw [idxI_some hx] at hI
    have hi := Idn.idx_lt _ _ _ hx
    rw [← size_L] at hi
    have hiI : ¬ ((i : Int) < 0) := by omega
    have HF : Hid (r = if (valR (Idn.trim ((L s).drop (i + 1)))).2 = false then (([], []), 4) else if Idn.name (Idn.trim ((L s).take i)) = false then (([], []), 5) else if Idn.clean (valR (Idn.trim ((L s).drop (i + 1)))).1 = false then (([], []), 8) else ((Idn.trim ((L s).take i), (valR (Idn.trim ((L s).drop (i + 1)))).1), 0)) := by
      show _ = _
      rw [← HR.out, Idn.component, hx]
      dsimp only
      unfold valR
      cases Idn.val (Idn.trim ((L s).drop (i + 1))) with
      | none => rfl
      | some v => simp
    clear hx HR
    have hT1 := fun W => nm_trimmed_any (s.extract (i + 1) s.size) W (by simp; omega)
    rw [extract_drop, Idn.L_B] at hT1
    have hl1 := Idn.length_trim ((L s).drop (i + 1))
    have hl2 := Idn.length_trim ((L s).take i)
    rw [List.length_drop] at hl1
    rw [List.length_take] at hl2
    rw [size_L] at hs
    have hV := fun W => nm_value_any (B (Idn.trim ((L s).drop (i + 1)))) W (by rw [Idn.size_B]; omega)
    rw [Idn.L_B] at hV
    have hT2 := fun W => trim_any (s.extract 0 i) W (by simp; rw [size_L]; omega)
    rw [extract_take, Idn.L_B] at hT2
    have hvl : (valR (Idn.trim ((L s).drop (i + 1)))).1.length ≤ 1000000000 := by
      unfold valR
      split
      · simp
      · rename_i v hv
        have := val_len _ _ hv
        dsimp only; omega
    rw [← size_L] at hs
    have hN := fun W => name_any (B (Idn.trim ((L s).take i))) W (by rw [Idn.size_B]; omega)
    rw [Idn.L_B] at hN
    generalize valR (Idn.trim ((L s).drop (i + 1))) = vr at *
    obtain ⟨v, ok⟩ := vr
    dsimp only at hV HF hvl
    have hCl := fun W => clean_any (B v) W (by rw [Idn.size_B]; omega)
    rw [Idn.L_B] at hCl
    generalize Idn.trim ((L s).take i) = ky at *
    generalize Idn.trim ((L s).drop (i + 1)) = tv at *
    generalize Idn.name ky = nb at *
    generalize Idn.clean v = cb at *
    clear hl1 hl2 hvl
    go_enter Tryz.func146, Tryz.ntmps146
    go_wp2_with fail
    with_reducible refine gen1 (R := fun W => Calls Tryz.prog 201 _ W _) ?_
    intro W hbW hszW hc1 hf1
    have r0 := hc1 0 _ rfl
    have r1 := hc1 1 _ rfl
    have f0 := hf1 0
    have f1 := hf1 1
    have hlt : w.heap.size < W.heap.size := by omega
    clear hc1 hf1
    refine (hI W).mono ?_
    rintro e w1 ⟨rfl, rfl⟩
    clear hI
    go_wp2_with fail
    rw [extract_drop]
    refine (hT1 _).mono ?_
    rintro e w1 ⟨rfl, hb1⟩
    clear hT1
    go_wp2_with fail
    refine (hV _).mono ?_
    rintro e w2 ⟨rfl, hb2⟩
    clear hV
    go_wp2_with fail
    rw [extract_take]
    refine (hT2 _).mono ?_
    rintro e w3 ⟨rfl, hb3⟩
    clear hT2
    have hb13 := hb1.trans ((hb2.trans (hb3.mono hb2.size)).mono hb1.size)
    have hbw3 := hbW.trans (hb13.mono hbW.size)
    replace r0 := cell_later hb13 r0
    replace r1 := cell_later hb13 r1
    replace f0 := frozen_later hb13 f0 hlt
    replace f1 := frozen_later hb13 f1 hlt
    have hlt3 : w.heap.size < w3.heap.size := Nat.lt_of_lt_of_le hlt hb13.size
    go_upto_block 0 with fail
    with_reducible refine gen1 (R := fun W => Code.wp Tryz.prog _ _ _ W) ?_
    intro W4 hbW4 hszW4 hc4 _
    have p0 := hc4 0 _ rfl
    have p1 := hc4 1 _ rfl
    clear hc4
    have hbw4 := hbw3.trans (hbW4.mono hbw3.size)
    replace r0 := cell_later hbW4 r0
    replace r1 := cell_later hbW4 r1
    replace f0 := frozen_later hbW4 f0 hlt3
    replace f1 := frozen_later hbW4 f1 hlt3
    have hlt4 : w.heap.size < W4.heap.size := by omega
    cases ok
    · have HG : Hid (r = (([], []), 4)) := by show _ = _; rw [HF.out, if_pos rfl]
      clear HF
      go_wp2
      exact bodyPost_ret (v := .tuple #[.agg #[.string ⟨#[]⟩, .string ⟨#[]⟩], .int .i64 4]) (by simp [results, Tryz.results146, go_sem, r0, r1, f0, f1]) rfl ⟨by rw [HG.out]; rfl, (hbw4.setCell (by simp) _).setCell (by simp) _⟩
    · go_wp2_with fail
      refine (hN W4).mono ?_
      rintro e w5 ⟨rfl, rfl⟩
      clear hN
      cases nb
      · have HG : Hid (r = (([], []), 5)) := by show _ = _; rw [HF.out, if_neg (by simp), if_pos rfl]
        clear HF
        go_wp2
        exact bodyPost_ret (v := .tuple #[.agg #[.string ⟨#[]⟩, .string ⟨#[]⟩], .int .i64 5]) (by simp [results, Tryz.results146, go_sem, r0, r1, f0, f1]) rfl ⟨by rw [HG.out]; rfl, (hbw4.setCell (by simp) _).setCell (by simp) _⟩
      · go_wp2_with fail
        refine (hCl _).mono ?_
        rintro e w6 ⟨rfl, hb6⟩
        clear hCl
        have hbw6 := hbw4.trans (hb6.mono hbw4.size)
        replace r0 := cell_later hb6 r0
        replace r1 := cell_later hb6 r1
        replace f0 := frozen_later hb6 f0 hlt4
        replace f1 := frozen_later hb6 f1 hlt4
        replace p0 := cell_later hb6 p0
        replace p1 := cell_later hb6 p1
        cases cb
        · have HG : Hid (r = (([], []), 8)) := by show _ = _; rw [HF.out, if_neg (by simp), if_neg (by simp), if_pos rfl]
          clear HF
          go_wp2
          exact bodyPost_ret (v := .tuple #[.agg #[.string ⟨#[]⟩, .string ⟨#[]⟩], .int .i64 8]) (by simp [results, Tryz.results146, go_sem, r0, r1, f0, f1]) rfl ⟨by rw [HG.out]; rfl, (hbw6.setCell (by simp) _).setCell (by simp) _⟩
        · have HG : Hid (r = ((ky, v), 0)) := by show _ = _; rw [HF.out, if_neg (by simp), if_neg (by simp), if_neg (by simp)]
          clear HF
          go_wp2
          exact bodyPost_ret (v := .tuple #[.agg #[.string (B ky), .string (B v)], .int .i64 0]) (by simp [results, Tryz.results146, go_sem, r0, r1, f0, f1]) rfl ⟨by rw [HG.out]; rfl, (hbw6.setCell (by simp) _).setCell (by simp) _⟩
end Go.Proofs.YtoopoglkeeoamaaGreatDoor
/- name: Parse. -/
namespace Go.Proofs.YtoopoglkeeoamaaGreatDoor
open Go.RowKit Go.Sort
open Idn (L B Bs drop_L take_L size_L)
def prRow (l : List Idn.Pr) : List Value := l.flatMap fun p => [sv p.1, sv p.2]
theorem prRow_at (l : List Idn.Pr) : ∀ (i : Nat) (p : Idn.Pr), l[i]? = some p → (prRow l)[i * 2]? = some (sv p.1) ∧ (prRow l)[i * 2 + 1]? = some (sv p.2) := by
  induction l with
  | nil => intro i p h; simp at h
  | cons q l ih =>
    intro i p h
    cases i with
    | zero => simp at h; subst h; exact ⟨rfl, rfl⟩
    | succ i =>
      have h1 := ih i p (by simpa using h)
      have e : prRow (q :: l) = sv q.1 :: sv q.2 :: prRow l := rfl
      rw [e]
      refine ⟨?_, ?_⟩
      · rw [show (i + 1) * 2 = i * 2 + 2 by omega]; simpa using h1.1
      · rw [show (i + 1) * 2 + 1 = (i * 2 + 1) + 2 by omega]; simpa using h1.2
theorem PairsV.of_own {w : World} {base : Nat} {v : Value} {l : List Idn.Pr} {e : TypeId} (h : w.ownsRow base e 2 v l.length (prRow l)) : PairsV w w.heap.size v l :=
 SlV.own h fun i x hx => ⟨[sv x.1, sv x.2], rfl, rfl, fun j u hu => by
  have h1 := prRow_at l i x hx
  match j, hu with
  | 0, hu => simp at hu; subst hu; exact h1.1
  | 1, hu => simp at hu; subst hu; exact h1.2⟩
def RetP (w : World) (r : List Idn.Pr × Int) (e : Ending) (w' : World) : Prop :=
 ∃ v, e = .returned (.tuple #[v, .int .i64 r.2]) ∧ w'.ownsRow w.heap.size 141 2 v r.1.length (prRow r.1) ∧ Below w.heap.size w w'
theorem info_pair : (Tryz.prog.info? 141).map (fun i => (i.zero, i.size, i.bytes)) = some (some (.agg #[.string ⟨#[]⟩, .string ⟨#[]⟩]), 2, 32) := by kernel_rfl
theorem pcs_len (l : Bs) : (Idn.pcs l).length ≤ l.length + 1 ∧ ∀ x ∈ Idn.pcs l, x.length ≤ l.length := by
  have hoh : ∀ (p : Bs) (m : List Bs) (k : Nat), m ≠ [] → (∀ x ∈ m, x.length ≤ k) → (Idn.onHead p m).length ≤ m.length ∧ ∀ x ∈ Idn.onHead p m, x.length ≤ k + p.length := by
    intro p m k hm h
    cases m with
    | nil => exact absurd rfl hm
    | cons q m =>
      refine ⟨by simp [Idn.onHead], fun x hx => ?_⟩
      rcases List.mem_cons.1 hx with rfl | hx
      · have := h q List.mem_cons_self; simp; omega
      · have := h x (List.mem_cons_of_mem _ hx); omega
  have hne : ∀ l, Idn.pcs l ≠ [] := by
    intro l
    rw [Idn.pcs_idx]
    split <;> simp
  induction l using Idn.pcs.induct with
  | case1 => simp [Idn.pcs]
  | case2 x hx => simp [Idn.pcs, hx]
  | case3 x hx => simp [Idn.pcs, hx]
  | case4 x y l hx ih =>
    rw [Idn.pcs, if_pos hx]
    refine ⟨by have := ih.1; simp at this ⊢; omega, fun z hz => ?_⟩
    rcases List.mem_cons.1 hz with rfl | hz
    · simp
    · have := ih.2 z hz; simp at this ⊢; omega
  | case5 x y l hx h92 ih =>
    rw [Idn.pcs, if_neg hx, if_pos h92]
    obtain ⟨h1, h2⟩ := hoh [x, y] (Idn.pcs l) l.length (hne l) ih.2
    exact ⟨by have := ih.1; simp; omega, fun z hz => by have := h2 z hz; simp at this ⊢; omega⟩
  | case6 x y l hx h92 ih =>
    rw [Idn.pcs, if_neg hx, if_neg h92]
    obtain ⟨h1, h2⟩ := hoh [x] (Idn.pcs (y :: l)) (y :: l).length (hne _) ih.2
    exact ⟨by have := ih.1; simp at this ⊢; omega, fun z hz => by have := h2 z hz; simp at this ⊢; omega⟩
def compsK (ps : List Idn.Pr) (r : List Idn.Pr × Int) : List Idn.Pr × Int := if r.2 != 0 then ([], r.2) else (ps ++ r.1, 0)
theorem comps_cons (x : Bs) (m : List Bs) (h : (Idn.component x).2 = 0) : Idn.comps (x :: m) = compsK [(Idn.component x).1] (Idn.comps m) := by
 rw [Idn.comps, if_neg (by simp [h]), compsK]; rfl
theorem compsK_app (ps : List Idn.Pr) (c : Idn.Pr) (r : List Idn.Pr × Int) : compsK ps (compsK [c] r) = compsK (ps ++ [c]) r := by
 unfold compsK
 by_cases h : r.2 = 0
 ·simp [h]
 ·simp [h]
theorem comps_err (x : Bs) (m : List Bs) (ps : List Idn.Pr) (h : (Idn.component x).2 ≠ 0) : compsK ps (Idn.comps (x :: m)) = ([], (Idn.component x).2) := by
 rw [Idn.comps, if_pos (by simpa using h), compsK]
 simp [h]
theorem comps_zero (r : List Bs) : compsK [] (Idn.comps r) = Idn.comps r := by
  unfold compsK
  cases r with
  | nil => rfl
  | cons x m =>
    by_cases h : (Idn.comps (x :: m)).2 = 0
    · simp [h]; rw [← h]
    · rw [if_pos (by simpa using h)]
      by_cases h2 : (Idn.component x).2 = 0
      · rw [comps_cons x m h2] at h ⊢
        unfold compsK at h ⊢
        by_cases h3 : (Idn.comps m).2 = 0
        · simp [h3] at h
        · simp [h3]
      · rw [Idn.comps, if_pos (by simpa using h2)]
theorem nm_parse_any (s : ByteArray) (w : World) (hs : s.size ≤ 1000000000) :
  Calls Tryz.prog 91 #[.string s] w (RetP w (Idn.parse (L s))) := by
 generalize hr : Idn.parse (L s) = r
 have HR := Lib.hid hr
 clear hr
 by_cases h0 : L s = []
 ·have e0 : s.toList = [] := by rw [toList_L]; exact h0
  have HF : Hid (r = ([], 0)) := by show _ = _; rw [← HR.out, Idn.parse, h0]; rfl
  have he : (s.toList == ([] : List UInt8)) = true := by rw [e0]; rfl
  clear h0
  go_enter Tryz.func91, Tryz.ntmps91
  go_wp2
  go_ret2
  exact ⟨.slice none 0 0, by rw [HF.out]; rfl, by rw [HF.out]; exact World.ownsRow_nil _ _ _ _, Below.refl _ _⟩
 ·have e0 : ¬ s.toList = [] := by rw [toList_L]; exact h0
  have he : (s.toList == ([] : List UInt8)) = false := by rw [beq_eq_false_iff_ne]; exact e0
  have HF : Hid (r = if (Idn.comps (Idn.pcs (L s))).2 != 0 then ([], (Idn.comps (Idn.pcs (L s))).2) else if (Idn.comps (Idn.pcs (L s))).1.length > 8 then ([], 3) else ((Idn.comps (Idn.pcs (L s))).1, 0)) := by
   show _ = _; rw [← HR.out, Idn.parse, if_neg (by simpa using h0)]
  have hP := fun W => pieces_any s W (by omega)
  obtain ⟨hl1, hl2⟩ := pcs_len (L s)
  rw [← size_L] at hl1 hl2
  generalize Idn.pcs (L s) = l at *
  clear h0 e0 HR
  go_enter Tryz.func91, Tryz.ntmps91
  go_wp2_with fail
  refine (hP _).mono ?_
  rintro e w1 ⟨v1, rfl, hown1, hb1⟩
  have hS := StrsV.of_own hown1
  obtain ⟨A, c, rfl, hc⟩ := SlV.shape hS
  clear hP hown1
  go_wp2
  go_loopw [4, 14] (fun u x wr => ∃ (k : Nat) (ps : List Idn.Pr), k ≤ l.length ∧ x = .int .i64 k ∧ wr.ownsRow w1.heap.size 141 2 u ps.length (prRow ps) ∧ Below w1.heap.size w1 wr ∧ ps.length = k ∧ Hid (Idn.comps l = compsK ps (Idn.comps (l.drop k)))) (fun _ x _ => l.length - (intOf x).toNat)
  case atStart => exact ⟨0, [], Nat.zero_le _, rfl, World.ownsRow_nil _ _ _ _, Below.refl _ _, rfl, by show _ = _; rw [comps_zero]; rfl⟩
  case round =>
   obtain ⟨k, ps, hk, rfl, hown, hb, hpk, hinv⟩ := hrel
   have HPK := Lib.hid hpk
   clear hpk
   by_cases hlt : k < l.length
   ·obtain ⟨b, off, rfl, hbl, c0⟩ := StrsV.cell (SlV.keep hS hb) hlt
    have hxl := hl2 l[k] (List.getElem_mem hlt)
    have hC := component_any (B l[k]) wr (by rw [Idn.size_B]; omega)
    rw [Idn.L_B] at hC
    have hd := List.drop_eq_getElem_cons hlt
    have hltI : (k : Int) < (l.length : Int) := by omega
    by_cases h0 : (Idn.component l[k]).2 = 0
    ·have HG : Hid (Idn.comps l = compsK (ps ++ [(Idn.component l[k]).1]) (Idn.comps (l.drop (k + 1)))) := by
      show _ = _; rw [hinv.out, hd, comps_cons _ _ h0, compsK_app]
     rw [h0] at hC
     generalize (Idn.component l[k]).1 = pr at *
     clear hd h0 hinv
     unfold prV at hC
     go_wp2_with fail
     refine hC.mono ?_
     rintro e w2 ⟨rfl, hb2⟩
     have hown2 := own_below hown hb2
     have hbw2 := hb.trans (hb2.mono hb.size)
     have ba := (Below.refl w2.heap.size w2).alloc (Nat.le_refl _) (.cells #[.string (B pr.1), .string (B pr.2)] 141)
     have hown3 := own_below hown2 ba
     have hbw3 := hbw2.trans (ba.mono hbw2.size)
     have hs3 := hbw3.size
     have hsza : (w2.alloc (.cells #[.string (B pr.1), .string (B pr.2)] 141)).heap.size = w2.heap.size + 1 := by simp
     have Hsza := Lib.hid hsza
     have hpl : ps.length ≤ 1000000001 := by have := HPK.out; omega
     clear hC hown hown2 ba c0 hsza
     go_wp2_with (at_builtin; refine wpList_push (w2.alloc (.cells #[.string (B pr.1), .string (B pr.2)] 141)) rfl _ _ 101 rfl w1.heap.size 141 (.agg #[.string ⟨#[]⟩, .string ⟨#[]⟩]) 2 32 Tryz.underlying101 info_pair rfl (by decide) _ _ _ hown3 rfl [.string (B pr.1), .string (B pr.2)] (by rw [Hsza.out]; rfl) rfl (by intro u hu; simp at hu; rcases hu with rfl | rfl <;> rfl) (by omega) hs3 ?_ rfl)
     intro v' w4 hown' _ _ hb' _
     clear hown3
     go_wp2
     go_roundw
     case rel =>
      refine ⟨k + 1, ps ++ [pr], by omega, by go_num, ?_, hbw3.trans hb', by simp [HPK.out], HG⟩
      have e : prRow (ps ++ [pr]) = prRow ps ++ [.string (B pr.1), .string (B pr.2)] := by unfold prRow; rw [List.flatMap_append]; rfl
      rw [e, List.length_append]
      exact hown'
     case measure => simp [intOf]; omega
    ·have HG : Hid (r = ([], (Idn.component l[k]).2)) := by
      show _ = _; rw [HF.out, hinv.out, hd, comps_err _ _ _ h0]; simp [h0]
     generalize Idn.component l[k] = cr at *
     have h1 : (cr.2 != 0) = true := by simpa using h0
     have h2 : (cr.2 == 0) = false := by simpa using h0
     clear hd hinv h0
     unfold prV at hC
     go_wp2_with fail
     refine hC.mono ?_
     rintro e w2 ⟨rfl, hb2⟩
     have hbw2 := hb1.trans ((hb.trans (hb2.mono hb.size)).mono hb1.size)
     clear hC hown c0
     go_wp2
     go_ret2
     exact ⟨.slice none 0 0, by rw [HG.out]; rfl, by rw [HG.out]; exact World.ownsRow_nil _ _ _ _, hbw2.alloc hbw2.size _⟩
   ·have hkl : k = l.length := by omega
    have hltI : ¬ (k : Int) < (l.length : Int) := by omega
    have HG : Hid (r = if 8 < ps.length then ([], 3) else (ps, 0)) := by
     show _ = _
     rw [HF.out, hinv.out, List.drop_eq_nil_of_le (by omega)]
     simp [Idn.comps, compsK]
    obtain ⟨A3, c3, hu⟩ := own_shape hown
    subst hu
    clear hinv
    by_cases h8 : 8 < ps.length
    ·have h8' : (8 : Int) < (ps.length : Int) := by omega
     have HH : Hid (r = ([], 3)) := by show _ = _; rw [HG.out, if_pos h8]
     clear h8
     go_wp2
     go_ret2
     exact ⟨.slice none 0 0, by rw [HH.out]; rfl, by rw [HH.out]; exact World.ownsRow_nil _ _ _ _, hb1.trans (hb.mono hb1.size)⟩
    ·have h8' : (ps.length : Int) ≤ (8 : Int) := by omega
     have HH : Hid (r = (ps, 0)) := by show _ = _; rw [HG.out, if_neg h8]
     clear h8
     go_wp2
     go_ret2
     exact ⟨.slice A3 ps.length c3, by rw [HH.out]; rfl, by rw [HH.out]; exact own_base hown hb1.size, hb1.trans (hb.mono hb1.size)⟩
end Go.Proofs.YtoopoglkeeoamaaGreatDoor
/- identityref07: lower. -/
namespace Go.Proofs.YtoopoglkeeoamaaGreatDoor
open Go.RowKit Go.Sort
open Idn (L B Bs drop_L take_L size_L)
theorem SlV.cutFrom {α : Type} {E : α → List Value → Prop} {w : World} {hi size n c : Nat} {l : List α} {A : Option Addr} (h : SlV E w hi size (.slice A n c) l) (k : Nat) (hk : k ≤ l.length) :
  SlV E w hi size (.slice (if c = k then A else A.map (·.add (k * size))) (n - k) (c - k)) (l.drop k) := by
 obtain ⟨A', c', hv, hc, h⟩ := h
 injection hv with hA hn hcc
 subst hA hcc hn
 refine ⟨_, _, by rw [List.length_drop], by rw [List.length_drop]; omega, fun hp => ?_⟩
 rw [List.length_drop] at hp
 obtain ⟨b, off, hA, hb, hx⟩ := h (by omega)
 subst hA
 refine ⟨b, off + k * size, ?_, hb, fun i x hix => ?_⟩
 ·rw [if_neg (by omega)]
  simp only [Option.map_some, Addr.add]
  split
  ·rename_i e; rw [e]; rfl
  ·rfl
 ·rw [List.getElem?_drop] at hix
  obtain ⟨cs, h1, h2, h3⟩ := hx (k + i) x hix
  refine ⟨cs, h1, h2, fun j u hj => ?_⟩
  have := h3 j u hj
  rw [show off + k * size + (i * size + j) = off + ((k + i) * size + j) by rw [Nat.add_mul]; omega]
  exact this
theorem run_size_str (W : World) : (sizeOf (Tryz.prog.elem 45)).run Tryz.prog W = .ok 1 W := by
 obtain ⟨i, hi, _, h1, _⟩ := info_parts info_str
 have e : Tryz.prog.elem 45 = 9 := by kernel_rfl
 rw [e]
 simp [sizeOf, typeInfo, hi, h1]
theorem take_run {w : World} {hi n c : Nat} {l : List Bs} {A : Option Addr} (h : StrsV w hi (.slice A n c) l) {j : Nat} (hj : j ≤ l.length) :
  ∃ A' c', (∀ W : World, (Instr.slice 45 (.slice A n c) none (some (.int .i64 (j : Int))) none).run Tryz.prog W = .ok (.slice A' j c') W) ∧ StrsV w hi (.slice A' j c') (l.take j) := by
 obtain ⟨A0, c0, hv, hc⟩ := SlV.shape h
 injection hv with _ hn hcc
 subst hcc
 refine ⟨A, c, fun W => ?_, SlV.take h j hj⟩
 rw [run_slice_h W 45 A n c (by kernel_rfl) .i64 (j : Int) (by omega) (by omega), run_size_str]
 simp only [Result.andThen_ok, sliced, Int.toNat_natCast, Nat.sub_zero]
 congr 2
 split
 ·rfl
 ·cases A with
  | none => rfl
  | some a => simp [Addr.add]
theorem drop_run {w : World} {hi n c : Nat} {l : List Bs} {A : Option Addr} (h : StrsV w hi (.slice A n c) l) {j : Nat} (hj : j ≤ l.length) :
  ∃ A' c', (∀ W : World, (Instr.slice 45 (.slice A n c) (some (.int .i64 (j : Int))) none none).run Tryz.prog W = .ok (.slice A' (n - j) c') W) ∧ StrsV w hi (.slice A' (n - j) c') (l.drop j) := by
 have hn := SlV.len h
 refine ⟨_, _, fun W => ?_, SlV.cutFrom h j hj⟩
 rw [run_slice_l W 45 A n c (by kernel_rfl) .i64 (j : Int) (by omega) (by omega), run_size_str]
 simp only [Result.andThen_ok, sliced, Int.toNat_natCast]
theorem own_cast {w : World} {base : Nat} {e : TypeId} {size : Nat} {v : Value} {n m : Nat} {xs ys : List Value} (h : w.ownsRow base e size v n xs) (hn : m = n) (hx : ys = xs) : w.ownsRow base e size v m ys := by subst hn hx; exact h
def insK (l : List Bs) (acc : List Bs) : List Bs := l.foldl (fun a n => Idn.insS n a) acc
theorem insK_step (l : List Bs) (k : Nat) (hk : k < l.length) (acc : List Bs) : insK ((l.drop k).map Idn.lower) acc = insK ((l.drop (k + 1)).map Idn.lower) (Idn.insS (Idn.lower l[k]) acc) := by
 rw [List.drop_eq_getElem_cons hk]; rfl
theorem merged_ins (l : List Bs) : merged l = insK (l.map Idn.lower) [] := Idn.law (l.map Idn.lower)
theorem insS_len (n : Bs) : ∀ l, (Idn.insS n l).length ≤ l.length + 1
  | [] => by simp [Idn.insS]
  | y :: l => by
    have := insS_len n l
    unfold Idn.insS
    split
    · simp; omega
    · split <;> simp
theorem r_low_any (v : Value) (l : List Bs) (w : World) (hv : StrsV w w.heap.size v l) (hs : l.length ≤ 1000000) (hx : ∀ x ∈ l, x.length ≤ 1000000000) :
  Calls Tryz.prog 176 #[v] w (RetS w (merged l)) := by
 obtain ⟨A, c, rfl, hc⟩ := hv.shape
 have HR : Hid (merged l = insK (l.map Idn.lower) []) := merged_ins l
 generalize merged l = res at *
 go_enter Tryz.func176, Tryz.ntmps176
 go_wp2
 go_loopw [3, 4] (fun u i wr => ∃ (k : Nat) (acc : List Bs), k ≤ l.length ∧ i = .int .i64 k ∧ wr.ownsRow w.heap.size 9 1 u acc.length (acc.map sv) ∧ Below w.heap.size w wr ∧ Hid (res = insK ((l.drop k).map Idn.lower) acc) ∧ acc.length ≤ k) (fun _ i _ => l.length - (intOf i).toNat)
 case atStart => exact ⟨0, [], Nat.zero_le _, rfl, World.ownsRow_nil _ _ _ _, Below.refl _ _, by show _ = _; rw [HR.out]; simp, Nat.le_refl _⟩
 case round =>
  obtain ⟨k, acc, hk, rfl, hown, hb, hinv, hal⟩ := hrel
  by_cases hlt : k < l.length
  ·obtain ⟨b, off, rfl, hbl, c0⟩ := StrsV.cell (SlV.keep hv hb) hlt
   have hltI : (k : Int) < (l.length : Int) := by omega
   have hsz := hx l[k] (List.getElem_mem hlt)
   have hL := r_lower_any (B l[k]) wr (by rw [Idn.size_B]; omega)
   rw [Idn.L_B] at hL
   have hst := insK_step l k hlt acc
   generalize Idn.lower l[k] = n at *
   have HST : Hid (res = insK ((l.drop (k + 1)).map Idn.lower) (Idn.insS n acc)) := by show _ = _; rw [hinv.out, hst]
   clear hst hinv
   obtain ⟨Au, cu, hu⟩ := own_shape hown
   subst hu
   go_wp2_with fail
   refine hL.mono ?_
   rintro e w1 ⟨rfl, hb1⟩
   have hown1 := own_below hown hb1
   have hbw1 := hb.trans (hb1.mono hb.size)
   have hS := StrsV.of_own hown1
   clear hL hown c0
   go_upto_block 2 with fail
   go_cut [6] (fun t wx => ∃ j : Nat, t = .int .i64 j ∧ j ≤ acc.length ∧ Below w1.heap.size w1 wx ∧ Hid (∀ (i : Nat) (x : Bs), i < j → acc[i]? = some x → x < n) ∧ Hid (∀ x, acc[j]? = some x → ¬ x < n))
   case first =>
    go_wp2_with fail
    go_loopw [6] (fun t wx => ∃ j : Nat, j ≤ acc.length ∧ t = .int .i64 j ∧ Below w1.heap.size w1 wx ∧ Hid (∀ (i : Nat) (x : Bs), i < j → acc[i]? = some x → x < n)) (fun t _ => acc.length - (intOf t).toNat)
    case atStart => exact ⟨0, Nat.zero_le _, rfl, Below.refl _ _, fun i x h => absurd h (by omega)⟩
    case round =>
     obtain ⟨j, hj, rfl, hbj, hbef⟩ := hrel
     by_cases hjl : j < acc.length
     ·obtain ⟨g, o, rfl, hgl, d0⟩ := StrsV.cell (SlV.keep hS hbj) hjl
      have hjI : (j : Int) < (acc.length : Int) := by omega
      have hcmp : Op.bytesLess (B acc[j]).toList (B n).toList = decide (acc[j] < n) := by rw [bytesLess_eq, toList_L, toList_L, Idn.L_B, Idn.L_B]
      by_cases hlt2 : acc[j] < n
      ·have HB : Hid (∀ (i : Nat) (x : Bs), i < j + 1 → acc[i]? = some x → x < n) := by
        intro i x hi hxi
        by_cases e : i = j
        ·subst e
         rw [List.getElem?_eq_getElem hjl] at hxi
         injection hxi with hxi
         exact hxi ▸ hlt2
        ·exact hbef.out i x (by omega) hxi
       rw [decide_eq_true hlt2] at hcmp
       clear hbef hlt2
       go_wp2
       go_roundw
       case rel => exact ⟨j + 1, by omega, by go_num, hbj, HB⟩
       case measure => simp [intOf]; omega
      ·have HA : Hid (∀ x, acc[j]? = some x → ¬ x < n) := by
        intro x hxj
        rw [List.getElem?_eq_getElem hjl] at hxj
        injection hxj with hxj
        exact hxj ▸ hlt2
       rw [decide_eq_false hlt2] at hcmp
       clear hlt2
       go_wp2
       go_meet
       exact ⟨j, rfl, hj, hbj, hbef, HA⟩
     ·have hjI : ¬ (j : Int) < (acc.length : Int) := by omega
      have HA : Hid (∀ x, acc[j]? = some x → ¬ x < n) := by
       intro x hxj
       rw [List.getElem?_eq_none (by omega)] at hxj
       cases hxj
      go_wp2
      go_meet
      exact ⟨j, rfl, hj, hbj, hbef, HA⟩
   case rest =>
    obtain ⟨j, rfl, hj, hbc, hbef, hat⟩ := hcut
    have hownc := own_below hown1 hbc
    have hSc := StrsV.of_own hownc
    have hbwc := hbw1.trans (hbc.mono hbw1.size)
    clear hS hown1 hbw1
    obtain ⟨A1, c1, hT, hT1⟩ := take_run hSc hj
    obtain ⟨A2, c2, hD, hD1⟩ := drop_run hSc hj
    have hwc := hbwc.size
    have htl : (acc.take j).length = j := by rw [List.length_take]; omega
    have hdl : (acc.drop j).length = acc.length - j := List.length_drop
    have hil := insS_len n acc
    have hcase : (∃ h : j < acc.length, acc[j] = n) ∨ (∃ h : j < acc.length, ¬ acc[j] = n) ∨ ¬ j < acc.length := by
     by_cases h : j < acc.length
     ·by_cases e : acc[j] = n
      ·exact .inl ⟨h, e⟩
      ·exact .inr (.inl ⟨h, e⟩)
     ·exact .inr (.inr h)
    rcases hcase with ⟨hjl, e⟩ | hcase
    ·obtain ⟨g, o, hA, hgl, d0⟩ := StrsV.cell hSc hjl
     have hjI : (j : Int) < (acc.length : Int) := by omega
     have heq : ((B acc[j]).toList == (B n).toList) = true := str_is (by rw [Idn.L_B, Idn.L_B, e])
     have hI : Hid (Idn.insS n acc = acc) := Idn.insS_here n acc j hbef.out (by rw [List.getElem?_eq_getElem hjl, e])
     subst hA
     clear e hbef hat hT hD hT1 hD1 htl hdl
     go_wp2
     go_roundw
     case rel => exact ⟨k + 1, acc, by omega, by go_num, hownc, hbwc, by show _ = _; rw [HST.out, hI.out], by omega⟩
     case measure => simp [intOf]; omega
    ·have hI : Hid (Idn.insS n acc = acc.take j ++ n :: acc.drop j) := Idn.insS_at n acc j hj hbef.out (fun x hx => by
      rcases hcase with ⟨hjl, e⟩ | hjl
      ·exact ⟨hat.out x hx, fun ex => e (by rw [List.getElem?_eq_getElem hjl] at hx; injection hx with hx; rw [hx, ex])⟩
      ·rw [List.getElem?_eq_none (by omega)] at hx; cases hx)
     have HTL := Lib.hid htl
     have HDL := Lib.hid hdl
     clear htl hdl
     clear hbef hat
     rcases hcase with ⟨hjl, e⟩ | hjl
     ·obtain ⟨g, o, hA, hgl, d0⟩ := StrsV.cell hSc hjl
      have hjI : (j : Int) < (acc.length : Int) := by omega
      have heq : ((B acc[j]).toList == (B n).toList) = false := str_not (by rw [Idn.L_B, Idn.L_B]; exact e)
      subst hA
      clear e
      go_upto_region 10 with fail
      clear hjI
      go_wp2_with (at_builtin; refine wpList_appendS rfl _ _ 45 rfl wc.heap.size 9 Tryz.underlying45 info_str _ 0 [] (World.ownsRow_nil _ _ _ _) rfl _ (acc.take j) _ hT1 (by first | rfl | simp) (by rw [HTL.out]; omega) (Nat.le_refl _) ?_)
      intro v1 x1 ho1 hx1 _ _
      replace ho1 : x1.ownsRow wc.heap.size 9 1 v1 j ((acc.take j).map sv) := by rw [List.map_take]; exact ho1
      have hD2 := SlV.keep hD1 hx1
      have hs1 := hx1.size
      go_wp2_with (at_builtin; refine wpList_push x1 rfl _ _ 45 rfl wc.heap.size 9 (.string ⟨#[]⟩) 1 16 Tryz.underlying45 info_str rfl (by decide) _ _ _ ho1 rfl [.string (B n)] rfl rfl (by intro u hu; simp at hu; subst hu; rfl) (by omega) hs1 ?_ rfl)
      intro v2 x2 ho2 _ _ hx2 _
      replace ho2 : x2.ownsRow wc.heap.size 9 1 v2 (j + 1) ((acc.take j).map sv ++ [.string (B n)]) := by rw [List.map_take]; exact ho2
      have hD3 := SlV.keep hD2 hx2
      have hx12 := hx1.trans hx2
      have hs2 := hx12.size
      go_wp2_with (at_builtin; refine wpList_appendS rfl _ _ 45 rfl wc.heap.size 9 Tryz.underlying45 info_str _ _ _ ho2 rfl _ (acc.drop j) _ hD3 (by first | rfl | simp) (by rw [HDL.out]; omega) hs2 ?_)
      intro v3 x3 ho3 hx3 _ _
      have hx13 := hx12.trans hx3
      go_wp2
      go_roundw
      case rel =>
       refine ⟨k + 1, Idn.insS n acc, by omega, by go_num, own_base (own_cast ho3 ?_ ?_) hwc, hbwc.trans (hx13.mono hwc), HST, by omega⟩
       ·rw [hI.out, List.length_append, List.length_cons, HTL.out, HDL.out]; omega
       ·rw [hI.out]; simp [sv]
      case measure => simp [intOf]; omega
     ·have hjI : ¬ (j : Int) < (acc.length : Int) := by omega
      go_upto_region 10 with fail
      clear hjI
      go_wp2_with (at_builtin; refine wpList_appendS rfl _ _ 45 rfl wc.heap.size 9 Tryz.underlying45 info_str _ 0 [] (World.ownsRow_nil _ _ _ _) rfl _ (acc.take j) _ hT1 (by first | rfl | simp) (by rw [HTL.out]; omega) (Nat.le_refl _) ?_)
      intro v1 x1 ho1 hx1 _ _
      replace ho1 : x1.ownsRow wc.heap.size 9 1 v1 j ((acc.take j).map sv) := by rw [List.map_take]; exact ho1
      have hD2 := SlV.keep hD1 hx1
      have hs1 := hx1.size
      go_wp2_with (at_builtin; refine wpList_push x1 rfl _ _ 45 rfl wc.heap.size 9 (.string ⟨#[]⟩) 1 16 Tryz.underlying45 info_str rfl (by decide) _ _ _ ho1 rfl [.string (B n)] rfl rfl (by intro u hu; simp at hu; subst hu; rfl) (by omega) hs1 ?_ rfl)
      intro v2 x2 ho2 _ _ hx2 _
      replace ho2 : x2.ownsRow wc.heap.size 9 1 v2 (j + 1) ((acc.take j).map sv ++ [.string (B n)]) := by rw [List.map_take]; exact ho2
      have hD3 := SlV.keep hD2 hx2
      have hx12 := hx1.trans hx2
      have hs2 := hx12.size
      go_wp2_with (at_builtin; refine wpList_appendS rfl _ _ 45 rfl wc.heap.size 9 Tryz.underlying45 info_str _ _ _ ho2 rfl _ (acc.drop j) _ hD3 (by first | rfl | simp) (by rw [HDL.out]; omega) hs2 ?_)
      intro v3 x3 ho3 hx3 _ _
      have hx13 := hx12.trans hx3
      go_wp2
      go_roundw
      case rel =>
       refine ⟨k + 1, Idn.insS n acc, by omega, by go_num, own_base (own_cast ho3 ?_ ?_) hwc, hbwc.trans (hx13.mono hwc), HST, by omega⟩
       ·rw [hI.out, List.length_append, List.length_cons, HTL.out, HDL.out]; omega
       ·rw [hI.out]; simp [sv]
      case measure => simp [intOf]; omega
  ·have hltI : ¬ (k : Int) < (l.length : Int) := by omega
   have HF : Hid (res = acc) := by show _ = _; rw [hinv.out, List.drop_eq_nil_of_le (by omega)]; rfl
   clear hinv
   go_wp2
   go_ret
   exact ⟨_, rfl, by rw [HF.out]; exact hown, hb⟩
end Go.Proofs.YtoopoglkeeoamaaGreatDoor
