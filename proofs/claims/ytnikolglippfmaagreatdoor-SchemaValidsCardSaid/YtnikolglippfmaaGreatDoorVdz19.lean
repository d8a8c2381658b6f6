/- Part 19 of the proof that Valid returns the specified error: the package variables hold what the program lays; nothing else is asked. -/
import Derived.Test.YtnikolglippfmaaGreatDoorVdz04
import Derived.Test.YtnikolglippfmaaGreatDoorVdz07
import Derived.Test.YtnikolglippfmaaGreatDoorVdz15
import Derived.Test.YtnikolglippfmaaGreatDoorVdz16
import Derived.Test.YtnikolglippfmaaGreatDoorVdz17
import Derived.Test.YtnikolglippfmaaGreatDoorVdz18
import Derived.Sort.Walk0
/- schema.Lineage. -/
namespace Go.Proofs.YtnikolglippfmaaGreatDoor
open Go.RowKit Go.Sort
open Idn (L B Bs drop_L take_L size_L)

theorem dec_sound (s : Idn.Sch) : Idn.Dec (sound s).classes := by
  unfold sound
  by_cases h : Idn.sCheck s = 0
  · rw [if_pos h]; exact Idn.dec_of s h
  · rw [if_neg h]; exact Idn.dec_nil
theorem ssm_sound {s : Idn.Sch} (h : SSm s) : SSm (sound s) := by
  unfold sound
  by_cases h' : Idn.sCheck s = 0
  · rw [if_pos h']; exact h
  · rw [if_neg h']; exact ⟨⟨by simp, by simp⟩, ⟨by simp, by simp⟩⟩
/-- the classes of a lineage -/
def linC (s : Idn.Sch) (n : Bs) : List Idn.Cl := (Idn.lin s n).filterMap (s.classes[·]?)
theorem linK_len (l : List Idn.Cl) : ∀ (f : Nat) (o : Option Nat), (Idn.linK l f o).length ≤ f
  | 0, _ => Nat.le_refl _
  | f + 1, none => by simp [Idn.linK]
  | f + 1, some k => by rw [Idn.linK_some]; have := linK_len l f (Idn.up1 l k); simp; omega
theorem linC_len (s : Idn.Sch) (n : Bs) : (linC s n).length ≤ s.classes.length :=
  Nat.le_trans (List.length_filterMap_le _ _) (linK_len _ _ _)

set_option maxHeartbeats 1000000 in
set_option maxRecDepth 100000 in
theorem schLineage_any (v : Value) (s : Idn.Sch) (n : ByteArray) (w : World) (hv : SchV w w.heap.size v s) (hs : SSm s) (hn : n.size ≤ 1000000000) :
    Calls Tryz.prog 28 #[v, .string n] w (RetS w ((linC (sound s) (L n)).map (·.name))) := by
  have hE := fun W (hW : Below w.heap.size w W) => look_any v s W (SchV.mono (SchV.keep hv hW) hW.size) hs
  obtain ⟨a, b, rfl, hT, hC⟩ := hv
  obtain ⟨A, ca, rfl, hca⟩ := SlV.shape hT
  obtain ⟨A', cb, rfl, hcb⟩ := SlV.shape hC
  clear hT hC
  have hLn := linC_len (sound s) (L n)
  have hsl := (ssm_sound hs).2.1
  generalize hgl : linC (sound s) (L n) = l at *
  have Hgl := Lib.hid hgl
  clear hgl
  go_enter Tryz.func28, Tryz.ntmps28
  go_wp2_with fail
  with_reducible refine gen1 (R := fun W => Calls Tryz.prog 35 _ W _) ?_
  intro W hbW hszW _ _
  refine (hE W hbW).mono ?_
  rintro e w1 ⟨m1, m2, rfl, hb1, hk⟩
  clear hE
  have hLin := lineage_any m1 m2 (sound s) W.heap.size n w1 hk hb1.size (dec_sound s) (ssm_sound hs) hn
  have hbw1 := hbW.trans (hb1.mono hbW.size)
  go_wp2_with fail
  refine hLin.mono ?_
  rintro e w2 ⟨vc, rfl, hb2, hcl⟩
  have hbw2 := hbw1.trans (hb2.mono hbw1.size)
  change ClassesV w2 w2.heap.size vc (linC (sound s) (L n)) at hcl
  rw [Hgl.out] at hcl
  clear hLin hk
  obtain ⟨AA, cc, rfl, hcc⟩ := SlV.shape hcl
  go_wp2
  go_loopw [5, 13] (fun v i wr => ∃ k : Nat, k ≤ l.length ∧ i = .int .i64 k ∧ wr.ownsRow w2.heap.size 9 1 v k (((l.take k).map (·.name)).map sv) ∧ Below w2.heap.size w2 wr) (fun _ i _ => l.length - (intOf i).toNat)
  case atStart => exact ⟨0, Nat.zero_le _, rfl, World.ownsRow_nil _ _ _ _, Below.refl _ _⟩
  case round =>
    obtain ⟨k, hk, rfl, hown, hb⟩ := hrel
    by_cases hlt : k < l.length
    · obtain ⟨b, off, vm, vn, rfl, hbl, c0, c1, c2, c3, hm, hn'⟩ := ClassesV.cell (ClassesV.keep hcl hb) hlt
      obtain ⟨Am, cm, rfl, hcm⟩ := SlV.shape hm
      obtain ⟨An, cn, rfl, hcn⟩ := SlV.shape hn'
      have hltI : (k : Int) < (l.length : Int) := by omega
      have hbs := hb.size
      have ba := (Below.refl wr.heap.size wr).alloc (Nat.le_refl _) (.cells #[.string (B l[k].name), .string (B l[k].super), .slice Am l[k].must.length cm, .slice An l[k].may.length cn] 50)
      have hown1 := own_below hown ba
      have hbw := hb.trans (ba.mono hb.size)
      have hbs1 := hbw.size
      have hsza : (wr.alloc (.cells #[.string (B l[k].name), .string (B l[k].super), .slice Am l[k].must.length cm, .slice An l[k].may.length cn] 50)).heap.size = wr.heap.size + 1 := by simp
      have Hsza := Lib.hid hsza
      clear hm hn' hown ba hsza
      go_wp2_with (at_builtin; refine wpList_push (wr.alloc (.cells #[.string (B l[k].name), .string (B l[k].super), .slice Am l[k].must.length cm, .slice An l[k].may.length cn] 50)) rfl _ _ 48 rfl w2.heap.size 9 (.string ⟨#[]⟩) 1 16 Tryz.underlying48 info_str rfl (by decide) _ k _ hown1 rfl [.string (B l[k].name)] (by rw [Hsza.out]; rfl) rfl (by intro u hu; simp at hu; subst hu; rfl) (by omega) hbs1 ?_ rfl)
      intro v' w1' hown' _ _ hb' _
      clear hown1
      go_wp2
      go_roundw
      case rel =>
        refine ⟨k + 1, by omega, by go_num, ?_, hbw.trans hb'⟩
        rw [List.take_succ_eq_append_getElem hlt, List.map_append, List.map_append]
        simpa [sv] using hown'
      case measure => simp [intOf]; omega
    · have hkl : k = l.length := by omega
      have hltI : ¬ (k : Int) < (l.length : Int) := by omega
      subst hkl
      rw [List.take_length] at hown
      go_wp2
      go_ret
      have hfin := own_base hown hbw2.size
      refine ⟨u5, rfl, ?_, hbw2.trans (hb.mono hbw2.size)⟩
      rw [List.length_map]
      exact hfin
end Go.Proofs.YtnikolglippfmaaGreatDoor
/- schema: must, may, Must, May. -/
namespace Go.Proofs.YtnikolglippfmaaGreatDoor
open Go.RowKit Go.Sort
open Idn (L B Bs drop_L take_L size_L)

/-- bounds of a sound schema -/
def Bd (s : Idn.Sch) : Prop := s.classes.length ≤ 32 ∧ ∀ c ∈ s.classes, c.must.length ≤ 64 ∧ c.may.length ≤ 64
theorem clErr_lens {ts : List Idn.AT} {p : List Idn.Cl} {c : Idn.Cl} (h : Idn.clErr ts p c = 0) : c.must.length ≤ 64 ∧ c.may.length ≤ 64 := by
  unfold Idn.clErr at h
  split at h
  · cases h
  · split at h
    · cases h
    · split at h
      · cases h
      · split at h
        · cases h
        · rename_i hn
          simp at hn
          omega
theorem bd_sound (s : Idn.Sch) : Bd (sound s) := by
  unfold sound
  by_cases h : Idn.sCheck s = 0
  · rw [if_pos h]
    have hl : ¬ ((decide (64 < s.types.length) || decide (32 < s.classes.length)) = true) := by
      intro he; unfold Idn.sCheck at h; rw [if_pos he] at h; cases h
    have hc : Idn.clsErr s.types [] s.classes = 0 := by
      unfold Idn.sCheck at h
      rw [if_neg hl] at h
      split at h
      · rename_i hn; simp [h] at hn
      · split at h
        · exact h
        · rename_i hn; simpa using hn
    simp at hl
    refine ⟨by omega, fun c hc' => ?_⟩
    obtain ⟨k, hk, rfl⟩ := List.getElem_of_mem hc'
    exact clErr_lens (Idn.clsErr_zero _ _ _ hc k hk)
  · rw [if_neg h]
    exact ⟨by simp, by simp⟩
theorem linS_len (s : Idn.Sch) (n : Bs) : ((Idn.lin s n).filterMap (s.classes[·]?)).length ≤ s.classes.length := linC_len s n
theorem linS_mem {s : Idn.Sch} {n : Bs} {c : Idn.Cl} (h : c ∈ (Idn.lin s n).filterMap (s.classes[·]?)) : c ∈ s.classes := by
  obtain ⟨k, _, hk⟩ := List.mem_filterMap.1 h
  exact List.mem_of_getElem? hk
theorem flat_len {α : Type} (f : α → List Bs) (c : Nat) : ∀ (l : List α), (∀ x ∈ l, (f x).length ≤ c) → (l.flatMap f).length ≤ l.length * c
  | [], _ => by simp
  | x :: l, h => by
    have := flat_len f c l (fun y hy => h y (List.mem_cons_of_mem _ hy))
    have h0 := h x List.mem_cons_self
    simp only [List.flatMap_cons, List.length_append, List.length_cons]
    rw [Nat.add_mul]; omega
theorem take_flat {α : Type} (f : α → List Bs) (l : List α) (k : Nat) (hk : k < l.length) : (l.take (k + 1)).flatMap f = (l.take k).flatMap f ++ f l[k] := by
  rw [List.take_succ_eq_append_getElem hk, List.flatMap_append]; simp

/-- the lists of the first k classes, joined -/
def flatK (f : Idn.Cl → List Bs) (l : List Idn.Cl) (k : Nat) : List Bs := (l.take k).flatMap f
theorem flatK_zero (f : Idn.Cl → List Bs) (l : List Idn.Cl) : flatK f l 0 = [] := rfl
theorem flatK_succ (f : Idn.Cl → List Bs) (l : List Idn.Cl) (k : Nat) (hk : k < l.length) : flatK f l (k + 1) = flatK f l k ++ f l[k] := take_flat f l k hk
theorem flatK_all (f : Idn.Cl → List Bs) (l : List Idn.Cl) : flatK f l l.length = l.flatMap f := by unfold flatK; rw [List.take_length]
def catK (m : List Bs) (f : Idn.Cl → List Bs) (l : List Idn.Cl) (k : Nat) : List Bs := m ++ flatK f l k
theorem catK_zero (m : List Bs) (f : Idn.Cl → List Bs) (l : List Idn.Cl) : catK m f l 0 = m := by rw [catK, flatK_zero, List.append_nil]
theorem catK_succ (m : List Bs) (f : Idn.Cl → List Bs) (l : List Idn.Cl) (k : Nat) (hk : k < l.length) : catK m f l (k + 1) = catK m f l k ++ f l[k] := by rw [catK, flatK_succ _ _ _ hk, ← List.append_assoc]; rfl
theorem catK_all (m : List Bs) (f : Idn.Cl → List Bs) (l : List Idn.Cl) : catK m f l l.length = m ++ l.flatMap f := by rw [catK, flatK_all]
theorem catK_lenEq (m : List Bs) (f : Idn.Cl → List Bs) (l : List Idn.Cl) (k : Nat) : (catK m f l k).length = m.length + (flatK f l k).length := by rw [catK, List.length_append]
theorem flatK_len (f : Idn.Cl → List Bs) (l : List Idn.Cl) (c k : Nat) (h : ∀ x ∈ l, (f x).length ≤ c) : (flatK f l k).length ≤ l.length * c := by
  have h1 := flat_len f c (l.take k) (fun x hx => h x (List.mem_of_mem_take hx))
  have h2 : (l.take k).length ≤ l.length := by rw [List.length_take]; omega
  exact Nat.le_trans h1 (Nat.mul_le_mul_right c h2)

/-- the attributes that a class requires, of a schema that is sound -/
def mustL (s : Idn.Sch) (n : Bs) : List Bs := merged (((Idn.lin s n).filterMap (s.classes[·]?)).flatMap (·.must))
def mayL (s : Idn.Sch) (n : Bs) : List Bs := merged (mustL s n ++ ((Idn.lin s n).filterMap (s.classes[·]?)).flatMap (·.may))

set_option maxHeartbeats 1000000 in
set_option maxRecDepth 100000 in
theorem must_any (m1 m2 : Value) (s : Idn.Sch) (hi : Nat) (n : ByteArray) (w : World) (hk : KnV w hi m1 m2 s) (hh : hi ≤ w.heap.size) (hd : Idn.Dec s.classes) (hs : SSm s) (hbd : Bd s) (hn : n.size ≤ 1000000000) :
    Calls Tryz.prog 70 #[.agg #[m1, m2], .string n] w (RetS w (mustL s (L n))) := by
  obtain ⟨o1, o2, rfl, rfl⟩ := hk.shape
  have hLin := fun W (hW : Below w.heap.size w W) => lineage_any _ _ s hi n W (hk.keep hW hh) (Nat.le_trans hh hW.size) hd hs hn
  have hlen := linS_len s (L n)
  have hmem := fun c => linS_mem (s := s) (n := L n) (c := c)
  have hres : mustL s (L n) = merged (((Idn.lin s (L n)).filterMap (s.classes[·]?)).flatMap (·.must)) := rfl
  clear hk
  generalize (Idn.lin s (L n)).filterMap (s.classes[·]?) = l at *
  have hc64 : ∀ c ∈ l, c.must.length ≤ 64 := fun c hc => (hbd.2 c (hmem c hc)).1
  have hc9 : ∀ x ∈ l.flatMap (·.must), x.length ≤ 1000000000 := fun x hx => by
    obtain ⟨c, hc, hx⟩ := List.mem_flatMap.1 hx
    exact (hs.2.2 c (hmem c hc)).2.2.1.2 x hx
  have hl32 : l.length ≤ 32 := Nat.le_trans hlen hbd.1
  have hfl := flat_len (·.must) 64 l hc64
  have Hres := Lib.hid hres
  clear hres hmem hlen hbd hs hd
  go_enter Tryz.func70, Tryz.ntmps70
  go_wp2_with fail
  with_reducible refine gen1 (R := fun W => Calls Tryz.prog 74 _ W _) ?_
  intro W hbW hszW _ _
  refine (hLin W hbW).mono ?_
  rintro e w2 ⟨vc, rfl, hb2, hcl⟩
  have hbw2 := hbW.trans (hb2.mono hbW.size)
  clear hLin
  obtain ⟨AA, cc, rfl, hcc⟩ := SlV.shape hcl
  go_wp2
  go_loopw [5, 12] (fun v i wr => ∃ k : Nat, k ≤ l.length ∧ i = .int .i64 k ∧ wr.ownsRow w2.heap.size 9 1 v (flatK (·.must) l k).length ((flatK (·.must) l k).map sv) ∧ Below w2.heap.size w2 wr) (fun _ i _ => l.length - (intOf i).toNat)
  case atStart => exact ⟨0, Nat.zero_le _, rfl, World.ownsRow_nil _ _ _ _, Below.refl _ _⟩
  case round =>
    obtain ⟨k, hk, rfl, hown, hb⟩ := hrel
    by_cases hlt : k < l.length
    · obtain ⟨b, off, vm, vn, rfl, hbl, c0, c1, c2, c3, hm, hn'⟩ := ClassesV.cell (ClassesV.keep hcl hb) hlt
      obtain ⟨Am, cm, rfl, hcm⟩ := SlV.shape hm
      obtain ⟨An, cn, rfl, hcn⟩ := SlV.shape hn'
      have hltI : (k : Int) < (l.length : Int) := by omega
      have ba := (Below.refl wr.heap.size wr).alloc (Nat.le_refl _) (.cells #[.string (B l[k].name), .string (B l[k].super), .slice Am l[k].must.length cm, .slice An l[k].may.length cn] 50)
      have hown1 := own_below hown ba
      have hm1 := SlV.keep (SlV.mono hm hb.size) ba
      have hbw := hb.trans (ba.mono hb.size)
      have hbs1 := hbw.size
      have htk : (flatK (·.must) l k).length ≤ 2048 := by
        have h1 := flatK_len (·.must) l 64 k hc64
        omega
      have hk64 := hc64 l[k] (List.getElem_mem hlt)
      clear hm hn' hown ba
      go_wp2_with (at_builtin; refine wpList_appendS rfl _ _ 48 rfl w2.heap.size 9 Tryz.underlying48 info_str _ _ _ hown1 rfl _ l[k].must _ hm1 rfl (by omega) hbs1 ?_)
      intro v' w1' hown' hb' _ _
      clear hown1 hm1
      go_wp2
      go_roundw
      case rel =>
        refine ⟨k + 1, by omega, by go_num, ?_, hbw.trans hb'⟩
        rw [flatK_succ _ _ _ hlt, List.map_append, List.length_append]
        exact hown'
      case measure => simp [intOf]; omega
    · have hkl : k = l.length := by omega
      have hltI : ¬ (k : Int) < (l.length : Int) := by omega
      subst hkl
      rw [flatK_all] at hown
      generalize l.flatMap (·.must) = q at *
      obtain ⟨A3, c3, hu⟩ := own_shape hown
      subst hu
      have hM := merged_any _ q wr (StrsV.of_own hown) (by omega) hc9
      have hbw := hbw2.trans (hb.mono hbw2.size)
      clear hown
      go_wp2_with fail
      refine hM.mono ?_
      rintro e w5 ⟨v5, rfl, hown5, hb5⟩
      go_wp2
      go_ret
      exact ⟨_, rfl, by rw [Hres.out]; exact own_base hown5 hbw.size, hbw.trans (hb5.mono hbw.size)⟩

theorem sorted_len (l : List Bs) : (sorted l).length = l.length := by simp [sorted]
theorem merged_len (l : List Bs) : (merged l).length ≤ l.length := by
  have h := Lib.compact_length_le (sorted (l.map Idn.lower))
  rw [sorted_len, List.length_map] at h
  exact h
theorem compact_mem {x : Bs} {l : List Bs} (h : x ∈ Lib.compact l) : x ∈ l := by
  unfold Lib.compact Lib.compactUpTo at h
  obtain ⟨i, hi, rfl⟩ := List.mem_map.1 h
  have hil := (List.mem_filter.1 hi).1
  rw [List.mem_range] at hil
  simp [hil]
theorem own_lt {w : World} {base : Nat} {e : TypeId} {size : Nat} {v : Value} {n : Nat} {xs : List Value} (h : w.ownsRow base e size v n xs) {g : Nat} (hg : v.ownBlock = some g) : g < w.heap.size := (h.lt g hg).2
theorem LinV.shape {w : World} {base hi : Nat} {v : Value} {l : List Idn.Cl} (h : LinV w base hi v l) : ∃ A c, v = .slice A l.length c := by
  obtain ⟨xs, h1, _⟩ := h
  exact own_shape h1
theorem LinV.cell {w : World} {base hi : Nat} {A : Option Addr} {n c : Nat} {l : List Idn.Cl} (h : LinV w base hi (.slice A n c) l) {k : Nat} (hk : k < l.length) :
    ∃ g vm vn, A = some ⟨g, 0, none⟩ ∧ g < w.heap.size ∧ w.cell? ⟨g, k * 4, none⟩ = some (.string (B l[k].name)) ∧ w.cell? ⟨g, k * 4 + 1, none⟩ = some (.string (B l[k].super)) ∧ w.cell? ⟨g, k * 4 + 2, none⟩ = some vm ∧ w.cell? ⟨g, k * 4 + 3, none⟩ = some vn ∧ StrsV w hi vm l[k].must ∧ StrsV w hi vn l[k].may := by
  obtain ⟨xs, h1, h2⟩ := h
  obtain ⟨g, cap, cur, hv, _, hgg, _⟩ : ∃ g cap cur, Value.slice A n c = .slice (some ⟨g, 0, none⟩) l.length cap ∧ base ≤ g ∧ w.heap[g]? = some (.cells cur 50 (0, 0)) ∧ True := by
    rcases h1.2 with ⟨_, hn⟩ | ⟨g, cap, cur, hv, hb', hgg, rest⟩
    · omega
    · exact ⟨g, cap, cur, hv, hb', hgg, trivial⟩
  have hlt := (Array.getElem?_eq_some_iff.1 hgg).1
  injection hv with hv
  subst hv
  obtain ⟨cs, h3, ⟨v, u, h4, hv, hu⟩, h5⟩ := h2 k l[k] (List.getElem?_eq_getElem hk)
  subst h4
  have hc := h1.cells (g := g) rfl
  have e : ∀ j, ((⟨g, 0, none⟩ : Addr).add j) = ⟨g, j, none⟩ := fun j => by unfold Addr.add; split <;> simp_all
  have h6 := fun (j : Nat) (u : Value) (hj) => (e (k * 4 + j)) ▸ hc (k * 4 + j) u (h5 j u hj)
  exact ⟨g, v, u, rfl, hlt, h6 0 _ rfl, h6 1 _ rfl, h6 2 _ rfl, h6 3 _ rfl, hv, hu⟩
theorem LinV.grown {w w' : World} {base hi : Nat} {A : Option Addr} {n c : Nat} {l : List Idn.Cl} (h : LinV w base hi (.slice A n c) l) {row : Option Nat} (hg : w.grownBy w' row) (hs : ∀ g, row = some g → A ≠ some ⟨g, 0, none⟩) (hb : Below hi w w') : LinV w' base hi (.slice A n c) l := by
  obtain ⟨xs, h1, h2⟩ := h
  refine ⟨xs, ⟨h1.1, ?_⟩, fun i x hx => ?_⟩
  · rcases h1.2 with hn | ⟨g, cap, cur, hv, hb', hgg, rest⟩
    · exact .inl hn
    · injection hv with hv1 hv2 hv3
      subst hv1
      exact .inr ⟨g, cap, cur, by rw [hv2, hv3], hb', by rw [hg.block g (Array.getElem?_eq_some_iff.1 hgg).1 (fun e => hs g e.symm rfl)]; exact hgg, rest⟩
  · obtain ⟨cs, h3, h4, h5⟩ := h2 i x hx
    exact ⟨cs, h3, h4.keep hb, h5⟩
theorem LinV.ge {w : World} {base hi : Nat} {g n c : Nat} {l : List Idn.Cl} (h : LinV w base hi (.slice (some ⟨g, 0, none⟩) n c) l) : base ≤ g := by
  obtain ⟨xs, h1, _⟩ := h
  exact (h1.lt g rfl).1
theorem merged_mem {l : List Bs} {x : Bs} (h : x ∈ merged l) : ∃ y ∈ l, x = Idn.lower y := by
  have h1 := compact_mem h
  have h2 : x ∈ l.map Idn.lower := by
    unfold sorted at h1
    exact (List.mergeSort_perm _ _).mem_iff.1 h1
  obtain ⟨y, hy, rfl⟩ := List.mem_map.1 h2
  exact ⟨y, hy, rfl⟩
theorem mustL_len {s : Idn.Sch} (hbd : Bd s) (n : Bs) : (mustL s n).length ≤ 2048 := by
  have h1 := linS_len s n
  have h2 := flat_len (·.must) 64 ((Idn.lin s n).filterMap (s.classes[·]?)) (fun c hc => (hbd.2 c (linS_mem hc)).1)
  have h3 := merged_len (((Idn.lin s n).filterMap (s.classes[·]?)).flatMap (·.must))
  have := hbd.1
  unfold mustL
  omega
theorem mustL_sm {s : Idn.Sch} (hs : SSm s) {n x : Bs} (h : x ∈ mustL s n) : x.length ≤ 1000000000 := by
  obtain ⟨y, hy, rfl⟩ := merged_mem h
  obtain ⟨c, hc, hx⟩ := List.mem_flatMap.1 hy
  rw [Idn.length_lower]
  exact (hs.2.2 c (linS_mem hc)).2.2.1.2 y hx
set_option maxHeartbeats 1000000 in
set_option maxRecDepth 100000 in
theorem may_any (m1 m2 : Value) (s : Idn.Sch) (hi : Nat) (n : ByteArray) (w : World) (hk : KnV w hi m1 m2 s) (hh : hi ≤ w.heap.size) (hd : Idn.Dec s.classes) (hs : SSm s) (hbd : Bd s) (hn : n.size ≤ 1000000000) :
    Calls Tryz.prog 71 #[.agg #[m1, m2], .string n] w (RetS w (mayL s (L n))) := by
  obtain ⟨o1, o2, rfl, rfl⟩ := hk.shape
  have hMu := fun W (hW : Below w.heap.size w W) => must_any _ _ s hi n W (hk.keep hW hh) (Nat.le_trans hh hW.size) hd hs hbd hn
  have hLin := fun W (hW : Below w.heap.size w W) => lineage_lin _ _ s hi n W (hk.keep hW hh) (Nat.le_trans hh hW.size) hd hs hn
  have hlen := linS_len s (L n)
  have hmem := fun c => linS_mem (s := s) (n := L n) (c := c)
  have hml := mustL_len hbd (L n)
  have hmx := fun x => mustL_sm hs (n := L n) (x := x)
  have hres : mayL s (L n) = merged (mustL s (L n) ++ ((Idn.lin s (L n)).filterMap (s.classes[·]?)).flatMap (·.may)) := rfl
  clear hk
  generalize (Idn.lin s (L n)).filterMap (s.classes[·]?) = l at *
  generalize mustL s (L n) = mu at *
  have hc64 : ∀ c ∈ l, c.may.length ≤ 64 := fun c hc => (hbd.2 c (hmem c hc)).2
  have hc9 : ∀ x ∈ mu ++ l.flatMap (·.may), x.length ≤ 1000000000 := fun x hx => by
    rcases List.mem_append.1 hx with hx | hx
    · exact hmx x hx
    · obtain ⟨c, hc, hx⟩ := List.mem_flatMap.1 hx
      exact (hs.2.2 c (hmem c hc)).2.2.2.2 x hx
  have hl32 : l.length ≤ 32 := Nat.le_trans hlen hbd.1
  have hfl := flat_len (·.may) 64 l hc64
  have Hres := Lib.hid hres
  clear hres hmem hlen hbd hs hd hmx
  go_enter Tryz.func71, Tryz.ntmps71
  go_wp2_with fail
  with_reducible refine gen1 (R := fun W => Calls Tryz.prog 70 _ W _) ?_
  intro W hbW hszW hcW _
  have k0 := hcW 0 _ rfl
  have k1 := hcW 1 _ rfl
  clear hcW
  refine (hMu W hbW).mono ?_
  rintro e w1 ⟨v1, rfl, hown1, hb1⟩
  obtain ⟨A1, c1, hu1⟩ := own_shape hown1
  subst hu1
  have hbw1 := hbW.trans (hb1.mono hbW.size)
  replace k0 := cell_later hb1 k0
  replace k1 := cell_later hb1 k1
  clear hMu
  go_wp2_with fail
  refine (hLin w1 hbw1).mono ?_
  rintro e w2 ⟨vc, rfl, hb2, hcl⟩
  have hown2 := own_below hown1 hb2
  have hbw2 := hbw1.trans (hb2.mono hbw1.size)
  have hlt1 := fun g => own_lt hown1 (g := g)
  obtain ⟨AA, cc, hvc⟩ := hcl.shape
  subst hvc
  have hhi : hi ≤ W.heap.size := Nat.le_trans hh hbW.size
  clear hLin hown1 k0 k1
  have hbq := hb1.trans (hb2.mono hb1.size)
  have hfz : Hid (mu = catK mu (·.may) l 0) := (catK_zero mu (·.may) l).symm
  clear hszW
  go_wp2
  go_loopw [5, 15] (fun v i wr => ∃ k : Nat, k ≤ l.length ∧ i = .int .i64 k ∧ wr.ownsRow W.heap.size 9 1 v (catK mu (·.may) l k).length ((catK mu (·.may) l k).map sv) ∧ Below W.heap.size w2 wr ∧ LinV wr w1.heap.size hi (.slice AA l.length cc) l ∧ ∀ g, v.ownBlock = some g → AA ≠ some ⟨g, 0, none⟩) (fun _ i _ => l.length - (intOf i).toNat)
  case atStart => exact ⟨0, Nat.zero_le _, rfl, by rw [← hfz.out]; exact hown2, Below.refl _ _, hcl, fun g hg hAA => by subst hAA; have := hlt1 g hg; have := hcl.ge; omega⟩
  case round =>
    obtain ⟨k, hk, rfl, hown, hb, hcr, hsep⟩ := hrel
    by_cases hlt : k < l.length
    · obtain ⟨b, vm, vn, rfl, hbl, c0, c1, c2, c3, hm, hn'⟩ := hcr.cell hlt
      obtain ⟨Am, cm, rfl, hcm⟩ := SlV.shape hm
      obtain ⟨An, cn, rfl, hcn⟩ := SlV.shape hn'
      have hltI : (k : Int) < (l.length : Int) := by omega
      have ba := (Below.refl wr.heap.size wr).alloc (Nat.le_refl _) (.cells #[.string (B l[k].name), .string (B l[k].super), .slice Am l[k].must.length cm, .slice An l[k].may.length cn] 50)
      have hgA := World.grownBy_alloc wr (.cells #[.string (B l[k].name), .string (B l[k].super), .slice Am l[k].must.length cm, .slice An l[k].may.length cn] 50) (Value.ownBlock u5)
      have hown1 := own_below hown ba
      have hhr : hi ≤ wr.heap.size := Nat.le_trans hhi (Nat.le_trans hbq.size hb.size)
      have hn1 := SlV.keep hn' (ba.mono hhr)
      have hbs1 : W.heap.size ≤ (wr.alloc (.cells #[.string (B l[k].name), .string (B l[k].super), .slice Am l[k].must.length cm, .slice An l[k].may.length cn] 50)).heap.size := by simp; have := hbq.size; have := hb.size; omega
      have hbw := hb.trans (ba.mono (Nat.le_trans hbq.size hb.size))
      have htk : (catK mu (·.may) l k).length ≤ 4096 := by
        have h1 := flatK_len (·.may) l 64 k hc64
        rw [catK_lenEq]; omega
      have hk64 := hc64 l[k] (List.getElem_mem hlt)
      clear hm hn' hown ba
      go_wp2_with (at_builtin; refine wpList_appendS rfl _ _ 48 rfl W.heap.size 9 Tryz.underlying48 info_str _ _ _ hown1 rfl _ l[k].may _ hn1 rfl (by omega) hbs1 ?_)
      intro v' w1' hown' hb' hgr hat
      have hgr' := hgA.trans hgr
      have hcr' := hcr.grown hgr' hsep (Below.grown (Below.refl hi wr) hgr' hhr (fun g hg => Nat.le_trans hhi ((hown1.lt g hg).1)))
      clear hown1 hn1
      go_wp2
      go_roundw
      case rel =>
        refine ⟨k + 1, by omega, by go_num, ?_, hbw.trans hb', ?_, ?_⟩
        · rw [catK_succ _ _ _ _ hlt, List.map_append, List.length_append]
          exact hown'
        · exact hcr'
        · intro g hg hAA
          rcases hat with hat | hat
          · exact hsep g (hat ▸ hg) hAA
          · rw [hat] at hg
            injection hg with hg
            injection hAA with hAA
            injection hAA with hAA
            omega
      case measure => simp [intOf]; omega
    · have hkl : k = l.length := by omega
      have hltI : ¬ (k : Int) < (l.length : Int) := by omega
      subst hkl
      rw [catK_all] at hown
      have hql : (mu ++ l.flatMap (·.may)).length ≤ 1000000000 := by rw [List.length_append]; omega
      generalize mu ++ l.flatMap (·.may) = q at *
      obtain ⟨A3, c3, hu⟩ := own_shape hown
      subst hu
      have hM := merged_any _ q wr (StrsV.of_own hown) hql hc9
      have hbw := hbW.trans ((hbq.trans hb).mono hbW.size)
      clear hown
      go_wp2_with fail
      refine hM.mono ?_
      rintro e w5 ⟨v5, rfl, hown5, hb5⟩
      go_wp2
      go_ret
      exact ⟨_, rfl, by rw [Hres.out]; exact own_base hown5 hbw.size, hbw.trans (hb5.mono hbw.size)⟩

set_option maxHeartbeats 1000000 in
set_option maxRecDepth 100000 in
theorem schMust_any (v : Value) (s : Idn.Sch) (n : ByteArray) (w : World) (hv : SchV w w.heap.size v s) (hs : SSm s) (hn : n.size ≤ 1000000000) :
    Calls Tryz.prog 24 #[v, .string n] w (RetS w (mustL (sound s) (L n))) := by
  have hE := fun W (hW : Below w.heap.size w W) => look_any v s W (SchV.mono (SchV.keep hv hW) hW.size) hs
  obtain ⟨a, b, rfl, hT, hC⟩ := hv
  obtain ⟨A, ca, rfl, hca⟩ := SlV.shape hT
  obtain ⟨A', cb, rfl, hcb⟩ := SlV.shape hC
  clear hT hC
  go_enter Tryz.func24, Tryz.ntmps24
  go_wp2_with fail
  with_reducible refine gen1 (R := fun W => Calls Tryz.prog 35 _ W _) ?_
  intro W hbW hszW _ _
  refine (hE W hbW).mono ?_
  rintro e w1 ⟨m1, m2, rfl, hb1, hk⟩
  clear hE
  have hM := must_any m1 m2 (sound s) W.heap.size n w1 hk hb1.size (dec_sound s) (ssm_sound hs) (bd_sound s) hn
  have hbw1 := hbW.trans (hb1.mono hbW.size)
  clear hk
  go_wp2_with fail
  refine hM.mono ?_
  rintro e w2 ⟨v2, rfl, hown, hb2⟩
  go_wp2
  go_ret
  exact ⟨_, rfl, own_base hown hbw1.size, hbw1.trans (hb2.mono hbw1.size)⟩
set_option maxHeartbeats 1000000 in
set_option maxRecDepth 100000 in
theorem schMay_any (v : Value) (s : Idn.Sch) (n : ByteArray) (w : World) (hv : SchV w w.heap.size v s) (hs : SSm s) (hn : n.size ≤ 1000000000) :
    Calls Tryz.prog 25 #[v, .string n] w (RetS w (mayL (sound s) (L n))) := by
  have hE := fun W (hW : Below w.heap.size w W) => look_any v s W (SchV.mono (SchV.keep hv hW) hW.size) hs
  obtain ⟨a, b, rfl, hT, hC⟩ := hv
  obtain ⟨A, ca, rfl, hca⟩ := SlV.shape hT
  obtain ⟨A', cb, rfl, hcb⟩ := SlV.shape hC
  clear hT hC
  go_enter Tryz.func25, Tryz.ntmps25
  go_wp2_with fail
  with_reducible refine gen1 (R := fun W => Calls Tryz.prog 35 _ W _) ?_
  intro W hbW hszW _ _
  refine (hE W hbW).mono ?_
  rintro e w1 ⟨m1, m2, rfl, hb1, hk⟩
  clear hE
  have hM := may_any m1 m2 (sound s) W.heap.size n w1 hk hb1.size (dec_sound s) (ssm_sound hs) (bd_sound s) hn
  have hbw1 := hbW.trans (hb1.mono hbW.size)
  clear hk
  go_wp2_with fail
  refine hM.mono ?_
  rintro e w2 ⟨v2, rfl, hown, hb2⟩
  go_wp2
  go_ret
  exact ⟨_, rfl, own_base hown hbw1.size, hbw1.trans (hb2.mono hbw1.size)⟩
end Go.Proofs.YtnikolglippfmaaGreatDoor
/- schema: Text. -/
namespace Go.Proofs.YtnikolglippfmaaGreatDoor
open Go.RowKit Go.Sort
open Idn (L B Bs drop_L take_L size_L)

def tyK (l : List Idn.AT) (k : Nat) : Bs := Idn.tyLines (l.take k)
def clK (m : Bs) (l : List Idn.Cl) (k : Nat) : Bs := m ++ Idn.clLines (l.take k)
theorem tyK_succ (l : List Idn.AT) (k : Nat) (hk : k < l.length) : tyK l (k + 1) = tyK l k ++ (Idn.tyLine l[k] ++ [10]) := by
  unfold tyK Idn.tyLines; rw [List.take_succ_eq_append_getElem hk, List.flatMap_append]; simp
theorem clK_succ (m : Bs) (l : List Idn.Cl) (k : Nat) (hk : k < l.length) : clK m l (k + 1) = clK m l k ++ (Idn.clLine l[k] ++ [10]) := by
  unfold clK Idn.clLines; rw [List.take_succ_eq_append_getElem hk, List.flatMap_append]; simp
theorem strCells_B (a : Bs) : Lib.strCells (B a) = Lib.byteCells a := by simp [Lib.strCells, Lib.byteCells, B]
theorem byteCells_app (a b : Bs) : Lib.byteCells (a ++ b) = Lib.byteCells a ++ Lib.byteCells b := by simp [Lib.byteCells]
theorem length_tyLine (t : Idn.AT) (h : t.name.length ≤ 1000000) : (Idn.tyLine t ++ [10]).length ≤ 2000000 := by
  have := Idn.length_word t.syn
  unfold Idn.tyLine
  split <;> simp <;> omega
theorem length_clLine (c : Idn.Cl) (hn : c.name.length ≤ 1000000) (hsu : c.super.length ≤ 1000000) (hm : c.must.length ≤ 64) (hm' : c.may.length ≤ 64) (hmx : ∀ x ∈ c.must, x.length ≤ 1000000) (hnx : ∀ x ∈ c.may, x.length ≤ 1000000) : (Idn.clLine c ++ [10]).length ≤ 1000000000 := by
  have l1 := Idn.length_joinL [44] 1000000 c.must hmx
  have l2 := Idn.length_joinL [44] 1000000 c.may hnx
  have o1 := Idn.length_orDash c.super
  have o2 := Idn.length_orDash (Idn.joinL [44] c.must)
  have o3 := Idn.length_orDash (Idn.joinL [44] c.may)
  have q1 : c.must.length * (1000000 + 1) ≤ 64 * (1000000 + 1) := Nat.mul_le_mul_right _ hm
  have q2 : c.may.length * (1000000 + 1) ≤ 64 * (1000000 + 1) := Nat.mul_le_mul_right _ hm'
  simp only [List.length_cons, List.length_nil] at l1 l2
  unfold Idn.clLine
  generalize Idn.orDash (Idn.joinL [44] c.must) = z1 at *
  generalize Idn.orDash (Idn.joinL [44] c.may) = z2 at *
  generalize Idn.orDash c.super = z3 at *
  simp only [Idn.joinL, Idn.joinR, List.length_append, List.length_cons, List.length_nil]
  omega
theorem Bld.keep {lo b : Nat} {bs : List Value} {w w' : World} (h : Bld lo b bs w) (hb : Below w.heap.size w w') : Bld lo b bs w' := by
  have key : ∀ p, Lib.BuilderAtF 90 5 lo b p bs w → Lib.BuilderAtF 90 5 lo b p bs w' := by
    rintro p ⟨hB, v, hbk, hown, hne⟩
    refine ⟨hB, v, (hb.block b (Array.getElem?_eq_some_iff.1 hbk).1).trans hbk, ⟨hown.1, ?_⟩, hne⟩
    rcases hown.2 with hn | ⟨g, cap, cur, fz, hv, hb', hgg, rest⟩
    · exact .inl hn
    · exact .inr ⟨g, cap, cur, fz, hv, hb', (hb.block g (Array.getElem?_eq_some_iff.1 hgg).1).trans hgg, rest⟩
  rcases h with h | h
  · exact .inl (key _ h)
  · exact .inr (key _ h)
theorem Bld.new (w : World) : Bld w.heap.size w.heap.size [] (w.alloc (.cells #[.pointer none, .slice none 0 0] 90)) :=
  Lib.IsBuilderF.of (Lib.fresh_isBuilder _ _ _)
theorem Bld.bytes {lo b : Nat} {a : Bs} {s : ByteArray} {w : World} (h : Bld lo b (Lib.byteCells a ++ Lib.strCells s) w) : Bld lo b (Lib.byteCells (a ++ L s)) w := by
  rw [byteCells_app, ← strCells_B]; exact h
theorem byteCells_len (a : Bs) : (Lib.byteCells a).length = a.length := by simp [Lib.byteCells]
/-- small strings in a schema -/
def SSm6 (s : Idn.Sch) : Prop := (∀ t ∈ s.types, t.name.length ≤ 1000000) ∧ ∀ c ∈ s.classes, c.name.length ≤ 1000000 ∧ c.super.length ≤ 1000000 ∧ c.must.length ≤ 64 ∧ c.may.length ≤ 64 ∧ (∀ x ∈ c.must, x.length ≤ 1000000) ∧ ∀ x ∈ c.may, x.length ≤ 1000000
theorem flat_len8 {α β : Type} (f : α → List β) (c : Nat) : ∀ (l : List α), (∀ x ∈ l, (f x).length ≤ c) → (l.flatMap f).length ≤ l.length * c
  | [], _ => by simp
  | x :: l, h => by
    have := flat_len8 f c l (fun y hy => h y (List.mem_cons_of_mem _ hy))
    have h0 := h x List.mem_cons_self
    simp only [List.flatMap_cons, List.length_append, List.length_cons]
    rw [Nat.add_mul]; omega
theorem length_tyK (l : List Idn.AT) (k : Nat) (h : ∀ t ∈ l, t.name.length ≤ 1000000) : (tyK l k).length ≤ l.length * 2000000 := by
  unfold tyK Idn.tyLines
  have h1 := flat_len8 (fun t => Idn.tyLine t ++ [10]) 2000000 (l.take k) (fun t ht => length_tyLine t (h t (List.mem_of_mem_take ht)))
  have h2 : (l.take k).length ≤ l.length := by rw [List.length_take]; omega
  exact Nat.le_trans h1 (Nat.mul_le_mul_right _ h2)

set_option maxHeartbeats 1000000 in
set_option maxRecDepth 100000 in
theorem schText_gen (v : Value) (s : Idn.Sch) (w : World) (hv : SchV w w.heap.size v s) (hs : SSm s) (h60 : Idn.sCheck s = 0 → SSm6 s) :
    Calls Tryz.prog 17 #[v] w fun e w' => e = .returned (.tuple #[.string (B (Idn.sText s).1), .int .i64 (Idn.sText s).2]) ∧ Below w.heap.size w w' := by
  have hE := fun W (hW : Below w.heap.size w W) => schCheck_any v s W (SchV.mono (SchV.keep hv hW) hW.size) hs
  obtain ⟨a, b, rfl, hT, hC⟩ := hv
  obtain ⟨A, ca, rfl, hca⟩ := SlV.shape hT
  obtain ⟨A', cb, rfl, hcb⟩ := SlV.shape hC
  generalize hrr : Idn.sText s = r
  have HR := Lib.hid hrr
  clear hrr
  by_cases h0 : Idn.sCheck s = 0
  case neg =>
    clear h60
    have HF : Hid (r = ([], Idn.sCheck s)) := by show _ = _; rw [← HR.out, Idn.sText, if_pos (by simpa using h0)]
    generalize Idn.sCheck s = x at *
    have hx : (x == 0) = false := by simpa using h0
    have hx' : (x != 0) = true := by simpa using h0
    clear h0
    go_enter Tryz.func17, Tryz.ntmps17
    go_wp2_with fail
    with_reducible refine gen1 (R := fun W => Calls Tryz.prog 22 _ W _) ?_
    intro W hbW hszW _ _
    refine (hE W hbW).mono ?_
    rintro e w1 ⟨rfl, hb1⟩
    clear hE
    go_wp2
    go_ret2
    exact ⟨by rw [HF.out]; rfl, hbW.trans (hb1.mono hbW.size)⟩
  have hT64 : s.types.length ≤ 64 ∧ s.classes.length ≤ 32 := by
    unfold Idn.sCheck at h0
    split at h0
    · cases h0
    · rename_i hn; simp at hn; omega
  have HF : Hid (r = if decide (4096 < (clK (tyK s.types s.types.length) s.classes s.classes.length).length) then ([], 3) else (clK (tyK s.types s.types.length) s.classes s.classes.length, 0)) := by
    show _ = _
    rw [← HR.out, Idn.sText, if_neg (by simp [h0]), clK, tyK, List.take_length, List.take_length]
  have h6 := h60 h0
  clear h60
  have hlk := length_tyK s.types
  have hlT := hlk s.types.length h6.1
  rw [h0] at hE
  clear h0 HR
  go_enter Tryz.func17, Tryz.ntmps17
  go_wp2_with fail
  with_reducible refine gen1 (R := fun W => Calls Tryz.prog 22 _ W _) ?_
  intro W hbW hszW hc1 _
  have b0 := hc1 0 _ rfl
  have b1 := hc1 1 _ rfl
  clear hc1
  refine (hE W hbW).mono ?_
  rintro e w1 ⟨rfl, hb1⟩
  replace b0 := cell_later hb1 b0
  replace b1 := cell_later hb1 b1
  have hbw1 := hbW.trans (hb1.mono hbW.size)
  have hTv := SlV.keep hT hbw1
  have hCv := ClassesV.keep hC hbw1
  have hB0 := Bld.new w1
  have hlt1 : w.heap.size < w1.heap.size := by have := hb1.size; omega
  clear hE hT hC hszW hb1 hbW
  go_wp2
  go_loopw [18] (fun i wr => ∃ k : Nat, k ≤ s.types.length ∧ i = .int .i64 k ∧ Below w1.heap.size w1 wr ∧ Bld w1.heap.size w1.heap.size (Lib.byteCells (tyK s.types k)) wr) (fun i _ => s.types.length - (intOf i).toNat)
  case atStart => exact ⟨0, Nat.zero_le _, rfl, (Below.refl _ _).alloc (Nat.le_refl _) _, hB0⟩
  case round =>
    obtain ⟨k, hk, rfl, hb, hB⟩ := hrel
    clear hB0
    by_cases hlt : k < s.types.length
    · obtain ⟨b, off, rfl, hbl, c0, c1, c2⟩ := TypesV.cell (SlV.keep hTv (hb.mono hbw1.size)) hlt
      have hn6 := h6.1 s.types[k] (List.getElem_mem hlt)
      have hTL := fun W => typeLine_any s.types[k] W (by omega)
      unfold tyV sv at hTL
      have hltI : (k : Int) < (s.types.length : Int) := by omega
      have ba := (Below.refl wr.heap.size wr).alloc (Nat.le_refl _) (.cells #[.string (B s.types[k].name), .int .i64 s.types[k].syn, .bool s.types[k].single] 58)
      have hB1 := hB.keep ba
      have hl2 := length_tyLine s.types[k] hn6
      have hadd := fun W => run_add (P := Tryz.prog) (a := Idn.tyLine s.types[k]) (b := [10]) (t := ⟨#[10]⟩) rfl rfl (by rw [List.length_append] at hl2; omega) W
      have hsucc := tyK_succ s.types k hlt
      have hlk' := hlk k h6.1
      clear hB
      go_wp2_with fail
      refine (hTL _).mono ?_
      rintro e w2 ⟨rfl, hb2⟩
      have hbw2 := Below.on (hb.trans (ba.mono hb.size)) hb2
      have hWS := writeString_any w1.heap.size w1.heap.size (Lib.byteCells (tyK s.types k)) (B (Idn.tyLine s.types[k] ++ [10])) w2 (hB1.keep hb2) (by rw [byteCells_len, Idn.size_B]; omega) hbw2.size
      clear hTL hB1 hb2
      go_wp2_with fail
      refine hWS.mono ?_
      rintro e w3 ⟨rfl, hB3, hb3, _⟩
      clear hWS
      go_wp2
      go_roundw
      case rel => exact ⟨k + 1, by omega, by go_num, hbw2.trans hb3, by rw [hsucc]; exact Bld.bytes hB3⟩
      case measure => simp [intOf]; omega
    · have hkl : k = s.types.length := by omega
      have hltI : ¬ (k : Int) < (s.types.length : Int) := by omega
      subst hkl
      obtain ⟨wo, hwo⟩ : ∃ wo : World, wo = wr := ⟨_, rfl⟩
      subst hwo
      replace b0 := cell_later hb b0
      replace b1 := cell_later hb b1
      have hCv := ClassesV.keep hCv (hb.mono hbw1.size)
      clear hTv hlk
      generalize tyK s.types s.types.length = m at *
      have hm0 : clK m s.classes 0 = m := by simp [clK, Idn.clLines]
      rw [← hm0] at hB
      clear hm0
      go_wp2
      clear hltI
      go_loopw [30] (fun i wr => ∃ k : Nat, k ≤ s.classes.length ∧ i = .int .i64 k ∧ Below w1.heap.size wo wr ∧ Bld w1.heap.size w1.heap.size (Lib.byteCells (clK m s.classes k)) wr) (fun i _ => s.classes.length - (intOf i).toNat)
      case atStart => exact ⟨0, Nat.zero_le _, rfl, Below.refl _ _, hB⟩
      case round =>
        obtain ⟨k, hk, rfl, hb', hB'⟩ := hrel
        clear hB
        have hbt := hb.trans hb'
        by_cases hlt : k < s.classes.length
        · obtain ⟨b, off, vm, vn, rfl, hbl, c0, c1, c2, c3, hm, hn'⟩ := ClassesV.cell (ClassesV.keep hCv (hb'.mono hbw1.size)) hlt
          obtain ⟨g1, g2, g3, g4, g5, g6⟩ := h6.2 s.classes[k] (List.getElem_mem hlt)
          obtain ⟨Am, cm, rfl, hcm⟩ := SlV.shape hm
          obtain ⟨An, cn, rfl, hcn⟩ := SlV.shape hn'
          have hltI : (k : Int) < (s.classes.length : Int) := by omega
          have ba := (Below.refl wr.heap.size wr).alloc (Nat.le_refl _) (.cells #[.string (B s.classes[k].name), .string (B s.classes[k].super), .slice Am s.classes[k].must.length cm, .slice An s.classes[k].may.length cn] 50)
          have hwr : w.heap.size ≤ wr.heap.size := Nat.le_trans hbw1.size hbt.size
          have hCL := fun W (hW : Below wr.heap.size wr W) => classLine_any _ _ s.classes[k] W (SlV.mono (SlV.keep hm (hW.mono hwr)) (Nat.le_trans hwr hW.size)) (SlV.mono (SlV.keep hn' (hW.mono hwr)) (Nat.le_trans hwr hW.size)) g1 g2 g3 g4 g5 g6
          have hB1 := hB'.keep ba
          have hl2 := length_clLine s.classes[k] g1 g2 g3 g4 g5 g6
          have hadd := fun W => run_add (P := Tryz.prog) (a := Idn.clLine s.classes[k]) (b := [10]) (t := ⟨#[10]⟩) rfl rfl (by rw [List.length_append] at hl2; omega) W
          have hsucc := clK_succ m s.classes k hlt
          have hlm : (clK m s.classes k).length ≤ 64000000000 := by
            unfold clK Idn.clLines
            have h1 := flat_len8 (fun t => Idn.clLine t ++ [10]) 1000000000 (s.classes.take k) (fun t ht => by
              obtain ⟨g1, g2, g3, g4, g5, g6⟩ := h6.2 t (List.mem_of_mem_take ht)
              exact length_clLine t g1 g2 g3 g4 g5 g6)
            have h2 : (s.classes.take k).length ≤ 32 := by rw [List.length_take]; omega
            have h3 : (s.classes.take k).length * 1000000000 ≤ 32 * 1000000000 := Nat.mul_le_mul_right _ h2
            have h4 : s.types.length * 2000000 ≤ 64 * 2000000 := Nat.mul_le_mul_right _ hT64.1
            rw [List.length_append]
            omega
          clear hB' hm hn' g1 g2 g3 g4 g5 g6
          go_wp2_with fail
          refine (hCL _ ba).mono ?_
          rintro e w2 ⟨rfl, hb2⟩
          have hbw2 : Below w1.heap.size wo w2 := (hb'.trans (ba.mono hbt.size)).trans (hb2.mono (by have := hbt.size; have := ba.size; omega))
          have hw2s : w1.heap.size ≤ w2.heap.size := (hb.trans hbw2).size
          have hWS := writeString_any w1.heap.size w1.heap.size (Lib.byteCells (clK m s.classes k)) (B (Idn.clLine s.classes[k] ++ [10])) w2 (hB1.keep hb2) (by rw [byteCells_len, Idn.size_B]; omega) hw2s
          clear hCL hB1 hb2 ba
          go_wp2_with fail
          refine hWS.mono ?_
          rintro e w3 ⟨rfl, hB3, hb3, _⟩
          clear hWS
          go_wp2
          go_roundw
          case rel => exact ⟨k + 1, by omega, by go_num, hbw2.trans hb3, by rw [hsucc]; exact Bld.bytes hB3⟩
          case measure => simp [intOf]; omega
        · have hkl : k = s.classes.length := by omega
          have hltI : ¬ (k : Int) < (s.classes.length : Int) := by omega
          subst hkl
          have hLen := fun W hW => Tryz.Builder_Len_f w1.heap.size w1.heap.size (Lib.byteCells (clK m s.classes s.classes.length)) W hW
          have hStr := Tryz.Builder_String_any_k w1.heap.size w1.heap.size (clK m s.classes s.classes.length) wr hB' hbt.size
          rw [byteCells_len] at hLen
          generalize clK m s.classes s.classes.length = q at *
          by_cases h4 : 4096 < q.length
          · have HG : Hid (r = ([], 3)) := by show _ = _; rw [HF.out, if_pos (decide_eq_true h4)]
            have h4' : (4096 : Int) < (q.length : Int) := by omega
            clear h4 HF
            go_wp2_with (go_at_call 59; refine (hLen _ hB').mono ?_; rintro e w3 ⟨rfl, rfl⟩)
            go_ret2
            exact ⟨by rw [HG.out]; rfl, hbw1.trans (hbt.mono hbw1.size)⟩
          · have HG : Hid (r = (q, 0)) := by show _ = _; rw [HF.out, if_neg (by simpa using h4)]
            have h4' : (q.length : Int) ≤ (4096 : Int) := by omega
            clear h4 HF
            go_wp2_with (go_at_call 59; refine (hLen _ hB').mono ?_; rintro e w3 ⟨rfl, rfl⟩)
            go_wp2_with fail
            refine hStr.mono ?_
            rintro e w4 ⟨rfl, _, hb4, _⟩
            go_wp2
            go_ret2
            exact ⟨by rw [HG.out]; rfl, hbw1.trans ((hbt.trans hb4).mono hbw1.size)⟩
theorem schText_any (v : Value) (s : Idn.Sch) (w : World) (hv : SchV w w.heap.size v s) (hs : SSm s) (h6 : SSm6 s) :
    Calls Tryz.prog 17 #[v] w fun e w' => e = .returned (.tuple #[.string (B (Idn.sText s).1), .int .i64 (Idn.sText s).2]) ∧ Below w.heap.size w w' := schText_gen v s w hv hs fun _ => h6
end Go.Proofs.YtnikolglippfmaaGreatDoor
/- identityref07: lower. -/
namespace Go.Proofs.YtnikolglippfmaaGreatDoor
open Go.RowKit Go.Sort
open Idn (L B Bs drop_L take_L size_L)
theorem SlV.cutFrom {α : Type} {E : α → List Value → Prop} {w : World} {hi size n c : Nat} {l : List α} {A : Option Addr} (h : SlV E w hi size (.slice A n c) l) (k : Nat) (hk : k ≤ l.length) :
    SlV E w hi size (.slice (if c = k then A else A.map (·.add (k * size))) (n - k) (c - k)) (l.drop k) := by
  obtain ⟨A', c', hv, hc, h⟩ := h
  injection hv with hA hn hcc
  subst hA hcc hn
  refine ⟨_, _, by rw [List.length_drop], by rw [List.length_drop]; omega, fun hp => ?_⟩
  rw [List.length_drop] at hp
  obtain ⟨b, off, hA, hb, hx⟩ := h (by omega)
  subst hA
  refine ⟨b, off + k * size, ?_, hb, fun i x hix => ?_⟩
  · rw [if_neg (by omega)]
    simp only [Option.map_some, Addr.add]
    split
    · rename_i e; rw [e]; rfl
    · rfl
  · rw [List.getElem?_drop] at hix
    obtain ⟨cs, h1, h2, h3⟩ := hx (k + i) x hix
    refine ⟨cs, h1, h2, fun j u hj => ?_⟩
    have := h3 j u hj
    rw [show off + k * size + (i * size + j) = off + ((k + i) * size + j) by rw [Nat.add_mul]; omega]
    exact this
theorem run_size_str (W : World) : (sizeOf (Tryz.prog.elem 48)).run Tryz.prog W = .ok 1 W := by
  obtain ⟨i, hi, _, h1, _⟩ := info_parts info_str
  have e : Tryz.prog.elem 48 = 9 := by kernel_rfl
  rw [e]
  simp [sizeOf, typeInfo, hi, h1]
theorem take_run {w : World} {hi n c : Nat} {l : List Bs} {A : Option Addr} (h : StrsV w hi (.slice A n c) l) {j : Nat} (hj : j ≤ l.length) :
    ∃ A' c', (∀ W : World, (Instr.slice 48 (.slice A n c) none (some (.int .i64 (j : Int))) none).run Tryz.prog W = .ok (.slice A' j c') W) ∧ StrsV w hi (.slice A' j c') (l.take j) := by
  obtain ⟨A0, c0, hv, hc⟩ := SlV.shape h
  injection hv with _ hn hcc
  subst hcc
  refine ⟨A, c, fun W => ?_, SlV.take h j hj⟩
  rw [run_slice_h W 48 A n c (by kernel_rfl) .i64 (j : Int) (by omega) (by omega), run_size_str]
  simp only [Result.andThen_ok, sliced, Int.toNat_natCast, Nat.sub_zero]
  congr 2
  split
  · rfl
  · cases A with
    | none => rfl
    | some a => simp [Addr.add]
theorem drop_run {w : World} {hi n c : Nat} {l : List Bs} {A : Option Addr} (h : StrsV w hi (.slice A n c) l) {j : Nat} (hj : j ≤ l.length) :
    ∃ A' c', (∀ W : World, (Instr.slice 48 (.slice A n c) (some (.int .i64 (j : Int))) none none).run Tryz.prog W = .ok (.slice A' (n - j) c') W) ∧ StrsV w hi (.slice A' (n - j) c') (l.drop j) := by
  have hn := SlV.len h
  refine ⟨_, _, fun W => ?_, SlV.cutFrom h j hj⟩
  rw [run_slice_l W 48 A n c (by kernel_rfl) .i64 (j : Int) (by omega) (by omega), run_size_str]
  simp only [Result.andThen_ok, sliced, Int.toNat_natCast]
theorem own_cast {w : World} {base : Nat} {e : TypeId} {size : Nat} {v : Value} {n m : Nat} {xs ys : List Value} (h : w.ownsRow base e size v n xs) (hn : m = n) (hx : ys = xs) : w.ownsRow base e size v m ys := by subst hn hx; exact h
def insK (l : List Bs) (acc : List Bs) : List Bs := l.foldl (fun a n => Idn.insS n a) acc
theorem insK_step (l : List Bs) (k : Nat) (hk : k < l.length) (acc : List Bs) : insK ((l.drop k).map Idn.lower) acc = insK ((l.drop (k + 1)).map Idn.lower) (Idn.insS (Idn.lower l[k]) acc) := by
  rw [List.drop_eq_getElem_cons hk]; rfl
theorem merged_ins (l : List Bs) : merged l = insK (l.map Idn.lower) [] := Idn.law (l.map Idn.lower)
theorem insS_len (n : Bs) : ∀ l, (Idn.insS n l).length ≤ l.length + 1
  | [] => by simp [Idn.insS]
  | y :: l => by
    have := insS_len n l
    unfold Idn.insS
    split
    · simp; omega
    · split <;> simp
set_option maxHeartbeats 1000000 in
set_option maxRecDepth 100000 in
theorem r_low_any (v : Value) (l : List Bs) (w : World) (hv : StrsV w w.heap.size v l) (hs : l.length ≤ 1000000) (hx : ∀ x ∈ l, x.length ≤ 1000000000) :
    Calls Tryz.prog 105 #[v] w (RetS w (merged l)) := by
  obtain ⟨A, c, rfl, hc⟩ := hv.shape
  have HR : Hid (merged l = insK (l.map Idn.lower) []) := merged_ins l
  generalize merged l = res at *
  go_enter Tryz.func105, Tryz.ntmps105
  go_wp2
  go_loopw [3, 4] (fun u i wr => ∃ (k : Nat) (acc : List Bs), k ≤ l.length ∧ i = .int .i64 k ∧ wr.ownsRow w.heap.size 9 1 u acc.length (acc.map sv) ∧ Below w.heap.size w wr ∧ Hid (res = insK ((l.drop k).map Idn.lower) acc) ∧ acc.length ≤ k) (fun _ i _ => l.length - (intOf i).toNat)
  case atStart => exact ⟨0, [], Nat.zero_le _, rfl, World.ownsRow_nil _ _ _ _, Below.refl _ _, by show _ = _; rw [HR.out]; simp, Nat.le_refl _⟩
  case round =>
    obtain ⟨k, acc, hk, rfl, hown, hb, hinv, hal⟩ := hrel
    by_cases hlt : k < l.length
    · obtain ⟨b, off, rfl, hbl, c0⟩ := StrsV.cell (SlV.keep hv hb) hlt
      have hltI : (k : Int) < (l.length : Int) := by omega
      have hsz := hx l[k] (List.getElem_mem hlt)
      have hL := r_lower_any (B l[k]) wr (by rw [Idn.size_B]; omega)
      rw [Idn.L_B] at hL
      have hst := insK_step l k hlt acc
      generalize Idn.lower l[k] = n at *
      have HST : Hid (res = insK ((l.drop (k + 1)).map Idn.lower) (Idn.insS n acc)) := by show _ = _; rw [hinv.out, hst]
      clear hst hinv
      obtain ⟨Au, cu, hu⟩ := own_shape hown
      subst hu
      go_wp2_with fail
      refine hL.mono ?_
      rintro e w1 ⟨rfl, hb1⟩
      have hown1 := own_below hown hb1
      have hbw1 := hb.trans (hb1.mono hb.size)
      have hS := StrsV.of_own hown1
      clear hL hown c0
      go_upto_block 2 with fail
      go_cut [6] (fun t wx => ∃ j : Nat, t = .int .i64 j ∧ j ≤ acc.length ∧ Below w1.heap.size w1 wx ∧ Hid (∀ (i : Nat) (x : Bs), i < j → acc[i]? = some x → x < n) ∧ Hid (∀ x, acc[j]? = some x → ¬ x < n))
      case first =>
        go_wp2_with fail
        go_loopw [6] (fun t wx => ∃ j : Nat, j ≤ acc.length ∧ t = .int .i64 j ∧ Below w1.heap.size w1 wx ∧ Hid (∀ (i : Nat) (x : Bs), i < j → acc[i]? = some x → x < n)) (fun t _ => acc.length - (intOf t).toNat)
        case atStart => exact ⟨0, Nat.zero_le _, rfl, Below.refl _ _, fun i x h => absurd h (by omega)⟩
        case round =>
          obtain ⟨j, hj, rfl, hbj, hbef⟩ := hrel
          by_cases hjl : j < acc.length
          · obtain ⟨g, o, rfl, hgl, d0⟩ := StrsV.cell (SlV.keep hS hbj) hjl
            have hjI : (j : Int) < (acc.length : Int) := by omega
            have hcmp : Op.bytesLess (B acc[j]).toList (B n).toList = decide (acc[j] < n) := by rw [bytesLess_eq, toList_L, toList_L, Idn.L_B, Idn.L_B]
            by_cases hlt2 : acc[j] < n
            · have HB : Hid (∀ (i : Nat) (x : Bs), i < j + 1 → acc[i]? = some x → x < n) := by
                intro i x hi hxi
                by_cases e : i = j
                · subst e
                  rw [List.getElem?_eq_getElem hjl] at hxi
                  injection hxi with hxi
                  exact hxi ▸ hlt2
                · exact hbef.out i x (by omega) hxi
              rw [decide_eq_true hlt2] at hcmp
              clear hbef hlt2
              go_wp2
              go_roundw
              case rel => exact ⟨j + 1, by omega, by go_num, hbj, HB⟩
              case measure => simp [intOf]; omega
            · have HA : Hid (∀ x, acc[j]? = some x → ¬ x < n) := by
                intro x hxj
                rw [List.getElem?_eq_getElem hjl] at hxj
                injection hxj with hxj
                exact hxj ▸ hlt2
              rw [decide_eq_false hlt2] at hcmp
              clear hlt2
              go_wp2
              go_meet
              exact ⟨j, rfl, hj, hbj, hbef, HA⟩
          · have hjI : ¬ (j : Int) < (acc.length : Int) := by omega
            have HA : Hid (∀ x, acc[j]? = some x → ¬ x < n) := by
              intro x hxj
              rw [List.getElem?_eq_none (by omega)] at hxj
              cases hxj
            go_wp2
            go_meet
            exact ⟨j, rfl, hj, hbj, hbef, HA⟩
      case rest =>
        obtain ⟨j, rfl, hj, hbc, hbef, hat⟩ := hcut
        have hownc := own_below hown1 hbc
        have hSc := StrsV.of_own hownc
        have hbwc := hbw1.trans (hbc.mono hbw1.size)
        clear hS hown1 hbw1
        obtain ⟨A1, c1, hT, hT1⟩ := take_run hSc hj
        obtain ⟨A2, c2, hD, hD1⟩ := drop_run hSc hj
        have hwc := hbwc.size
        have htl : (acc.take j).length = j := by rw [List.length_take]; omega
        have hdl : (acc.drop j).length = acc.length - j := List.length_drop
        have hil := insS_len n acc
        have hcase : (∃ h : j < acc.length, acc[j] = n) ∨ (∃ h : j < acc.length, ¬ acc[j] = n) ∨ ¬ j < acc.length := by
          by_cases h : j < acc.length
          · by_cases e : acc[j] = n
            · exact .inl ⟨h, e⟩
            · exact .inr (.inl ⟨h, e⟩)
          · exact .inr (.inr h)
        rcases hcase with ⟨hjl, e⟩ | hcase
        · obtain ⟨g, o, hA, hgl, d0⟩ := StrsV.cell hSc hjl
          have hjI : (j : Int) < (acc.length : Int) := by omega
          have heq : ((B acc[j]).toList == (B n).toList) = true := str_is (by rw [Idn.L_B, Idn.L_B, e])
          have hI : Hid (Idn.insS n acc = acc) := Idn.insS_here n acc j hbef.out (by rw [List.getElem?_eq_getElem hjl, e])
          subst hA
          clear e hbef hat hT hD hT1 hD1 htl hdl
          go_wp2
          go_roundw
          case rel => exact ⟨k + 1, acc, by omega, by go_num, hownc, hbwc, by show _ = _; rw [HST.out, hI.out], by omega⟩
          case measure => simp [intOf]; omega
        · have hI : Hid (Idn.insS n acc = acc.take j ++ n :: acc.drop j) := Idn.insS_at n acc j hj hbef.out (fun x hx => by
            rcases hcase with ⟨hjl, e⟩ | hjl
            · exact ⟨hat.out x hx, fun ex => e (by rw [List.getElem?_eq_getElem hjl] at hx; injection hx with hx; rw [hx, ex])⟩
            · rw [List.getElem?_eq_none (by omega)] at hx; cases hx)
          have HTL := Lib.hid htl
          have HDL := Lib.hid hdl
          clear htl hdl
          clear hbef hat
          rcases hcase with ⟨hjl, e⟩ | hjl
          · obtain ⟨g, o, hA, hgl, d0⟩ := StrsV.cell hSc hjl
            have hjI : (j : Int) < (acc.length : Int) := by omega
            have heq : ((B acc[j]).toList == (B n).toList) = false := str_not (by rw [Idn.L_B, Idn.L_B]; exact e)
            subst hA
            clear e
            go_upto_region 10 with fail
            clear hjI
            go_wp2_with (at_builtin; refine wpList_appendS rfl _ _ 48 rfl wc.heap.size 9 Tryz.underlying48 info_str _ 0 [] (World.ownsRow_nil _ _ _ _) rfl _ (acc.take j) _ hT1 (by first | rfl | simp) (by rw [HTL.out]; omega) (Nat.le_refl _) ?_)
            intro v1 x1 ho1 hx1 _ _
            replace ho1 : x1.ownsRow wc.heap.size 9 1 v1 j ((acc.take j).map sv) := by rw [List.map_take]; exact ho1
            have hD2 := SlV.keep hD1 hx1
            have hs1 := hx1.size
            go_wp2_with (at_builtin; refine wpList_push x1 rfl _ _ 48 rfl wc.heap.size 9 (.string ⟨#[]⟩) 1 16 Tryz.underlying48 info_str rfl (by decide) _ _ _ ho1 rfl [.string (B n)] rfl rfl (by intro u hu; simp at hu; subst hu; rfl) (by omega) hs1 ?_ rfl)
            intro v2 x2 ho2 _ _ hx2 _
            replace ho2 : x2.ownsRow wc.heap.size 9 1 v2 (j + 1) ((acc.take j).map sv ++ [.string (B n)]) := by rw [List.map_take]; exact ho2
            have hD3 := SlV.keep hD2 hx2
            have hx12 := hx1.trans hx2
            have hs2 := hx12.size
            go_wp2_with (at_builtin; refine wpList_appendS rfl _ _ 48 rfl wc.heap.size 9 Tryz.underlying48 info_str _ _ _ ho2 rfl _ (acc.drop j) _ hD3 (by first | rfl | simp) (by rw [HDL.out]; omega) hs2 ?_)
            intro v3 x3 ho3 hx3 _ _
            have hx13 := hx12.trans hx3
            go_wp2
            go_roundw
            case rel =>
              refine ⟨k + 1, Idn.insS n acc, by omega, by go_num, own_base (own_cast ho3 ?_ ?_) hwc, hbwc.trans (hx13.mono hwc), HST, by omega⟩
              · rw [hI.out, List.length_append, List.length_cons, HTL.out, HDL.out]; omega
              · rw [hI.out]; simp [sv]
            case measure => simp [intOf]; omega
          · have hjI : ¬ (j : Int) < (acc.length : Int) := by omega
            go_upto_region 10 with fail
            clear hjI
            go_wp2_with (at_builtin; refine wpList_appendS rfl _ _ 48 rfl wc.heap.size 9 Tryz.underlying48 info_str _ 0 [] (World.ownsRow_nil _ _ _ _) rfl _ (acc.take j) _ hT1 (by first | rfl | simp) (by rw [HTL.out]; omega) (Nat.le_refl _) ?_)
            intro v1 x1 ho1 hx1 _ _
            replace ho1 : x1.ownsRow wc.heap.size 9 1 v1 j ((acc.take j).map sv) := by rw [List.map_take]; exact ho1
            have hD2 := SlV.keep hD1 hx1
            have hs1 := hx1.size
            go_wp2_with (at_builtin; refine wpList_push x1 rfl _ _ 48 rfl wc.heap.size 9 (.string ⟨#[]⟩) 1 16 Tryz.underlying48 info_str rfl (by decide) _ _ _ ho1 rfl [.string (B n)] rfl rfl (by intro u hu; simp at hu; subst hu; rfl) (by omega) hs1 ?_ rfl)
            intro v2 x2 ho2 _ _ hx2 _
            replace ho2 : x2.ownsRow wc.heap.size 9 1 v2 (j + 1) ((acc.take j).map sv ++ [.string (B n)]) := by rw [List.map_take]; exact ho2
            have hD3 := SlV.keep hD2 hx2
            have hx12 := hx1.trans hx2
            have hs2 := hx12.size
            go_wp2_with (at_builtin; refine wpList_appendS rfl _ _ 48 rfl wc.heap.size 9 Tryz.underlying48 info_str _ _ _ ho2 rfl _ (acc.drop j) _ hD3 (by first | rfl | simp) (by rw [HDL.out]; omega) hs2 ?_)
            intro v3 x3 ho3 hx3 _ _
            have hx13 := hx12.trans hx3
            go_wp2
            go_roundw
            case rel =>
              refine ⟨k + 1, Idn.insS n acc, by omega, by go_num, own_base (own_cast ho3 ?_ ?_) hwc, hbwc.trans (hx13.mono hwc), HST, by omega⟩
              · rw [hI.out, List.length_append, List.length_cons, HTL.out, HDL.out]; omega
              · rw [hI.out]; simp [sv]
            case measure => simp [intOf]; omega
    · have hltI : ¬ (k : Int) < (l.length : Int) := by omega
      have HF : Hid (res = acc) := by show _ = _; rw [hinv.out, List.drop_eq_nil_of_le (by omega)]; rfl
      clear hinv
      go_wp2
      go_ret
      exact ⟨_, rfl, by rw [HF.out]; exact hown, hb⟩
end Go.Proofs.YtnikolglippfmaaGreatDoor
