/- Part 15 of the proof that SchemaOrders: the package variables hold what the program lays; nothing else is asked. -/
import Derived.Test.YtnaaoilflokmfaaGreatDoorOdr04
import Derived.Test.YtnaaoilflokmfaaGreatDoorOdr07
import Derived.Test.YtnaaoilflokmfaaGreatDoorOdr12
import Derived.Test.YtnaaoilflokmfaaGreatDoorOdr13
import Derived.Test.YtnaaoilflokmfaaGreatDoorOdr14
import Derived.Sort.Walk0
/- schema.Lineage. -/
namespace Go.Proofs.YtnaaoilflokmfaaGreatDoor
open Go.RowKit Go.Sort
open Idn (L B Bs drop_L take_L size_L)

theorem dec_sound (s : Idn.Sch) : Idn.Dec (sound s).classes := by
  unfold sound
  by_cases h : Idn.sCheck s = 0
  · rw [if_pos h]; exact Idn.dec_of s h
  · rw [if_neg h]; exact Idn.dec_nil
theorem ssm_sound {s : Idn.Sch} (h : SSm s) : SSm (sound s) := by
  unfold sound
  by_cases h' : Idn.sCheck s = 0
  · rw [if_pos h']; exact h
  · rw [if_neg h']; exact ⟨⟨by simp, by simp⟩, ⟨by simp, by simp⟩⟩
/-- the classes of a lineage -/
def linC (s : Idn.Sch) (n : Bs) : List Idn.Cl := (Idn.lin s n).filterMap (s.classes[·]?)
theorem linK_len (l : List Idn.Cl) : ∀ (f : Nat) (o : Option Nat), (Idn.linK l f o).length ≤ f
  | 0, _ => Nat.le_refl _
  | f + 1, none => by simp [Idn.linK]
  | f + 1, some k => by rw [Idn.linK_some]; have := linK_len l f (Idn.up1 l k); simp; omega
theorem linC_len (s : Idn.Sch) (n : Bs) : (linC s n).length ≤ s.classes.length :=
  Nat.le_trans (List.length_filterMap_le _ _) (linK_len _ _ _)

set_option maxHeartbeats 1000000 in
set_option maxRecDepth 100000 in
theorem schLineage_any (v : Value) (s : Idn.Sch) (n : ByteArray) (w : World) (hv : SchV w w.heap.size v s) (hs : SSm s) (hn : n.size ≤ 1000000000) :
    Calls Tryz.prog 21 #[v, .string n] w (RetS w ((linC (sound s) (L n)).map (·.name))) := by
  have hE := fun W (hW : Below w.heap.size w W) => look_any v s W (SchV.mono (SchV.keep hv hW) hW.size) hs
  obtain ⟨a, b, rfl, hT, hC⟩ := hv
  obtain ⟨A, ca, rfl, hca⟩ := SlV.shape hT
  obtain ⟨A', cb, rfl, hcb⟩ := SlV.shape hC
  clear hT hC
  have hLn := linC_len (sound s) (L n)
  have hsl := (ssm_sound hs).2.1
  generalize hgl : linC (sound s) (L n) = l at *
  have Hgl := Lib.hid hgl
  clear hgl
  go_enter Tryz.func21, Tryz.ntmps21
  go_wp2_with fail
  with_reducible refine gen1 (R := fun W => Calls Tryz.prog 36 _ W _) ?_
  intro W hbW hszW _ _
  refine (hE W hbW).mono ?_
  rintro e w1 ⟨m1, m2, rfl, hb1, hk⟩
  clear hE
  have hLin := lineage_any m1 m2 (sound s) W.heap.size n w1 hk hb1.size (dec_sound s) (ssm_sound hs) hn
  have hbw1 := hbW.trans (hb1.mono hbW.size)
  go_wp2_with fail
  refine hLin.mono ?_
  rintro e w2 ⟨vc, rfl, hb2, hcl⟩
  have hbw2 := hbw1.trans (hb2.mono hbw1.size)
  change ClassesV w2 w2.heap.size vc (linC (sound s) (L n)) at hcl
  rw [Hgl.out] at hcl
  clear hLin hk
  obtain ⟨AA, cc, rfl, hcc⟩ := SlV.shape hcl
  go_wp2
  go_loopw [5, 13] (fun v i wr => ∃ k : Nat, k ≤ l.length ∧ i = .int .i64 k ∧ wr.ownsRow w2.heap.size 9 1 v k (((l.take k).map (·.name)).map sv) ∧ Below w2.heap.size w2 wr) (fun _ i _ => l.length - (intOf i).toNat)
  case atStart => exact ⟨0, Nat.zero_le _, rfl, World.ownsRow_nil _ _ _ _, Below.refl _ _⟩
  case round =>
    obtain ⟨k, hk, rfl, hown, hb⟩ := hrel
    by_cases hlt : k < l.length
    · obtain ⟨b, off, vm, vn, rfl, hbl, c0, c1, c2, c3, hm, hn'⟩ := ClassesV.cell (ClassesV.keep hcl hb) hlt
      obtain ⟨Am, cm, rfl, hcm⟩ := SlV.shape hm
      obtain ⟨An, cn, rfl, hcn⟩ := SlV.shape hn'
      have hltI : (k : Int) < (l.length : Int) := by omega
      have hbs := hb.size
      have ba := (Below.refl wr.heap.size wr).alloc (Nat.le_refl _) (.cells #[.string (B l[k].name), .string (B l[k].super), .slice Am l[k].must.length cm, .slice An l[k].may.length cn] 48)
      have hown1 := own_below hown ba
      have hbw := hb.trans (ba.mono hb.size)
      have hbs1 := hbw.size
      have hsza : (wr.alloc (.cells #[.string (B l[k].name), .string (B l[k].super), .slice Am l[k].must.length cm, .slice An l[k].may.length cn] 48)).heap.size = wr.heap.size + 1 := by simp
      have Hsza := Lib.hid hsza
      clear hm hn' hown ba hsza
      go_wp2_with (at_builtin; refine wpList_push (wr.alloc (.cells #[.string (B l[k].name), .string (B l[k].super), .slice Am l[k].must.length cm, .slice An l[k].may.length cn] 48)) rfl _ _ 46 rfl w2.heap.size 9 (.string ⟨#[]⟩) 1 16 Tryz.underlying46 info_str rfl (by decide) _ k _ hown1 rfl [.string (B l[k].name)] (by rw [Hsza.out]; rfl) rfl (by intro u hu; simp at hu; subst hu; rfl) (by omega) hbs1 ?_ rfl)
      intro v' w1' hown' _ _ hb' _
      clear hown1
      go_wp2
      go_roundw
      case rel =>
        refine ⟨k + 1, by omega, by go_num, ?_, hbw.trans hb'⟩
        rw [List.take_succ_eq_append_getElem hlt, List.map_append, List.map_append]
        simpa [sv] using hown'
      case measure => simp [intOf]; omega
    · have hkl : k = l.length := by omega
      have hltI : ¬ (k : Int) < (l.length : Int) := by omega
      subst hkl
      rw [List.take_length] at hown
      go_wp2
      go_ret
      have hfin := own_base hown hbw2.size
      refine ⟨u5, rfl, ?_, hbw2.trans (hb.mono hbw2.size)⟩
      rw [List.length_map]
      exact hfin
end Go.Proofs.YtnaaoilflokmfaaGreatDoor
/- schema: must, may, Must, May. -/
namespace Go.Proofs.YtnaaoilflokmfaaGreatDoor
open Go.RowKit Go.Sort
open Idn (L B Bs drop_L take_L size_L)

/-- bounds of a sound schema -/
def Bd (s : Idn.Sch) : Prop := s.classes.length ≤ 32 ∧ ∀ c ∈ s.classes, c.must.length ≤ 64 ∧ c.may.length ≤ 64
theorem clErr_lens {ts : List Idn.AT} {p : List Idn.Cl} {c : Idn.Cl} (h : Idn.clErr ts p c = 0) : c.must.length ≤ 64 ∧ c.may.length ≤ 64 := by
  unfold Idn.clErr at h
  split at h
  · cases h
  · split at h
    · cases h
    · split at h
      · cases h
      · split at h
        · cases h
        · rename_i hn
          simp at hn
          omega
theorem bd_sound (s : Idn.Sch) : Bd (sound s) := by
  unfold sound
  by_cases h : Idn.sCheck s = 0
  · rw [if_pos h]
    have hl : ¬ ((decide (64 < s.types.length) || decide (32 < s.classes.length)) = true) := by
      intro he; unfold Idn.sCheck at h; rw [if_pos he] at h; cases h
    have hc : Idn.clsErr s.types [] s.classes = 0 := by
      unfold Idn.sCheck at h
      rw [if_neg hl] at h
      split at h
      · rename_i hn; simp [h] at hn
      · split at h
        · exact h
        · rename_i hn; simpa using hn
    simp at hl
    refine ⟨by omega, fun c hc' => ?_⟩
    obtain ⟨k, hk, rfl⟩ := List.getElem_of_mem hc'
    exact clErr_lens (Idn.clsErr_zero _ _ _ hc k hk)
  · rw [if_neg h]
    exact ⟨by simp, by simp⟩
theorem linS_len (s : Idn.Sch) (n : Bs) : ((Idn.lin s n).filterMap (s.classes[·]?)).length ≤ s.classes.length := linC_len s n
theorem linS_mem {s : Idn.Sch} {n : Bs} {c : Idn.Cl} (h : c ∈ (Idn.lin s n).filterMap (s.classes[·]?)) : c ∈ s.classes := by
  obtain ⟨k, _, hk⟩ := List.mem_filterMap.1 h
  exact List.mem_of_getElem? hk
theorem flat_len {α : Type} (f : α → List Bs) (c : Nat) : ∀ (l : List α), (∀ x ∈ l, (f x).length ≤ c) → (l.flatMap f).length ≤ l.length * c
  | [], _ => by simp
  | x :: l, h => by
    have := flat_len f c l (fun y hy => h y (List.mem_cons_of_mem _ hy))
    have h0 := h x List.mem_cons_self
    simp only [List.flatMap_cons, List.length_append, List.length_cons]
    rw [Nat.add_mul]; omega
theorem take_flat {α : Type} (f : α → List Bs) (l : List α) (k : Nat) (hk : k < l.length) : (l.take (k + 1)).flatMap f = (l.take k).flatMap f ++ f l[k] := by
  rw [List.take_succ_eq_append_getElem hk, List.flatMap_append]; simp

/-- the lists of the first k classes, joined -/
def flatK (f : Idn.Cl → List Bs) (l : List Idn.Cl) (k : Nat) : List Bs := (l.take k).flatMap f
theorem flatK_zero (f : Idn.Cl → List Bs) (l : List Idn.Cl) : flatK f l 0 = [] := rfl
theorem flatK_succ (f : Idn.Cl → List Bs) (l : List Idn.Cl) (k : Nat) (hk : k < l.length) : flatK f l (k + 1) = flatK f l k ++ f l[k] := take_flat f l k hk
theorem flatK_all (f : Idn.Cl → List Bs) (l : List Idn.Cl) : flatK f l l.length = l.flatMap f := by unfold flatK; rw [List.take_length]
def catK (m : List Bs) (f : Idn.Cl → List Bs) (l : List Idn.Cl) (k : Nat) : List Bs := m ++ flatK f l k
theorem catK_zero (m : List Bs) (f : Idn.Cl → List Bs) (l : List Idn.Cl) : catK m f l 0 = m := by rw [catK, flatK_zero, List.append_nil]
theorem catK_succ (m : List Bs) (f : Idn.Cl → List Bs) (l : List Idn.Cl) (k : Nat) (hk : k < l.length) : catK m f l (k + 1) = catK m f l k ++ f l[k] := by rw [catK, flatK_succ _ _ _ hk, ← List.append_assoc]; rfl
theorem catK_all (m : List Bs) (f : Idn.Cl → List Bs) (l : List Idn.Cl) : catK m f l l.length = m ++ l.flatMap f := by rw [catK, flatK_all]
theorem catK_lenEq (m : List Bs) (f : Idn.Cl → List Bs) (l : List Idn.Cl) (k : Nat) : (catK m f l k).length = m.length + (flatK f l k).length := by rw [catK, List.length_append]
theorem flatK_len (f : Idn.Cl → List Bs) (l : List Idn.Cl) (c k : Nat) (h : ∀ x ∈ l, (f x).length ≤ c) : (flatK f l k).length ≤ l.length * c := by
  have h1 := flat_len f c (l.take k) (fun x hx => h x (List.mem_of_mem_take hx))
  have h2 : (l.take k).length ≤ l.length := by rw [List.length_take]; omega
  exact Nat.le_trans h1 (Nat.mul_le_mul_right c h2)

/-- the attributes that a class requires, of a schema that is sound -/
def mustL (s : Idn.Sch) (n : Bs) : List Bs := merged (((Idn.lin s n).filterMap (s.classes[·]?)).flatMap (·.must))
def mayL (s : Idn.Sch) (n : Bs) : List Bs := merged (mustL s n ++ ((Idn.lin s n).filterMap (s.classes[·]?)).flatMap (·.may))

set_option maxHeartbeats 1000000 in
set_option maxRecDepth 100000 in
theorem must_any (m1 m2 : Value) (s : Idn.Sch) (hi : Nat) (n : ByteArray) (w : World) (hk : KnV w hi m1 m2 s) (hh : hi ≤ w.heap.size) (hd : Idn.Dec s.classes) (hs : SSm s) (hbd : Bd s) (hn : n.size ≤ 1000000000) :
    Calls Tryz.prog 42 #[.agg #[m1, m2], .string n] w (RetS w (mustL s (L n))) := by
  obtain ⟨o1, o2, rfl, rfl⟩ := hk.shape
  have hLin := fun W (hW : Below w.heap.size w W) => lineage_any _ _ s hi n W (hk.keep hW hh) (Nat.le_trans hh hW.size) hd hs hn
  have hlen := linS_len s (L n)
  have hmem := fun c => linS_mem (s := s) (n := L n) (c := c)
  have hres : mustL s (L n) = merged (((Idn.lin s (L n)).filterMap (s.classes[·]?)).flatMap (·.must)) := rfl
  clear hk
  generalize (Idn.lin s (L n)).filterMap (s.classes[·]?) = l at *
  have hc64 : ∀ c ∈ l, c.must.length ≤ 64 := fun c hc => (hbd.2 c (hmem c hc)).1
  have hc9 : ∀ x ∈ l.flatMap (·.must), x.length ≤ 1000000000 := fun x hx => by
    obtain ⟨c, hc, hx⟩ := List.mem_flatMap.1 hx
    exact (hs.2.2 c (hmem c hc)).2.2.1.2 x hx
  have hl32 : l.length ≤ 32 := Nat.le_trans hlen hbd.1
  have hfl := flat_len (·.must) 64 l hc64
  have Hres := Lib.hid hres
  clear hres hmem hlen hbd hs hd
  go_enter Tryz.func42, Tryz.ntmps42
  go_wp2_with fail
  with_reducible refine gen1 (R := fun W => Calls Tryz.prog 49 _ W _) ?_
  intro W hbW hszW _ _
  refine (hLin W hbW).mono ?_
  rintro e w2 ⟨vc, rfl, hb2, hcl⟩
  have hbw2 := hbW.trans (hb2.mono hbW.size)
  clear hLin
  obtain ⟨AA, cc, rfl, hcc⟩ := SlV.shape hcl
  go_wp2
  go_loopw [5, 12] (fun v i wr => ∃ k : Nat, k ≤ l.length ∧ i = .int .i64 k ∧ wr.ownsRow w2.heap.size 9 1 v (flatK (·.must) l k).length ((flatK (·.must) l k).map sv) ∧ Below w2.heap.size w2 wr) (fun _ i _ => l.length - (intOf i).toNat)
  case atStart => exact ⟨0, Nat.zero_le _, rfl, World.ownsRow_nil _ _ _ _, Below.refl _ _⟩
  case round =>
    obtain ⟨k, hk, rfl, hown, hb⟩ := hrel
    by_cases hlt : k < l.length
    · obtain ⟨b, off, vm, vn, rfl, hbl, c0, c1, c2, c3, hm, hn'⟩ := ClassesV.cell (ClassesV.keep hcl hb) hlt
      obtain ⟨Am, cm, rfl, hcm⟩ := SlV.shape hm
      obtain ⟨An, cn, rfl, hcn⟩ := SlV.shape hn'
      have hltI : (k : Int) < (l.length : Int) := by omega
      have ba := (Below.refl wr.heap.size wr).alloc (Nat.le_refl _) (.cells #[.string (B l[k].name), .string (B l[k].super), .slice Am l[k].must.length cm, .slice An l[k].may.length cn] 48)
      have hown1 := own_below hown ba
      have hm1 := SlV.keep (SlV.mono hm hb.size) ba
      have hbw := hb.trans (ba.mono hb.size)
      have hbs1 := hbw.size
      have htk : (flatK (·.must) l k).length ≤ 2048 := by
        have h1 := flatK_len (·.must) l 64 k hc64
        omega
      have hk64 := hc64 l[k] (List.getElem_mem hlt)
      clear hm hn' hown ba
      go_wp2_with (at_builtin; refine wpList_appendS rfl _ _ 46 rfl w2.heap.size 9 Tryz.underlying46 info_str _ _ _ hown1 rfl _ l[k].must _ hm1 rfl (by omega) hbs1 ?_)
      intro v' w1' hown' hb' _ _
      clear hown1 hm1
      go_wp2
      go_roundw
      case rel =>
        refine ⟨k + 1, by omega, by go_num, ?_, hbw.trans hb'⟩
        rw [flatK_succ _ _ _ hlt, List.map_append, List.length_append]
        exact hown'
      case measure => simp [intOf]; omega
    · have hkl : k = l.length := by omega
      have hltI : ¬ (k : Int) < (l.length : Int) := by omega
      subst hkl
      rw [flatK_all] at hown
      generalize l.flatMap (·.must) = q at *
      obtain ⟨A3, c3, hu⟩ := own_shape hown
      subst hu
      have hM := merged_any _ q wr (StrsV.of_own hown) (by omega) hc9
      have hbw := hbw2.trans (hb.mono hbw2.size)
      clear hown
      go_wp2_with fail
      refine hM.mono ?_
      rintro e w5 ⟨v5, rfl, hown5, hb5⟩
      go_wp2
      go_ret
      exact ⟨_, rfl, by rw [Hres.out]; exact own_base hown5 hbw.size, hbw.trans (hb5.mono hbw.size)⟩

theorem sorted_len (l : List Bs) : (sorted l).length = l.length := by simp [sorted]
theorem merged_len (l : List Bs) : (merged l).length ≤ l.length := by
  have h := Lib.compact_length_le (sorted (l.map Idn.lower))
  rw [sorted_len, List.length_map] at h
  exact h
theorem compact_mem {x : Bs} {l : List Bs} (h : x ∈ Lib.compact l) : x ∈ l := by
  unfold Lib.compact Lib.compactUpTo at h
  obtain ⟨i, hi, rfl⟩ := List.mem_map.1 h
  have hil := (List.mem_filter.1 hi).1
  rw [List.mem_range] at hil
  simp [hil]
theorem own_lt {w : World} {base : Nat} {e : TypeId} {size : Nat} {v : Value} {n : Nat} {xs : List Value} (h : w.ownsRow base e size v n xs) {g : Nat} (hg : v.ownBlock = some g) : g < w.heap.size := (h.lt g hg).2
theorem LinV.shape {w : World} {base hi : Nat} {v : Value} {l : List Idn.Cl} (h : LinV w base hi v l) : ∃ A c, v = .slice A l.length c := by
  obtain ⟨xs, h1, _⟩ := h
  exact own_shape h1
theorem LinV.cell {w : World} {base hi : Nat} {A : Option Addr} {n c : Nat} {l : List Idn.Cl} (h : LinV w base hi (.slice A n c) l) {k : Nat} (hk : k < l.length) :
    ∃ g vm vn, A = some ⟨g, 0, none⟩ ∧ g < w.heap.size ∧ w.cell? ⟨g, k * 4, none⟩ = some (.string (B l[k].name)) ∧ w.cell? ⟨g, k * 4 + 1, none⟩ = some (.string (B l[k].super)) ∧ w.cell? ⟨g, k * 4 + 2, none⟩ = some vm ∧ w.cell? ⟨g, k * 4 + 3, none⟩ = some vn ∧ StrsV w hi vm l[k].must ∧ StrsV w hi vn l[k].may := by
  obtain ⟨xs, h1, h2⟩ := h
  obtain ⟨g, cap, cur, hv, _, hgg, _⟩ : ∃ g cap cur, Value.slice A n c = .slice (some ⟨g, 0, none⟩) l.length cap ∧ base ≤ g ∧ w.heap[g]? = some (.cells cur 48 (0, 0)) ∧ True := by
    rcases h1.2 with ⟨_, hn⟩ | ⟨g, cap, cur, hv, hb', hgg, rest⟩
    · omega
    · exact ⟨g, cap, cur, hv, hb', hgg, trivial⟩
  have hlt := (Array.getElem?_eq_some_iff.1 hgg).1
  injection hv with hv
  subst hv
  obtain ⟨cs, h3, ⟨v, u, h4, hv, hu⟩, h5⟩ := h2 k l[k] (List.getElem?_eq_getElem hk)
  subst h4
  have hc := h1.cells (g := g) rfl
  have e : ∀ j, ((⟨g, 0, none⟩ : Addr).add j) = ⟨g, j, none⟩ := fun j => by unfold Addr.add; split <;> simp_all
  have h6 := fun (j : Nat) (u : Value) (hj) => (e (k * 4 + j)) ▸ hc (k * 4 + j) u (h5 j u hj)
  exact ⟨g, v, u, rfl, hlt, h6 0 _ rfl, h6 1 _ rfl, h6 2 _ rfl, h6 3 _ rfl, hv, hu⟩
theorem LinV.grown {w w' : World} {base hi : Nat} {A : Option Addr} {n c : Nat} {l : List Idn.Cl} (h : LinV w base hi (.slice A n c) l) {row : Option Nat} (hg : w.grownBy w' row) (hs : ∀ g, row = some g → A ≠ some ⟨g, 0, none⟩) (hb : Below hi w w') : LinV w' base hi (.slice A n c) l := by
  obtain ⟨xs, h1, h2⟩ := h
  refine ⟨xs, ⟨h1.1, ?_⟩, fun i x hx => ?_⟩
  · rcases h1.2 with hn | ⟨g, cap, cur, hv, hb', hgg, rest⟩
    · exact .inl hn
    · injection hv with hv1 hv2 hv3
      subst hv1
      exact .inr ⟨g, cap, cur, by rw [hv2, hv3], hb', by rw [hg.block g (Array.getElem?_eq_some_iff.1 hgg).1 (fun e => hs g e.symm rfl)]; exact hgg, rest⟩
  · obtain ⟨cs, h3, h4, h5⟩ := h2 i x hx
    exact ⟨cs, h3, h4.keep hb, h5⟩
theorem LinV.ge {w : World} {base hi : Nat} {g n c : Nat} {l : List Idn.Cl} (h : LinV w base hi (.slice (some ⟨g, 0, none⟩) n c) l) : base ≤ g := by
  obtain ⟨xs, h1, _⟩ := h
  exact (h1.lt g rfl).1
theorem merged_mem {l : List Bs} {x : Bs} (h : x ∈ merged l) : ∃ y ∈ l, x = Idn.lower y := by
  have h1 := compact_mem h
  have h2 : x ∈ l.map Idn.lower := by
    unfold sorted at h1
    exact (List.mergeSort_perm _ _).mem_iff.1 h1
  obtain ⟨y, hy, rfl⟩ := List.mem_map.1 h2
  exact ⟨y, hy, rfl⟩
theorem mustL_len {s : Idn.Sch} (hbd : Bd s) (n : Bs) : (mustL s n).length ≤ 2048 := by
  have h1 := linS_len s n
  have h2 := flat_len (·.must) 64 ((Idn.lin s n).filterMap (s.classes[·]?)) (fun c hc => (hbd.2 c (linS_mem hc)).1)
  have h3 := merged_len (((Idn.lin s n).filterMap (s.classes[·]?)).flatMap (·.must))
  have := hbd.1
  unfold mustL
  omega
theorem mustL_sm {s : Idn.Sch} (hs : SSm s) {n x : Bs} (h : x ∈ mustL s n) : x.length ≤ 1000000000 := by
  obtain ⟨y, hy, rfl⟩ := merged_mem h
  obtain ⟨c, hc, hx⟩ := List.mem_flatMap.1 hy
  rw [Idn.length_lower]
  exact (hs.2.2 c (linS_mem hc)).2.2.1.2 y hx
set_option maxHeartbeats 1000000 in
set_option maxRecDepth 100000 in
theorem may_any (m1 m2 : Value) (s : Idn.Sch) (hi : Nat) (n : ByteArray) (w : World) (hk : KnV w hi m1 m2 s) (hh : hi ≤ w.heap.size) (hd : Idn.Dec s.classes) (hs : SSm s) (hbd : Bd s) (hn : n.size ≤ 1000000000) :
    Calls Tryz.prog 43 #[.agg #[m1, m2], .string n] w (RetS w (mayL s (L n))) := by
  obtain ⟨o1, o2, rfl, rfl⟩ := hk.shape
  have hMu := fun W (hW : Below w.heap.size w W) => must_any _ _ s hi n W (hk.keep hW hh) (Nat.le_trans hh hW.size) hd hs hbd hn
  have hLin := fun W (hW : Below w.heap.size w W) => lineage_lin _ _ s hi n W (hk.keep hW hh) (Nat.le_trans hh hW.size) hd hs hn
  have hlen := linS_len s (L n)
  have hmem := fun c => linS_mem (s := s) (n := L n) (c := c)
  have hml := mustL_len hbd (L n)
  have hmx := fun x => mustL_sm hs (n := L n) (x := x)
  have hres : mayL s (L n) = merged (mustL s (L n) ++ ((Idn.lin s (L n)).filterMap (s.classes[·]?)).flatMap (·.may)) := rfl
  clear hk
  generalize (Idn.lin s (L n)).filterMap (s.classes[·]?) = l at *
  generalize mustL s (L n) = mu at *
  have hc64 : ∀ c ∈ l, c.may.length ≤ 64 := fun c hc => (hbd.2 c (hmem c hc)).2
  have hc9 : ∀ x ∈ mu ++ l.flatMap (·.may), x.length ≤ 1000000000 := fun x hx => by
    rcases List.mem_append.1 hx with hx | hx
    · exact hmx x hx
    · obtain ⟨c, hc, hx⟩ := List.mem_flatMap.1 hx
      exact (hs.2.2 c (hmem c hc)).2.2.2.2 x hx
  have hl32 : l.length ≤ 32 := Nat.le_trans hlen hbd.1
  have hfl := flat_len (·.may) 64 l hc64
  have Hres := Lib.hid hres
  clear hres hmem hlen hbd hs hd hmx
  go_enter Tryz.func43, Tryz.ntmps43
  go_wp2_with fail
  with_reducible refine gen1 (R := fun W => Calls Tryz.prog 42 _ W _) ?_
  intro W hbW hszW hcW _
  have k0 := hcW 0 _ rfl
  have k1 := hcW 1 _ rfl
  clear hcW
  refine (hMu W hbW).mono ?_
  rintro e w1 ⟨v1, rfl, hown1, hb1⟩
  obtain ⟨A1, c1, hu1⟩ := own_shape hown1
  subst hu1
  have hbw1 := hbW.trans (hb1.mono hbW.size)
  replace k0 := cell_later hb1 k0
  replace k1 := cell_later hb1 k1
  clear hMu
  go_wp2_with fail
  refine (hLin w1 hbw1).mono ?_
  rintro e w2 ⟨vc, rfl, hb2, hcl⟩
  have hown2 := own_below hown1 hb2
  have hbw2 := hbw1.trans (hb2.mono hbw1.size)
  have hlt1 := fun g => own_lt hown1 (g := g)
  obtain ⟨AA, cc, hvc⟩ := hcl.shape
  subst hvc
  have hhi : hi ≤ W.heap.size := Nat.le_trans hh hbW.size
  clear hLin hown1 k0 k1
  have hbq := hb1.trans (hb2.mono hb1.size)
  have hfz : Hid (mu = catK mu (·.may) l 0) := (catK_zero mu (·.may) l).symm
  clear hszW
  go_wp2
  go_loopw [5, 15] (fun v i wr => ∃ k : Nat, k ≤ l.length ∧ i = .int .i64 k ∧ wr.ownsRow W.heap.size 9 1 v (catK mu (·.may) l k).length ((catK mu (·.may) l k).map sv) ∧ Below W.heap.size w2 wr ∧ LinV wr w1.heap.size hi (.slice AA l.length cc) l ∧ ∀ g, v.ownBlock = some g → AA ≠ some ⟨g, 0, none⟩) (fun _ i _ => l.length - (intOf i).toNat)
  case atStart => exact ⟨0, Nat.zero_le _, rfl, by rw [← hfz.out]; exact hown2, Below.refl _ _, hcl, fun g hg hAA => by subst hAA; have := hlt1 g hg; have := hcl.ge; omega⟩
  case round =>
    obtain ⟨k, hk, rfl, hown, hb, hcr, hsep⟩ := hrel
    by_cases hlt : k < l.length
    · obtain ⟨b, vm, vn, rfl, hbl, c0, c1, c2, c3, hm, hn'⟩ := hcr.cell hlt
      obtain ⟨Am, cm, rfl, hcm⟩ := SlV.shape hm
      obtain ⟨An, cn, rfl, hcn⟩ := SlV.shape hn'
      have hltI : (k : Int) < (l.length : Int) := by omega
      have ba := (Below.refl wr.heap.size wr).alloc (Nat.le_refl _) (.cells #[.string (B l[k].name), .string (B l[k].super), .slice Am l[k].must.length cm, .slice An l[k].may.length cn] 48)
      have hgA := World.grownBy_alloc wr (.cells #[.string (B l[k].name), .string (B l[k].super), .slice Am l[k].must.length cm, .slice An l[k].may.length cn] 48) (Value.ownBlock u5)
      have hown1 := own_below hown ba
      have hhr : hi ≤ wr.heap.size := Nat.le_trans hhi (Nat.le_trans hbq.size hb.size)
      have hn1 := SlV.keep hn' (ba.mono hhr)
      have hbs1 : W.heap.size ≤ (wr.alloc (.cells #[.string (B l[k].name), .string (B l[k].super), .slice Am l[k].must.length cm, .slice An l[k].may.length cn] 48)).heap.size := by simp; have := hbq.size; have := hb.size; omega
      have hbw := hb.trans (ba.mono (Nat.le_trans hbq.size hb.size))
      have htk : (catK mu (·.may) l k).length ≤ 4096 := by
        have h1 := flatK_len (·.may) l 64 k hc64
        rw [catK_lenEq]; omega
      have hk64 := hc64 l[k] (List.getElem_mem hlt)
      clear hm hn' hown ba
      go_wp2_with (at_builtin; refine wpList_appendS rfl _ _ 46 rfl W.heap.size 9 Tryz.underlying46 info_str _ _ _ hown1 rfl _ l[k].may _ hn1 rfl (by omega) hbs1 ?_)
      intro v' w1' hown' hb' hgr hat
      have hgr' := hgA.trans hgr
      have hcr' := hcr.grown hgr' hsep (Below.grown (Below.refl hi wr) hgr' hhr (fun g hg => Nat.le_trans hhi ((hown1.lt g hg).1)))
      clear hown1 hn1
      go_wp2
      go_roundw
      case rel =>
        refine ⟨k + 1, by omega, by go_num, ?_, hbw.trans hb', ?_, ?_⟩
        · rw [catK_succ _ _ _ _ hlt, List.map_append, List.length_append]
          exact hown'
        · exact hcr'
        · intro g hg hAA
          rcases hat with hat | hat
          · exact hsep g (hat ▸ hg) hAA
          · rw [hat] at hg
            injection hg with hg
            injection hAA with hAA
            injection hAA with hAA
            omega
      case measure => simp [intOf]; omega
    · have hkl : k = l.length := by omega
      have hltI : ¬ (k : Int) < (l.length : Int) := by omega
      subst hkl
      rw [catK_all] at hown
      have hql : (mu ++ l.flatMap (·.may)).length ≤ 1000000000 := by rw [List.length_append]; omega
      generalize mu ++ l.flatMap (·.may) = q at *
      obtain ⟨A3, c3, hu⟩ := own_shape hown
      subst hu
      have hM := merged_any _ q wr (StrsV.of_own hown) hql hc9
      have hbw := hbW.trans ((hbq.trans hb).mono hbW.size)
      clear hown
      go_wp2_with fail
      refine hM.mono ?_
      rintro e w5 ⟨v5, rfl, hown5, hb5⟩
      go_wp2
      go_ret
      exact ⟨_, rfl, by rw [Hres.out]; exact own_base hown5 hbw.size, hbw.trans (hb5.mono hbw.size)⟩

set_option maxHeartbeats 1000000 in
set_option maxRecDepth 100000 in
theorem schMust_any (v : Value) (s : Idn.Sch) (n : ByteArray) (w : World) (hv : SchV w w.heap.size v s) (hs : SSm s) (hn : n.size ≤ 1000000000) :
    Calls Tryz.prog 16 #[v, .string n] w (RetS w (mustL (sound s) (L n))) := by
  have hE := fun W (hW : Below w.heap.size w W) => look_any v s W (SchV.mono (SchV.keep hv hW) hW.size) hs
  obtain ⟨a, b, rfl, hT, hC⟩ := hv
  obtain ⟨A, ca, rfl, hca⟩ := SlV.shape hT
  obtain ⟨A', cb, rfl, hcb⟩ := SlV.shape hC
  clear hT hC
  go_enter Tryz.func16, Tryz.ntmps16
  go_wp2_with fail
  with_reducible refine gen1 (R := fun W => Calls Tryz.prog 36 _ W _) ?_
  intro W hbW hszW _ _
  refine (hE W hbW).mono ?_
  rintro e w1 ⟨m1, m2, rfl, hb1, hk⟩
  clear hE
  have hM := must_any m1 m2 (sound s) W.heap.size n w1 hk hb1.size (dec_sound s) (ssm_sound hs) (bd_sound s) hn
  have hbw1 := hbW.trans (hb1.mono hbW.size)
  clear hk
  go_wp2_with fail
  refine hM.mono ?_
  rintro e w2 ⟨v2, rfl, hown, hb2⟩
  go_wp2
  go_ret
  exact ⟨_, rfl, own_base hown hbw1.size, hbw1.trans (hb2.mono hbw1.size)⟩
set_option maxHeartbeats 1000000 in
set_option maxRecDepth 100000 in
theorem schMay_any (v : Value) (s : Idn.Sch) (n : ByteArray) (w : World) (hv : SchV w w.heap.size v s) (hs : SSm s) (hn : n.size ≤ 1000000000) :
    Calls Tryz.prog 17 #[v, .string n] w (RetS w (mayL (sound s) (L n))) := by
  have hE := fun W (hW : Below w.heap.size w W) => look_any v s W (SchV.mono (SchV.keep hv hW) hW.size) hs
  obtain ⟨a, b, rfl, hT, hC⟩ := hv
  obtain ⟨A, ca, rfl, hca⟩ := SlV.shape hT
  obtain ⟨A', cb, rfl, hcb⟩ := SlV.shape hC
  clear hT hC
  go_enter Tryz.func17, Tryz.ntmps17
  go_wp2_with fail
  with_reducible refine gen1 (R := fun W => Calls Tryz.prog 36 _ W _) ?_
  intro W hbW hszW _ _
  refine (hE W hbW).mono ?_
  rintro e w1 ⟨m1, m2, rfl, hb1, hk⟩
  clear hE
  have hM := may_any m1 m2 (sound s) W.heap.size n w1 hk hb1.size (dec_sound s) (ssm_sound hs) (bd_sound s) hn
  have hbw1 := hbW.trans (hb1.mono hbW.size)
  clear hk
  go_wp2_with fail
  refine hM.mono ?_
  rintro e w2 ⟨v2, rfl, hown, hb2⟩
  go_wp2
  go_ret
  exact ⟨_, rfl, own_base hown hbw1.size, hbw1.trans (hb2.mono hbw1.size)⟩
end Go.Proofs.YtnaaoilflokmfaaGreatDoor
/- identityref07: lower. -/
namespace Go.Proofs.YtnaaoilflokmfaaGreatDoor
open Go.RowKit Go.Sort
open Idn (L B Bs drop_L take_L size_L)
theorem SlV.cutFrom {α : Type} {E : α → List Value → Prop} {w : World} {hi size n c : Nat} {l : List α} {A : Option Addr} (h : SlV E w hi size (.slice A n c) l) (k : Nat) (hk : k ≤ l.length) :
    SlV E w hi size (.slice (if c = k then A else A.map (·.add (k * size))) (n - k) (c - k)) (l.drop k) := by
  obtain ⟨A', c', hv, hc, h⟩ := h
  injection hv with hA hn hcc
  subst hA hcc hn
  refine ⟨_, _, by rw [List.length_drop], by rw [List.length_drop]; omega, fun hp => ?_⟩
  rw [List.length_drop] at hp
  obtain ⟨b, off, hA, hb, hx⟩ := h (by omega)
  subst hA
  refine ⟨b, off + k * size, ?_, hb, fun i x hix => ?_⟩
  · rw [if_neg (by omega)]
    simp only [Option.map_some, Addr.add]
    split
    · rename_i e; rw [e]; rfl
    · rfl
  · rw [List.getElem?_drop] at hix
    obtain ⟨cs, h1, h2, h3⟩ := hx (k + i) x hix
    refine ⟨cs, h1, h2, fun j u hj => ?_⟩
    have := h3 j u hj
    rw [show off + k * size + (i * size + j) = off + ((k + i) * size + j) by rw [Nat.add_mul]; omega]
    exact this
theorem run_size_str (W : World) : (sizeOf (Tryz.prog.elem 46)).run Tryz.prog W = .ok 1 W := by
  obtain ⟨i, hi, _, h1, _⟩ := info_parts info_str
  have e : Tryz.prog.elem 46 = 9 := by kernel_rfl
  rw [e]
  simp [sizeOf, typeInfo, hi, h1]
theorem take_run {w : World} {hi n c : Nat} {l : List Bs} {A : Option Addr} (h : StrsV w hi (.slice A n c) l) {j : Nat} (hj : j ≤ l.length) :
    ∃ A' c', (∀ W : World, (Instr.slice 46 (.slice A n c) none (some (.int .i64 (j : Int))) none).run Tryz.prog W = .ok (.slice A' j c') W) ∧ StrsV w hi (.slice A' j c') (l.take j) := by
  obtain ⟨A0, c0, hv, hc⟩ := SlV.shape h
  injection hv with _ hn hcc
  subst hcc
  refine ⟨A, c, fun W => ?_, SlV.take h j hj⟩
  rw [run_slice_h W 46 A n c (by kernel_rfl) .i64 (j : Int) (by omega) (by omega), run_size_str]
  simp only [Result.andThen_ok, sliced, Int.toNat_natCast, Nat.sub_zero]
  congr 2
  split
  · rfl
  · cases A with
    | none => rfl
    | some a => simp [Addr.add]
theorem drop_run {w : World} {hi n c : Nat} {l : List Bs} {A : Option Addr} (h : StrsV w hi (.slice A n c) l) {j : Nat} (hj : j ≤ l.length) :
    ∃ A' c', (∀ W : World, (Instr.slice 46 (.slice A n c) (some (.int .i64 (j : Int))) none none).run Tryz.prog W = .ok (.slice A' (n - j) c') W) ∧ StrsV w hi (.slice A' (n - j) c') (l.drop j) := by
  have hn := SlV.len h
  refine ⟨_, _, fun W => ?_, SlV.cutFrom h j hj⟩
  rw [run_slice_l W 46 A n c (by kernel_rfl) .i64 (j : Int) (by omega) (by omega), run_size_str]
  simp only [Result.andThen_ok, sliced, Int.toNat_natCast]
theorem own_cast {w : World} {base : Nat} {e : TypeId} {size : Nat} {v : Value} {n m : Nat} {xs ys : List Value} (h : w.ownsRow base e size v n xs) (hn : m = n) (hx : ys = xs) : w.ownsRow base e size v m ys := by subst hn hx; exact h
def insK (l : List Bs) (acc : List Bs) : List Bs := l.foldl (fun a n => Idn.insS n a) acc
theorem insK_step (l : List Bs) (k : Nat) (hk : k < l.length) (acc : List Bs) : insK ((l.drop k).map Idn.lower) acc = insK ((l.drop (k + 1)).map Idn.lower) (Idn.insS (Idn.lower l[k]) acc) := by
  rw [List.drop_eq_getElem_cons hk]; rfl
theorem merged_ins (l : List Bs) : merged l = insK (l.map Idn.lower) [] := Idn.law (l.map Idn.lower)
theorem insS_len (n : Bs) : ∀ l, (Idn.insS n l).length ≤ l.length + 1
  | [] => by simp [Idn.insS]
  | y :: l => by
    have := insS_len n l
    unfold Idn.insS
    split
    · simp; omega
    · split <;> simp
end Go.Proofs.YtnaaoilflokmfaaGreatDoor
