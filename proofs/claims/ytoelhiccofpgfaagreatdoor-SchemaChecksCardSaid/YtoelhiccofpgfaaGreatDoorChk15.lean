/- Part 15 of the proof that SchemaChecks returns true for every schema: the package variables hold what the program lays; nothing else is asked. -/
import Derived.Test.YtoelhiccofpgfaaGreatDoorChk01
import Derived.Test.YtoelhiccofpgfaaGreatDoorChk10
import Derived.Test.YtoelhiccofpgfaaGreatDoorShelf
import Derived.Laws.Concat
/- schema: word, orNone, typeLine, classLine. -/
namespace Go.Proofs.YtoelhiccofpgfaaGreatDoor
open Go.RowKit Go.Sort
open Idn (L B Bs drop_L take_L size_L)

theorem join_is (sep : Bs) (l : List Bs) : Lib.join l sep = Idn.joinL sep l := by
  cases l with
  | nil => rfl
  | cons x l =>
    rw [Lib.join_cons]
    show _ = x ++ Idn.joinR sep l
    congr 1
    induction l with
    | nil => rfl
    | cons y l ih => simp only [Lib.joinTail, List.map_cons, List.flatten_cons, Idn.joinR, List.append_assoc] at *; rw [ih]
theorem join_any (v : Value) (l : List Bs) (sep : ByteArray) (w : World) (hv : StrsV w w.heap.size v l) (hl : l.length ≤ 100000) (hs : ∀ x ∈ l, x.length ≤ 1000000000) (hsep : sep.size ≤ 1000) :
    Calls Tryz.prog 72 #[v, .string sep] w fun e w' => e = .returned (.string (B (Idn.joinL (L sep) l))) ∧ Below w.heap.size w w' := by
  obtain ⟨A, c, rfl, hc⟩ := hv.shape
  by_cases h0 : l.length = 0
  · have hl0 : l = [] := List.eq_nil_of_length_eq_zero h0
    subst hl0
    exact (Tryz.strings_Join_none A c sep w).mono fun e w' ⟨h1, h2⟩ => ⟨h1, h2 ▸ Below.refl _ _⟩
  · obtain ⟨b, off, rfl, hb, _⟩ := StrsV.cell hv (k := 0) (by omega)
    have hmap : (l.map B).map (fun x => x.data.toList) = l := by simp [Function.comp_def, B]
    have hlen := Idn.length_joinL (L sep) 1000000000 l hs
    have hmul : l.length * (1000000000 + (L sep).length) ≤ 100000 * (1000000000 + (L sep).length) := Nat.mul_le_mul_right _ hl
    have h := Tryz.strings_Join b off c (l.map B) sep w (fun j x hj => by
      rw [List.getElem?_map] at hj
      obtain ⟨y, hy, rfl⟩ := Option.map_eq_some_iff.1 hj
      obtain ⟨hjl, rfl⟩ := List.getElem?_eq_some_iff.1 hy
      obtain ⟨b', off', hA', _, hcc⟩ := StrsV.cell hv hjl
      injection hA' with hA'
      injection hA' with h1 h2
      subst h1 h2
      exact hcc) hb (by simp; omega) (by simpa using hc) (by rw [hmap, join_is]; have := size_L sep; show (Idn.joinL (L sep) l).length ≤ _; omega)
    rw [hmap, join_is, List.length_map] at h
    exact h

set_option maxRecDepth 100000 in
theorem word_any (x : Int) (w : World) : Calls Tryz.prog 71 #[.int .i64 x] w fun e w' => e = .returned (.string (B (Idn.word x))) ∧ w = w' := by
  unfold Idn.word
  by_cases h1 : x = 1
  · have e1 : (x == 1) = true := by simpa using h1
    rw [if_pos h1]
    clear h1
    go_enter Tryz.func71, Tryz.ntmps71
    go_wp2
    go_ret
    exact ⟨rfl, rfl⟩
  have e1 : (x == 1) = false := by simpa using h1
  rw [if_neg h1]
  by_cases h2 : x = 2
  · have e2 : (x == 2) = true := by simpa using h2
    rw [if_pos h2]
    clear h1 h2
    go_enter Tryz.func71, Tryz.ntmps71
    go_wp2
    go_ret
    exact ⟨rfl, rfl⟩
  have e2 : (x == 2) = false := by simpa using h2
  rw [if_neg h2]
  by_cases h3 : x = 3
  · have e3 : (x == 3) = true := by simpa using h3
    rw [if_pos h3]
    clear h1 h2 h3
    go_enter Tryz.func71, Tryz.ntmps71
    go_wp2
    go_ret
    exact ⟨rfl, rfl⟩
  have e3 : (x == 3) = false := by simpa using h3
  rw [if_neg h3]
  by_cases h4 : x = 4
  · have e4 : (x == 4) = true := by simpa using h4
    rw [if_pos h4]
    clear h1 h2 h3 h4
    go_enter Tryz.func71, Tryz.ntmps71
    go_wp2
    go_ret
    exact ⟨rfl, rfl⟩
  have e4 : (x == 4) = false := by simpa using h4
  rw [if_neg h4]
  clear h1 h2 h3 h4
  go_enter Tryz.func71, Tryz.ntmps71
  go_wp2
  go_ret
  exact ⟨rfl, rfl⟩
theorem orNone_any (s : ByteArray) (w : World) : Calls Tryz.prog 73 #[.string s] w fun e w' => e = .returned (.string (B (Idn.orDash (L s)))) ∧ w = w' := by
  unfold Idn.orDash
  cases h : (L s).isEmpty
  · have e1 : s.toList.isEmpty = false := by rw [toList_L]; exact h
    clear h
    go_enter Tryz.func73, Tryz.ntmps73
    go_wp2
    go_ret
    exact ⟨rfl, rfl⟩
  · have e1 : s.toList.isEmpty = true := by rw [toList_L]; exact h
    clear h
    go_enter Tryz.func73, Tryz.ntmps73
    go_wp2
    go_ret
    exact ⟨rfl, rfl⟩
theorem L_app (s t : ByteArray) : L (s ++ t) = L s ++ L t := by
  show (s ++ t).data.toList = _
  rw [ByteArray.data_append]; simp [L]
theorem B_app (a b : Bs) : B a ++ B b = B (a ++ b) := by
  apply Idn.L_inj; rw [L_app]; rfl
theorem run_add {P : Program} {a b : Bs} {s t : ByteArray} (hs : s = B a) (ht : t = B b) (h : a.length + b.length ≤ 9223372036854775807) (w : World) : (Op.stringOp .add s t).run P w = .ok (.string (B (a ++ b))) w := by
  subst hs ht
  rw [run_string_add_sum w _ _ (by rw [Idn.size_B, Idn.size_B]; exact h), B_app]
set_option maxHeartbeats 1000000 in
set_option maxRecDepth 100000 in
theorem typeLine_any (t : Idn.AT) (w : World) (hn : t.name.length ≤ 1000000000) : Calls Tryz.prog 43 #[tyV t] w fun e w' => e = .returned (.string (B (Idn.tyLine t))) ∧ Below w.heap.size w w' := by
  unfold tyV
  rw [sv]
  have hW := fun W => word_any t.syn W
  have hl := Idn.length_word t.syn
  obtain ⟨n, x, g⟩ := t
  dsimp only at *
  have hres : Idn.tyLine ⟨n, x, g⟩ = (([116, 121, 112, 101, 32] ++ n) ++ [32] ++ Idn.word x) ++ (if g then [32, 115, 105, 110, 103, 108, 101] else []) := rfl
  have a1 := fun W => run_add (P := Tryz.prog) (a := [116, 121, 112, 101, 32]) (b := n) (s := ⟨#[116, 121, 112, 101, 32]⟩) rfl rfl (by simp; omega) W
  have a2 := fun W => run_add (P := Tryz.prog) (a := [116, 121, 112, 101, 32] ++ n) (b := [32]) (t := ⟨#[32]⟩) rfl rfl (by simp; omega) W
  have a3 := fun W => run_add (P := Tryz.prog) (a := ([116, 121, 112, 101, 32] ++ n) ++ [32]) (b := Idn.word x) rfl rfl (by simp; omega) W
  have a4 := fun W => run_add (P := Tryz.prog) (a := ([116, 121, 112, 101, 32] ++ n) ++ [32] ++ Idn.word x) (b := [32, 115, 105, 110, 103, 108, 101]) (t := ⟨#[32, 115, 105, 110, 103, 108, 101]⟩) rfl rfl (by simp; omega) W
  generalize hm : [116, 121, 112, 101, 32] ++ n = m at *
  generalize hm2 : m ++ [32] = m2 at *
  generalize hm3 : m2 ++ Idn.word x = m3 at *
  generalize Idn.word x = wd at *
  clear hm hm2 hm3 hl
  have Hres := Lib.hid hres
  clear hres
  cases g
  · go_enter Tryz.func43, Tryz.ntmps43
    go_wp2
    with_reducible refine gen1 (R := fun W => Code.wp Tryz.prog _ _ _ W) ?_
    intro W hbW hszW hc1 _
    have b0 := hc1 0 _ rfl
    have b1 := hc1 1 _ rfl
    have b2 := hc1 2 _ rfl
    clear hc1
    have hq := cq0 (W := W) hW
    have k0 := cell_regrown b0
    have k1 := cell_regrown b1
    clear a4
    refine wp_region_quiet_below (by kernel_rfl) (by kernel_rfl) ?_
    repeat (first | go_big_quiet_step ((go_at_call 71; exact hq _ _)) | quiet_step ((go_at_call 71; exact hq _ _)))
    refine wpQuiet_nil ?_
    intro _ hw'
    obtain ⟨⟨dq, osq⟩, hw''⟩ := hw'
    subst hw''
    have hb2 := below_regrown W dq osq
    generalize grow (redrawn W dq) osq = W2 at hb2 ⊢
    replace b2 := cell_later hb2 b2
    go_wp2
    go_ret
    exact ⟨ret_str (by rw [Hres.out]; simp), hbW.trans (hb2.mono hbW.size)⟩
  · go_enter Tryz.func43, Tryz.ntmps43
    go_wp2
    with_reducible refine gen1 (R := fun W => Code.wp Tryz.prog _ _ _ W) ?_
    intro W hbW hszW hc1 _
    have b0 := hc1 0 _ rfl
    have b1 := hc1 1 _ rfl
    have b2 := hc1 2 _ rfl
    clear hc1
    have hq := cq0 (W := W) hW
    have k0 := cell_regrown b0
    have k1 := cell_regrown b1
    refine wp_region_quiet_below (by kernel_rfl) (by kernel_rfl) ?_
    repeat (first | go_big_quiet_step ((go_at_call 71; exact hq _ _)) | quiet_step ((go_at_call 71; exact hq _ _)))
    refine wpQuiet_nil ?_
    intro _ hw'
    obtain ⟨⟨dq, osq⟩, hw''⟩ := hw'
    subst hw''
    have hb2 := below_regrown W dq osq
    generalize grow (redrawn W dq) osq = W2 at hb2 ⊢
    replace b2 := cell_later hb2 b2
    go_wp2
    go_ret
    exact ⟨ret_str (by rw [Hres.out]; simp), hbW.trans (hb2.mono hbW.size)⟩
end Go.Proofs.YtoelhiccofpgfaaGreatDoor
/- schema: classLine. -/
namespace Go.Proofs.YtoelhiccofpgfaaGreatDoor
open Go.RowKit Go.Sort
open Idn (L B Bs drop_L take_L size_L)

theorem join_new (W : World) (l : List Bs) (sep : ByteArray) (t0 : TypeId) (n : Nat) (hn : n = l.length) (h0 : 0 < l.length) (hl : l.length ≤ 100000) (hs : ∀ x ∈ l, x.length ≤ 1000000000) (hsep : sep.size ≤ 1000) (C : Array Value) (hC : C = (l.map sv).toArray) :
    Calls Tryz.prog 72 #[.slice (some ⟨W.heap.size, 0, none⟩) n n, .string sep] (W.alloc (.cells C t0)) fun e w' => e = .returned (.string (B (Idn.joinL (L sep) l))) ∧ Below (W.alloc (.cells C t0)).heap.size (W.alloc (.cells C t0)) w' := by
  subst hC hn
  refine (join_any _ l sep _ ?_ hl hs hsep).mono fun e w' ⟨h1, h2⟩ => ⟨h1, h2⟩
  refine ⟨_, _, rfl, Nat.le_refl _, fun _ => ⟨W.heap.size, 0, rfl, by simp, fun i x hx => ⟨[sv x], rfl, rfl, fun j u hu => ?_⟩⟩⟩
  have e1 := heap_alloc_new W (.cells (l.map sv).toArray t0)
  match j, hu with
  | 0, hu =>
    simp at hu
    subst hu
    rw [cell_of_row _ W.heap.size _ _ _ (0, 0) e1]
    simp [hx]
set_option maxHeartbeats 2000000 in
set_option maxRecDepth 100000 in
theorem classLine_any (v u : Value) (c : Idn.Cl) (w : World) (hv : StrsV w w.heap.size v c.must) (hu : StrsV w w.heap.size u c.may) (hn : c.name.length ≤ 1000000) (hsu : c.super.length ≤ 1000000) (hm : c.must.length ≤ 64) (hm' : c.may.length ≤ 64) (hmx : ∀ x ∈ c.must, x.length ≤ 1000000) (hnx : ∀ x ∈ c.may, x.length ≤ 1000000) :
    Calls Tryz.prog 44 #[.agg #[.string (B c.name), .string (B c.super), v, u]] w fun e w' => e = .returned (.string (B (Idn.clLine c))) ∧ Below w.heap.size w w' := by
  have hJ1 := fun W (hb : Below w.heap.size w W) => join_any v c.must ⟨#[44]⟩ W (SlV.mono (SlV.keep hv hb) hb.size) (by omega) (fun x hx => by have := hmx x hx; omega) (by decide)
  have hJ2 := fun W (hb : Below w.heap.size w W) => join_any u c.may ⟨#[44]⟩ W (SlV.mono (SlV.keep hu hb) hb.size) (by omega) (fun x hx => by have := hnx x hx; omega) (by decide)
  have l1 := Idn.length_joinL [44] 1000000 c.must hmx
  have l2 := Idn.length_joinL [44] 1000000 c.may hnx
  have hO1 := fun W => orNone_any (B c.super) W
  have hO2 := fun W => orNone_any (B (Idn.joinL [44] c.must)) W
  have hO3 := fun W => orNone_any (B (Idn.joinL [44] c.may)) W
  rw [Idn.L_B] at hO1 hO2 hO3
  have e44 : L ⟨#[44]⟩ = [44] := rfl
  rw [e44] at hJ1 hJ2
  have hlast := fun W => join_new W [[99, 108, 97, 115, 115], c.name, Idn.orDash c.super, Idn.orDash (Idn.joinL [44] c.must), Idn.orDash (Idn.joinL [44] c.may)] ⟨#[32]⟩ 9 5 rfl (by simp) (by simp) (by
    have o1 := Idn.length_orDash c.super
    have o2 := Idn.length_orDash (Idn.joinL [44] c.must)
    have o3 := Idn.length_orDash (Idn.joinL [44] c.may)
    have q1 : c.must.length * (1000000 + 1) ≤ 64 * (1000000 + 1) := Nat.mul_le_mul_right _ hm
    have q2 : c.may.length * (1000000 + 1) ≤ 64 * (1000000 + 1) := Nat.mul_le_mul_right _ hm'
    simp only [List.length_cons, List.length_nil] at l1 l2
    intro x hx
    simp only [List.mem_cons, List.not_mem_nil, or_false] at hx
    rcases hx with rfl | rfl | rfl | rfl | rfl
    · simp
    · omega
    · omega
    · omega
    · omega) (by decide) #[.string ⟨#[99, 108, 97, 115, 115]⟩, .string (B c.name), .string (B (Idn.orDash c.super)), .string (B (Idn.orDash (Idn.joinL [44] c.must))), .string (B (Idn.orDash (Idn.joinL [44] c.may)))] rfl
  have hres : Idn.clLine c = Idn.joinL (L ⟨#[32]⟩) [[99, 108, 97, 115, 115], c.name, Idn.orDash c.super, Idn.orDash (Idn.joinL [44] c.must), Idn.orDash (Idn.joinL [44] c.may)] := rfl
  rw [← hres] at hlast
  clear hres l1 l2 hn hsu hm hm' hmx hnx e44
  generalize Idn.orDash c.super = x1 at *
  generalize Idn.orDash (Idn.joinL [44] c.must) = x2 at *
  generalize Idn.orDash (Idn.joinL [44] c.may) = x3 at *
  generalize Idn.joinL [44] c.must = y2 at *
  generalize Idn.joinL [44] c.may = y3 at *
  generalize Idn.clLine c = res at *
  obtain ⟨Am, cm, rfl, hcm⟩ := hv.shape
  obtain ⟨An, cn, rfl, hcn⟩ := hu.shape
  clear hv hu
  go_enter Tryz.func44, Tryz.ntmps44
  go_wp2
  with_reducible refine gen1 (R := fun W => Code.wp Tryz.prog _ _ _ W) ?_
  intro W hbW hszW hc1 _
  have b0 := hc1 0 _ rfl
  have b1 := hc1 1 _ rfl
  have b2 := hc1 2 _ rfl
  have b3 := hc1 3 _ rfl
  clear hc1
  have hS : ∀ W', Below W.heap.size W W' → W'.cell? ⟨w.heap.size, 0, none⟩ = some (.string (B c.name)) ∧ W'.cell? ⟨w.heap.size, 1, none⟩ = some (.string (B c.super)) ∧ W'.cell? ⟨w.heap.size, 2, none⟩ = some (.slice Am c.must.length cm) ∧ W'.cell? ⟨w.heap.size, 3, none⟩ = some (.slice An c.may.length cn) ∧ Below W.heap.size W W' := fun W' hb => by
    have hl : w.heap.size < W.heap.size := by omega
    exact ⟨cell_later hb b0, cell_later hb b1, cell_later hb b2, cell_later hb b3, hb⟩
  clear b0 b1 b2 b3
  have hJ1' := fun W' (h : W'.cell? ⟨w.heap.size, 0, none⟩ = some (.string (B c.name)) ∧ W'.cell? ⟨w.heap.size, 1, none⟩ = some (.string (B c.super)) ∧ W'.cell? ⟨w.heap.size, 2, none⟩ = some (.slice Am c.must.length cm) ∧ W'.cell? ⟨w.heap.size, 3, none⟩ = some (.slice An c.may.length cn) ∧ Below W.heap.size W W') => (hJ1 W' (hbW.trans (h.2.2.2.2.mono hbW.size))).mono fun e w' ⟨h1, h2⟩ => (⟨h1, Below.on h.2.2.2.2 h2⟩ : _ ∧ Below W.heap.size W w')
  have hJ2' := fun W' (h : W'.cell? ⟨w.heap.size, 0, none⟩ = some (.string (B c.name)) ∧ W'.cell? ⟨w.heap.size, 1, none⟩ = some (.string (B c.super)) ∧ W'.cell? ⟨w.heap.size, 2, none⟩ = some (.slice Am c.must.length cm) ∧ W'.cell? ⟨w.heap.size, 3, none⟩ = some (.slice An c.may.length cn) ∧ Below W.heap.size W W') => (hJ2 W' (hbW.trans (h.2.2.2.2.mono hbW.size))).mono fun e w' ⟨h1, h2⟩ => (⟨h1, Below.on h.2.2.2.2 h2⟩ : _ ∧ Below W.heap.size W w')
  have hlast' := fun W1 W' (hW : W' = W1.alloc (.cells #[.string ⟨#[99, 108, 97, 115, 115]⟩, .string (B c.name), .string (B x1), .string (B x2), .string (B x3)] 9)) (h : W'.cell? ⟨w.heap.size, 0, none⟩ = some (.string (B c.name)) ∧ W'.cell? ⟨w.heap.size, 1, none⟩ = some (.string (B c.super)) ∧ W'.cell? ⟨w.heap.size, 2, none⟩ = some (.slice Am c.must.length cm) ∧ W'.cell? ⟨w.heap.size, 3, none⟩ = some (.slice An c.may.length cn) ∧ Below W.heap.size W W') => (hlast W1).mono fun e w' ⟨h1, h2⟩ => (⟨h1, Below.on h.2.2.2.2 (hW ▸ h2)⟩ : _ ∧ Below W.heap.size W w')
  clear hJ1 hJ2 hlast
  have hw0 := Below.refl W.heap.size W
  go_region_held3 (fun W' => W'.cell? ⟨w.heap.size, 0, none⟩ = some (.string (B c.name)) ∧ W'.cell? ⟨w.heap.size, 1, none⟩ = some (.string (B c.super)) ∧ W'.cell? ⟨w.heap.size, 2, none⟩ = some (.slice Am c.must.length cm) ∧ W'.cell? ⟨w.heap.size, 3, none⟩ = some (.slice An c.may.length cn) ∧ Below W.heap.size W W')
    (first | (refine hS _ ?_; repeat (first | with_reducible exact Below.refl _ _ | with_reducible assumption | with_reducible exact And.right (And.right (And.right (And.right (by assumption)))) | with_reducible apply Below.drew | with_reducible refine Below.lay ?_ _ | with_reducible refine Below.on ?_ hb6)))
    (first | (go_at_call 73; (first | with_reducible refine (hO1 _).mono ?_ | with_reducible refine (hO2 _).mono ?_ | with_reducible refine (hO3 _).mono ?_); rintro e w6 ⟨rfl, rfl⟩) | (go_at_call 72; (first | with_reducible refine (hJ1' _ (by assumption)).mono ?_ | with_reducible refine (hJ2' _ (by assumption)).mono ?_ | with_reducible refine (hlast' _ _ rfl (by assumption)).mono ?_); rintro e w6 ⟨rfl, hb6⟩))
  all_goals
    go_wp2
    go_ret
    exact ⟨rfl, hbW.trans (hb6.mono hbW.size)⟩
end Go.Proofs.YtoelhiccofpgfaaGreatDoor
