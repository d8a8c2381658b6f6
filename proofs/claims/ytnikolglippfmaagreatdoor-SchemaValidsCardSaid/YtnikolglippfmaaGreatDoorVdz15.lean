/- Part 15 of the proof that Valid returns the specified error: the package variables hold what the program lays; nothing else is asked. -/
import Derived.Test.YtnikolglippfmaaGreatDoorVdz01
import Derived.Test.YtnikolglippfmaaGreatDoorVdz04
import Derived.Test.YtnikolglippfmaaGreatDoorVdz10
import Derived.Test.YtnikolglippfmaaGreatDoorVdz12
import Derived.Test.YtnikolglippfmaaGreatDoorVdz14
import Derived.Test.YtnikolglippfmaaGreatDoorShelf
import Derived.Laws.Concat
import Derived.Deep.RegionLaw
import Derived.RegionTactic
import Derived.BigRegion
/- schema: word, orNone, typeLine, classLine. -/
namespace Go.Proofs.YtnikolglippfmaaGreatDoor
open Go.RowKit Go.Sort
open Idn (L B Bs drop_L take_L size_L)

theorem join_is (sep : Bs) (l : List Bs) : Lib.join l sep = Idn.joinL sep l := by
  cases l with
  | nil => rfl
  | cons x l =>
    rw [Lib.join_cons]
    show _ = x ++ Idn.joinR sep l
    congr 1
    induction l with
    | nil => rfl
    | cons y l ih => simp only [Lib.joinTail, List.map_cons, List.flatten_cons, Idn.joinR, List.append_assoc] at *; rw [ih]
theorem join_any (v : Value) (l : List Bs) (sep : ByteArray) (w : World) (hv : StrsV w w.heap.size v l) (hl : l.length ≤ 100000) (hs : ∀ x ∈ l, x.length ≤ 1000000000) (hsep : sep.size ≤ 1000) :
    Calls Tryz.prog 108 #[v, .string sep] w fun e w' => e = .returned (.string (B (Idn.joinL (L sep) l))) ∧ Below w.heap.size w w' := by
  obtain ⟨A, c, rfl, hc⟩ := hv.shape
  by_cases h0 : l.length = 0
  · have hl0 : l = [] := List.eq_nil_of_length_eq_zero h0
    subst hl0
    exact (Tryz.strings_Join_none A c sep w).mono fun e w' ⟨h1, h2⟩ => ⟨h1, h2 ▸ Below.refl _ _⟩
  · obtain ⟨b, off, rfl, hb, _⟩ := StrsV.cell hv (k := 0) (by omega)
    have hmap : (l.map B).map (fun x => x.data.toList) = l := by simp [Function.comp_def, B]
    have hlen := Idn.length_joinL (L sep) 1000000000 l hs
    have hmul : l.length * (1000000000 + (L sep).length) ≤ 100000 * (1000000000 + (L sep).length) := Nat.mul_le_mul_right _ hl
    have h := Tryz.strings_Join b off c (l.map B) sep w (fun j x hj => by
      rw [List.getElem?_map] at hj
      obtain ⟨y, hy, rfl⟩ := Option.map_eq_some_iff.1 hj
      obtain ⟨hjl, rfl⟩ := List.getElem?_eq_some_iff.1 hy
      obtain ⟨b', off', hA', _, hcc⟩ := StrsV.cell hv hjl
      injection hA' with hA'
      injection hA' with h1 h2
      subst h1 h2
      exact hcc) hb (by simp; omega) (by simpa using hc) (by rw [hmap, join_is]; have := size_L sep; show (Idn.joinL (L sep) l).length ≤ _; omega)
    rw [hmap, join_is, List.length_map] at h
    exact h

set_option maxRecDepth 100000 in
theorem word_any (x : Int) (w : World) : Calls Tryz.prog 107 #[.int .i64 x] w fun e w' => e = .returned (.string (B (Idn.word x))) ∧ w = w' := by
  unfold Idn.word
  by_cases h1 : x = 1
  · have e1 : (x == 1) = true := by simpa using h1
    rw [if_pos h1]
    clear h1
    go_enter Tryz.func107, Tryz.ntmps107
    go_wp2
    go_ret
    exact ⟨rfl, rfl⟩
  have e1 : (x == 1) = false := by simpa using h1
  rw [if_neg h1]
  by_cases h2 : x = 2
  · have e2 : (x == 2) = true := by simpa using h2
    rw [if_pos h2]
    clear h1 h2
    go_enter Tryz.func107, Tryz.ntmps107
    go_wp2
    go_ret
    exact ⟨rfl, rfl⟩
  have e2 : (x == 2) = false := by simpa using h2
  rw [if_neg h2]
  by_cases h3 : x = 3
  · have e3 : (x == 3) = true := by simpa using h3
    rw [if_pos h3]
    clear h1 h2 h3
    go_enter Tryz.func107, Tryz.ntmps107
    go_wp2
    go_ret
    exact ⟨rfl, rfl⟩
  have e3 : (x == 3) = false := by simpa using h3
  rw [if_neg h3]
  by_cases h4 : x = 4
  · have e4 : (x == 4) = true := by simpa using h4
    rw [if_pos h4]
    clear h1 h2 h3 h4
    go_enter Tryz.func107, Tryz.ntmps107
    go_wp2
    go_ret
    exact ⟨rfl, rfl⟩
  have e4 : (x == 4) = false := by simpa using h4
  rw [if_neg h4]
  clear h1 h2 h3 h4
  go_enter Tryz.func107, Tryz.ntmps107
  go_wp2
  go_ret
  exact ⟨rfl, rfl⟩
theorem orNone_any (s : ByteArray) (w : World) : Calls Tryz.prog 109 #[.string s] w fun e w' => e = .returned (.string (B (Idn.orDash (L s)))) ∧ w = w' := by
  unfold Idn.orDash
  cases h : (L s).isEmpty
  · have e1 : s.toList.isEmpty = false := by rw [toList_L]; exact h
    clear h
    go_enter Tryz.func109, Tryz.ntmps109
    go_wp2
    go_ret
    exact ⟨rfl, rfl⟩
  · have e1 : s.toList.isEmpty = true := by rw [toList_L]; exact h
    clear h
    go_enter Tryz.func109, Tryz.ntmps109
    go_wp2
    go_ret
    exact ⟨rfl, rfl⟩
theorem L_app (s t : ByteArray) : L (s ++ t) = L s ++ L t := by
  show (s ++ t).data.toList = _
  rw [ByteArray.data_append]; simp [L]
theorem B_app (a b : Bs) : B a ++ B b = B (a ++ b) := by
  apply Idn.L_inj; rw [L_app]; rfl
theorem run_add {P : Program} {a b : Bs} {s t : ByteArray} (hs : s = B a) (ht : t = B b) (h : a.length + b.length ≤ 9223372036854775807) (w : World) : (Op.stringOp .add s t).run P w = .ok (.string (B (a ++ b))) w := by
  subst hs ht
  rw [run_string_add_sum w _ _ (by rw [Idn.size_B, Idn.size_B]; exact h), B_app]
set_option maxHeartbeats 1000000 in
set_option maxRecDepth 100000 in
theorem typeLine_any (t : Idn.AT) (w : World) (hn : t.name.length ≤ 1000000000) : Calls Tryz.prog 57 #[tyV t] w fun e w' => e = .returned (.string (B (Idn.tyLine t))) ∧ Below w.heap.size w w' := by
  unfold tyV
  rw [sv]
  have hW := fun W => word_any t.syn W
  have hl := Idn.length_word t.syn
  obtain ⟨n, x, g⟩ := t
  dsimp only at *
  have hres : Idn.tyLine ⟨n, x, g⟩ = (([116, 121, 112, 101, 32] ++ n) ++ [32] ++ Idn.word x) ++ (if g then [32, 115, 105, 110, 103, 108, 101] else []) := rfl
  have a1 := fun W => run_add (P := Tryz.prog) (a := [116, 121, 112, 101, 32]) (b := n) (s := ⟨#[116, 121, 112, 101, 32]⟩) rfl rfl (by simp; omega) W
  have a2 := fun W => run_add (P := Tryz.prog) (a := [116, 121, 112, 101, 32] ++ n) (b := [32]) (t := ⟨#[32]⟩) rfl rfl (by simp; omega) W
  have a3 := fun W => run_add (P := Tryz.prog) (a := ([116, 121, 112, 101, 32] ++ n) ++ [32]) (b := Idn.word x) rfl rfl (by simp; omega) W
  have a4 := fun W => run_add (P := Tryz.prog) (a := ([116, 121, 112, 101, 32] ++ n) ++ [32] ++ Idn.word x) (b := [32, 115, 105, 110, 103, 108, 101]) (t := ⟨#[32, 115, 105, 110, 103, 108, 101]⟩) rfl rfl (by simp; omega) W
  generalize hm : [116, 121, 112, 101, 32] ++ n = m at *
  generalize hm2 : m ++ [32] = m2 at *
  generalize hm3 : m2 ++ Idn.word x = m3 at *
  generalize Idn.word x = wd at *
  clear hm hm2 hm3 hl
  have Hres := Lib.hid hres
  clear hres
  cases g
  · go_enter Tryz.func57, Tryz.ntmps57
    go_wp2
    with_reducible refine gen1 (R := fun W => Code.wp Tryz.prog _ _ _ W) ?_
    intro W hbW hszW hc1 _
    have b0 := hc1 0 _ rfl
    have b1 := hc1 1 _ rfl
    have b2 := hc1 2 _ rfl
    clear hc1
    have hq := cq0 (W := W) hW
    have k0 := cell_regrown b0
    have k1 := cell_regrown b1
    clear a4
    refine wp_region_quiet_below (by kernel_rfl) (by kernel_rfl) ?_
    repeat (first | go_big_quiet_step ((go_at_call 107; exact hq _ _)) | quiet_step ((go_at_call 107; exact hq _ _)))
    refine wpQuiet_nil ?_
    intro _ hw'
    obtain ⟨⟨dq, osq⟩, hw''⟩ := hw'
    subst hw''
    have hb2 := below_regrown W dq osq
    generalize grow (redrawn W dq) osq = W2 at hb2 ⊢
    replace b2 := cell_later hb2 b2
    go_wp2
    go_ret
    exact ⟨ret_str (by rw [Hres.out]; simp), hbW.trans (hb2.mono hbW.size)⟩
  · go_enter Tryz.func57, Tryz.ntmps57
    go_wp2
    with_reducible refine gen1 (R := fun W => Code.wp Tryz.prog _ _ _ W) ?_
    intro W hbW hszW hc1 _
    have b0 := hc1 0 _ rfl
    have b1 := hc1 1 _ rfl
    have b2 := hc1 2 _ rfl
    clear hc1
    have hq := cq0 (W := W) hW
    have k0 := cell_regrown b0
    have k1 := cell_regrown b1
    refine wp_region_quiet_below (by kernel_rfl) (by kernel_rfl) ?_
    repeat (first | go_big_quiet_step ((go_at_call 107; exact hq _ _)) | quiet_step ((go_at_call 107; exact hq _ _)))
    refine wpQuiet_nil ?_
    intro _ hw'
    obtain ⟨⟨dq, osq⟩, hw''⟩ := hw'
    subst hw''
    have hb2 := below_regrown W dq osq
    generalize grow (redrawn W dq) osq = W2 at hb2 ⊢
    replace b2 := cell_later hb2 b2
    go_wp2
    go_ret
    exact ⟨ret_str (by rw [Hres.out]; simp), hbW.trans (hb2.mono hbW.size)⟩
end Go.Proofs.YtnikolglippfmaaGreatDoor
/- schema: classLine. -/
namespace Go.Proofs.YtnikolglippfmaaGreatDoor
open Go.RowKit Go.Sort
open Idn (L B Bs drop_L take_L size_L)

theorem join_new (W : World) (l : List Bs) (sep : ByteArray) (t0 : TypeId) (n : Nat) (hn : n = l.length) (h0 : 0 < l.length) (hl : l.length ≤ 100000) (hs : ∀ x ∈ l, x.length ≤ 1000000000) (hsep : sep.size ≤ 1000) (C : Array Value) (hC : C = (l.map sv).toArray) :
    Calls Tryz.prog 108 #[.slice (some ⟨W.heap.size, 0, none⟩) n n, .string sep] (W.alloc (.cells C t0)) fun e w' => e = .returned (.string (B (Idn.joinL (L sep) l))) ∧ Below (W.alloc (.cells C t0)).heap.size (W.alloc (.cells C t0)) w' := by
  subst hC hn
  refine (join_any _ l sep _ ?_ hl hs hsep).mono fun e w' ⟨h1, h2⟩ => ⟨h1, h2⟩
  refine ⟨_, _, rfl, Nat.le_refl _, fun _ => ⟨W.heap.size, 0, rfl, by simp, fun i x hx => ⟨[sv x], rfl, rfl, fun j u hu => ?_⟩⟩⟩
  have e1 := heap_alloc_new W (.cells (l.map sv).toArray t0)
  match j, hu with
  | 0, hu =>
    simp at hu
    subst hu
    rw [cell_of_row _ W.heap.size _ _ _ (0, 0) e1]
    simp [hx]
set_option maxHeartbeats 2000000 in
set_option maxRecDepth 100000 in
theorem classLine_any (v u : Value) (c : Idn.Cl) (w : World) (hv : StrsV w w.heap.size v c.must) (hu : StrsV w w.heap.size u c.may) (hn : c.name.length ≤ 1000000) (hsu : c.super.length ≤ 1000000) (hm : c.must.length ≤ 64) (hm' : c.may.length ≤ 64) (hmx : ∀ x ∈ c.must, x.length ≤ 1000000) (hnx : ∀ x ∈ c.may, x.length ≤ 1000000) :
    Calls Tryz.prog 58 #[.agg #[.string (B c.name), .string (B c.super), v, u]] w fun e w' => e = .returned (.string (B (Idn.clLine c))) ∧ Below w.heap.size w w' := by
  have hJ1 := fun W (hb : Below w.heap.size w W) => join_any v c.must ⟨#[44]⟩ W (SlV.mono (SlV.keep hv hb) hb.size) (by omega) (fun x hx => by have := hmx x hx; omega) (by decide)
  have hJ2 := fun W (hb : Below w.heap.size w W) => join_any u c.may ⟨#[44]⟩ W (SlV.mono (SlV.keep hu hb) hb.size) (by omega) (fun x hx => by have := hnx x hx; omega) (by decide)
  have l1 := Idn.length_joinL [44] 1000000 c.must hmx
  have l2 := Idn.length_joinL [44] 1000000 c.may hnx
  have hO1 := fun W => orNone_any (B c.super) W
  have hO2 := fun W => orNone_any (B (Idn.joinL [44] c.must)) W
  have hO3 := fun W => orNone_any (B (Idn.joinL [44] c.may)) W
  rw [Idn.L_B] at hO1 hO2 hO3
  have e44 : L ⟨#[44]⟩ = [44] := rfl
  rw [e44] at hJ1 hJ2
  have hlast := fun W => join_new W [[99, 108, 97, 115, 115], c.name, Idn.orDash c.super, Idn.orDash (Idn.joinL [44] c.must), Idn.orDash (Idn.joinL [44] c.may)] ⟨#[32]⟩ 9 5 rfl (by simp) (by simp) (by
    have o1 := Idn.length_orDash c.super
    have o2 := Idn.length_orDash (Idn.joinL [44] c.must)
    have o3 := Idn.length_orDash (Idn.joinL [44] c.may)
    have q1 : c.must.length * (1000000 + 1) ≤ 64 * (1000000 + 1) := Nat.mul_le_mul_right _ hm
    have q2 : c.may.length * (1000000 + 1) ≤ 64 * (1000000 + 1) := Nat.mul_le_mul_right _ hm'
    simp only [List.length_cons, List.length_nil] at l1 l2
    intro x hx
    simp only [List.mem_cons, List.not_mem_nil, or_false] at hx
    rcases hx with rfl | rfl | rfl | rfl | rfl
    · simp
    · omega
    · omega
    · omega
    · omega) (by decide) #[.string ⟨#[99, 108, 97, 115, 115]⟩, .string (B c.name), .string (B (Idn.orDash c.super)), .string (B (Idn.orDash (Idn.joinL [44] c.must))), .string (B (Idn.orDash (Idn.joinL [44] c.may)))] rfl
  have hres : Idn.clLine c = Idn.joinL (L ⟨#[32]⟩) [[99, 108, 97, 115, 115], c.name, Idn.orDash c.super, Idn.orDash (Idn.joinL [44] c.must), Idn.orDash (Idn.joinL [44] c.may)] := rfl
  rw [← hres] at hlast
  clear hres l1 l2 hn hsu hm hm' hmx hnx e44
  generalize Idn.orDash c.super = x1 at *
  generalize Idn.orDash (Idn.joinL [44] c.must) = x2 at *
  generalize Idn.orDash (Idn.joinL [44] c.may) = x3 at *
  generalize Idn.joinL [44] c.must = y2 at *
  generalize Idn.joinL [44] c.may = y3 at *
  generalize Idn.clLine c = res at *
  obtain ⟨Am, cm, rfl, hcm⟩ := hv.shape
  obtain ⟨An, cn, rfl, hcn⟩ := hu.shape
  clear hv hu
  go_enter Tryz.func58, Tryz.ntmps58
  go_wp2
  with_reducible refine gen1 (R := fun W => Code.wp Tryz.prog _ _ _ W) ?_
  intro W hbW hszW hc1 _
  have b0 := hc1 0 _ rfl
  have b1 := hc1 1 _ rfl
  have b2 := hc1 2 _ rfl
  have b3 := hc1 3 _ rfl
  clear hc1
  have hS : ∀ W', Below W.heap.size W W' → W'.cell? ⟨w.heap.size, 0, none⟩ = some (.string (B c.name)) ∧ W'.cell? ⟨w.heap.size, 1, none⟩ = some (.string (B c.super)) ∧ W'.cell? ⟨w.heap.size, 2, none⟩ = some (.slice Am c.must.length cm) ∧ W'.cell? ⟨w.heap.size, 3, none⟩ = some (.slice An c.may.length cn) ∧ Below W.heap.size W W' := fun W' hb => by
    have hl : w.heap.size < W.heap.size := by omega
    exact ⟨cell_later hb b0, cell_later hb b1, cell_later hb b2, cell_later hb b3, hb⟩
  clear b0 b1 b2 b3
  have hJ1' := fun W' (h : W'.cell? ⟨w.heap.size, 0, none⟩ = some (.string (B c.name)) ∧ W'.cell? ⟨w.heap.size, 1, none⟩ = some (.string (B c.super)) ∧ W'.cell? ⟨w.heap.size, 2, none⟩ = some (.slice Am c.must.length cm) ∧ W'.cell? ⟨w.heap.size, 3, none⟩ = some (.slice An c.may.length cn) ∧ Below W.heap.size W W') => (hJ1 W' (hbW.trans (h.2.2.2.2.mono hbW.size))).mono fun e w' ⟨h1, h2⟩ => (⟨h1, Below.on h.2.2.2.2 h2⟩ : _ ∧ Below W.heap.size W w')
  have hJ2' := fun W' (h : W'.cell? ⟨w.heap.size, 0, none⟩ = some (.string (B c.name)) ∧ W'.cell? ⟨w.heap.size, 1, none⟩ = some (.string (B c.super)) ∧ W'.cell? ⟨w.heap.size, 2, none⟩ = some (.slice Am c.must.length cm) ∧ W'.cell? ⟨w.heap.size, 3, none⟩ = some (.slice An c.may.length cn) ∧ Below W.heap.size W W') => (hJ2 W' (hbW.trans (h.2.2.2.2.mono hbW.size))).mono fun e w' ⟨h1, h2⟩ => (⟨h1, Below.on h.2.2.2.2 h2⟩ : _ ∧ Below W.heap.size W w')
  have hlast' := fun W1 W' (hW : W' = W1.alloc (.cells #[.string ⟨#[99, 108, 97, 115, 115]⟩, .string (B c.name), .string (B x1), .string (B x2), .string (B x3)] 9)) (h : W'.cell? ⟨w.heap.size, 0, none⟩ = some (.string (B c.name)) ∧ W'.cell? ⟨w.heap.size, 1, none⟩ = some (.string (B c.super)) ∧ W'.cell? ⟨w.heap.size, 2, none⟩ = some (.slice Am c.must.length cm) ∧ W'.cell? ⟨w.heap.size, 3, none⟩ = some (.slice An c.may.length cn) ∧ Below W.heap.size W W') => (hlast W1).mono fun e w' ⟨h1, h2⟩ => (⟨h1, Below.on h.2.2.2.2 (hW ▸ h2)⟩ : _ ∧ Below W.heap.size W w')
  clear hJ1 hJ2 hlast
  have hw0 := Below.refl W.heap.size W
  go_region_held3 (fun W' => W'.cell? ⟨w.heap.size, 0, none⟩ = some (.string (B c.name)) ∧ W'.cell? ⟨w.heap.size, 1, none⟩ = some (.string (B c.super)) ∧ W'.cell? ⟨w.heap.size, 2, none⟩ = some (.slice Am c.must.length cm) ∧ W'.cell? ⟨w.heap.size, 3, none⟩ = some (.slice An c.may.length cn) ∧ Below W.heap.size W W')
    (first | (refine hS _ ?_; repeat (first | with_reducible exact Below.refl _ _ | with_reducible assumption | with_reducible exact And.right (And.right (And.right (And.right (by assumption)))) | with_reducible apply Below.drew | with_reducible refine Below.lay ?_ _ | with_reducible refine Below.on ?_ hb6)))
    (first | (go_at_call 109; (first | with_reducible refine (hO1 _).mono ?_ | with_reducible refine (hO2 _).mono ?_ | with_reducible refine (hO3 _).mono ?_); rintro e w6 ⟨rfl, rfl⟩) | (go_at_call 108; (first | with_reducible refine (hJ1' _ (by assumption)).mono ?_ | with_reducible refine (hJ2' _ (by assumption)).mono ?_ | with_reducible refine (hlast' _ _ rfl (by assumption)).mono ?_); rintro e w6 ⟨rfl, hb6⟩))
  all_goals
    go_wp2
    go_ret
    exact ⟨rfl, hbW.trans (hb6.mono hbW.size)⟩
end Go.Proofs.YtnikolglippfmaaGreatDoor
/- lineage: the walk. -/
namespace Go.Proofs.YtnikolglippfmaaGreatDoor
open Go.RowKit Go.Sort
open Idn (L B Bs drop_L take_L size_L)

theorem info_cl : (Tryz.prog.info? 50).map (fun i => (i.zero, i.size, i.bytes)) = some (some zCl, 4, 80) := by kernel_rfl
theorem gen1f {R : World → Prop} {w : World} {C1 : Array Value} {t1 : TypeId}
    (h : ∀ W, Below w.heap.size w W → W.heap.size = w.heap.size + 1 → (∀ (i : Nat) (v : Value), C1[i]? = some v → W.cell? ⟨w.heap.size, i, none⟩ = some v) → (∀ i, W.frozen? ⟨w.heap.size, i, none⟩ = false) → R W) : R (w.alloc (.cells C1 t1)) := gen1 h

def FourAt (X : World) (p : Nat) (a b c d : Value) : Prop :=
  (X.cell? ⟨p, 0, none⟩ = some a ∧ X.cell? ⟨p, 1, none⟩ = some b ∧ X.cell? ⟨p, 2, none⟩ = some c ∧ X.cell? ⟨p, 3, none⟩ = some d) ∧
  (X.frozen? ⟨p, 0, none⟩ = false ∧ X.frozen? ⟨p, 1, none⟩ = false ∧ X.frozen? ⟨p, 2, none⟩ = false ∧ X.frozen? ⟨p, 3, none⟩ = false) ∧ p < X.heap.size
theorem fourA (W : World) (a b c d : Value) (t : TypeId) : FourAt (W.alloc (.cells #[a, b, c, d] t)) W.heap.size a b c d := by
  have e := heap_alloc_new W (.cells #[a, b, c, d] t)
  refine ⟨⟨?_, ?_, ?_, ?_⟩, ⟨Lib.frozen_of_heap e 0, Lib.frozen_of_heap e 1, Lib.frozen_of_heap e 2, Lib.frozen_of_heap e 3⟩, by simp⟩
  · rw [cell_of_row _ W.heap.size 0 _ _ (0, 0) e]; rfl
  · rw [cell_of_row _ W.heap.size 1 _ _ (0, 0) e]; rfl
  · rw [cell_of_row _ W.heap.size 2 _ _ (0, 0) e]; rfl
  · rw [cell_of_row _ W.heap.size 3 _ _ (0, 0) e]; rfl
theorem fourB {W : World} {p : Nat} {a0 b0 c0 d0 : Value} (h : FourAt W p a0 b0 c0 d0) (a b c d : Value) : FourAt ((((W.setCell ⟨p, 0, none⟩ a).setCell ⟨p, 1, none⟩ b).setCell ⟨p, 2, none⟩ c).setCell ⟨p, 3, none⟩ d) p a b c d := by
  obtain ⟨⟨h0, h1, h2, h3⟩, ⟨g0, g1, g2, g3⟩, hl⟩ := h
  refine ⟨⟨by simp [go_sem, h0, h1, h2, h3], by simp [go_sem, h0, h1, h2, h3], by simp [go_sem, h0, h1, h2, h3], by simp [go_sem, h0, h1, h2, h3]⟩, ⟨by simp [g0], by simp [g1], by simp [g2], by simp [g3]⟩, by simpa using hl⟩
theorem genF {R : World → Prop} {lo p : Nat} {W X : World} {a b c d : Value} (h : ∀ X, Below lo W X → FourAt X p a b c d → R X) (hb : Below lo W X) (hf : FourAt X p a b c d) : R X := h X hb hf

theorem But.own {p : Nat} {w w1 w2 : World} (h : But p w w1) (hb : Below w.heap.size w1 w2) : But p w w2 :=
  ⟨hb.os.trans h.os, hb.tape.trans h.tape, hb.output.trans h.output, Nat.le_trans h.size hb.size, fun k hk hp => (hb.block k hk).trans (h.block k hk hp)⟩
theorem But.drew {p : Nat} {w w1 : World} (h : But p w w1) : But p w w1.drew := ⟨h.os, h.tape, h.output, h.size, h.block⟩
theorem But.put {p i : Nat} {w w1 : World} (h : But p w w1) (v : Value) : But p w (w1.setCell ⟨p, i, none⟩ v) :=
  ⟨h.os, h.tape, h.output, by simpa using h.size, fun k hk hp => by rw [Below.heap_setCell _ _ _ _ hp]; exact h.block k hk hp⟩
theorem But.on {p : Nat} {w w1 w2 : World} (h : But p w w1) (hb : Below w1.heap.size w1 w2) : But p w w2 := h.own (hb.mono h.size)
theorem own_but {w w' : World} {base p : Nat} {e : TypeId} {size : Nat} {v : Value} {n : Nat} {xs : List Value} (h : w.ownsRow base e size v n xs) (hb : But p w w') (hp : p < base) : w'.ownsRow base e size v n xs := by
  refine ⟨h.1, ?_⟩
  rcases h.2 with hn | ⟨g, cap, cur, rfl, hb', hgg, rest⟩
  · exact .inl hn
  · exact .inr ⟨g, cap, cur, rfl, hb', by rw [hb.block g (Array.getElem?_eq_some_iff.1 hgg).1 (by omega)]; exact hgg, rest⟩
theorem FourAt.keep {X Y : World} {p : Nat} {a b c d : Value} (h : FourAt X p a b c d) {lo : Nat} (hb : Below lo X Y) (hp : p < lo) : FourAt Y p a b c d := by
  obtain ⟨⟨h0, h1, h2, h3⟩, ⟨g0, g1, g2, g3⟩, hl⟩ := h
  exact ⟨⟨(hb.cell (p := ⟨p, 0, none⟩) hp).trans h0, (hb.cell (p := ⟨p, 1, none⟩) hp).trans h1, (hb.cell (p := ⟨p, 2, none⟩) hp).trans h2, (hb.cell (p := ⟨p, 3, none⟩) hp).trans h3⟩,
    ⟨(hb.frozen (p := ⟨p, 0, none⟩) hp).trans g0, (hb.frozen (p := ⟨p, 1, none⟩) hp).trans g1, (hb.frozen (p := ⟨p, 2, none⟩) hp).trans g2, (hb.frozen (p := ⟨p, 3, none⟩) hp).trans g3⟩, Nat.lt_of_lt_of_le hl hb.size⟩

/-- what lineage hands back: a row of its own, the lists inside below block hi -/
def LinV (w : World) (base hi : Nat) (v : Value) (l : List Idn.Cl) : Prop :=
  ∃ xs, w.ownsRow base 50 4 v l.length xs ∧ ∀ (i : Nat) (x : Idn.Cl), l[i]? = some x → ∃ cs : List Value, cs.length = 4 ∧ EC w hi x cs ∧ ∀ (j : Nat) (u : Value), cs[j]? = some u → xs[i * 4 + j]? = some u
theorem LinV.cls {w : World} {base hi : Nat} {v : Value} {l : List Idn.Cl} (h : LinV w base hi v l) (hhi : hi ≤ w.heap.size) : ClassesV w w.heap.size v l := by
  obtain ⟨xs, h1, h2⟩ := h
  exact SlV.keepE (SlV.own h1 h2) (Below.refl _ _) fun _ _ _ he => he.mono hhi
theorem own_base {w : World} {base base' : Nat} {e : TypeId} {size : Nat} {v : Value} {n : Nat} {xs : List Value} (h : w.ownsRow base e size v n xs) (hb : base' ≤ base) : w.ownsRow base' e size v n xs := by
  refine ⟨h.1, ?_⟩
  rcases h.2 with hn | ⟨g, cap, cur, rfl, hb', rest⟩
  · exact .inl hn
  · exact .inr ⟨g, cap, cur, rfl, by omega, rest⟩
theorem LinV.base {w : World} {base base' hi : Nat} {v : Value} {l : List Idn.Cl} (h : LinV w base hi v l) (hb : base' ≤ base) : LinV w base' hi v l := by
  obtain ⟨xs, h1, h2⟩ := h
  exact ⟨xs, own_base h1 hb, h2⟩
theorem cls_out {w : World} {hi base : Nat} {es : List (Bs × Value)} {l : List Idn.Cl} {acc : List Nat} {v : Value} (h : ClsIs w hi es l) (_hhi : hi ≤ w.heap.size) (ha : ∀ k ∈ acc, k < l.length) (hown : w.ownsRow base 50 4 v acc.length (acc.flatMap (cellsAt es))) :
    LinV w base hi v (acc.filterMap (l[·]?)) := by
  obtain ⟨h1, _, h2⟩ := cells_read h acc ha
  rw [← h1] at hown
  exact ⟨_, hown, h2⟩

set_option maxHeartbeats 2000000 in
set_option maxRecDepth 100000 in
theorem lineage_lin (m1 m2 : Value) (s : Idn.Sch) (hi : Nat) (n : ByteArray) (w : World) (hk : KnV w hi m1 m2 s) (hh : hi ≤ w.heap.size) (hd : Idn.Dec s.classes) (hs : SSm s) (hn : n.size ≤ 1000000000) :
    Calls Tryz.prog 74 #[.agg #[m1, m2], .string n] w fun e w' => ∃ v, e = .returned v ∧ Below w.heap.size w w' ∧ LinV w' w.heap.size hi v ((Idn.lin s (L n)).filterMap (s.classes[·]?)) := by
  obtain ⟨o1, o2, rfl, rfl⟩ := hk.shape
  obtain ⟨_, es, hm, hcls⟩ := hk
  have hK := hcls.K
  have hl := fun W => lower_any n W (by omega)
  obtain ⟨ua, ub, A3, k3, c3, A4, k4, c4, hua⟩ := hcls.Sh.val (Idn.ixC s.classes (L n))
  go_enter Tryz.func74, Tryz.ntmps74
  go_wp2
  with_reducible refine gen1 (R := fun W => Code.wp Tryz.prog _ _ _ W) ?_
  intro W hbW hszW hc1 _
  have b1 := hc1 1 _ rfl
  clear hc1
  have hmW := hm.keep hbW
  have hS : ∀ W', Below W.heap.size W W' → W'.cell? ⟨w.heap.size, 1, none⟩ = some (.map o2) ∧ (Instr.lookup 67 (.map o2) (.string (B (Idn.lower (L n)))) true).run Tryz.prog W' = .ok (.tuple #[.agg #[.string ua, .string ub, .slice A3 k3 c3, .slice A4 k4 c4], .bool (Idn.ixC s.classes (L n)).isSome]) W' ∧ Below W.heap.size W W' := fun W' hW => by
    refine ⟨cell_later hW b1, ?_, hW⟩
    have := (hmW.keep hW).eqn hK (L n)
    rw [hua] at this
    exact this
  have hlow : w.heap.size < W.heap.size := by omega
  clear hszW
  generalize hq : Idn.ixC s.classes (L n) = q at *
  generalize hsb : q.isSome = sb at *
  have hw0 := Below.refl W.heap.size W
  go_region_held3 (fun W' => W'.cell? ⟨w.heap.size, 1, none⟩ = some (.map o2) ∧ (Instr.lookup 67 (.map o2) (.string (B (Idn.lower (L n)))) true).run Tryz.prog W' = .ok (.tuple #[.agg #[.string ua, .string ub, .slice A3 k3 c3, .slice A4 k4 c4], .bool sb]) W' ∧ Below W.heap.size W W')
    (first | (refine hS _ ?_; repeat (first | with_reducible exact Below.refl _ _ | with_reducible apply Below.drew | with_reducible refine Below.lay ?_ _ | with_reducible refine Below.setCell ?_ (by simp) _ | with_reducible refine Below.on ?_ hb3)))
    (first | (go_at_call 75; refine (hl _).mono ?_; rintro e w3 ⟨rfl, hb3⟩; first | have hn4 := four_new hb3 | skip))
  all_goals
    first
    | (with_reducible refine genF (R := fun X => Exit.then _ _ _ _ X) (lo := W.heap.size) (W := W) (p := w3.heap.size) ?_ (by repeat (first | with_reducible exact Below.refl _ _ | with_reducible apply Below.drew | with_reducible refine Below.lay ?_ _ | with_reducible refine Below.setCell ?_ (by simp) _ | with_reducible refine Below.on ?_ hb3)) (fourA _ _ _ _ _ _)
       intro X hbX hF
       have hple : W.heap.size ≤ w3.heap.size := hb3.size
       generalize w3.heap.size = p at hple hF ⊢)
    | (have hF0 : FourAt w3 W.heap.size _ _ _ _ := ⟨hn4.1, hn4.2, World.block_lt_of_cell? w3 _ hn4.1.1⟩
       with_reducible refine genF (R := fun X => Exit.then _ _ _ _ X) (lo := W.heap.size) (W := W) (p := W.heap.size) ?_ (by repeat (first | with_reducible exact Below.refl _ _ | with_reducible apply Below.drew | with_reducible refine Below.lay ?_ _ | with_reducible refine Below.setCell ?_ (by simp) _ | with_reducible refine Below.on ?_ hb3)) (fourB hF0 _ _ _ _)
       intro X hbX hF
       have hple : W.heap.size ≤ W.heap.size := Nat.le_refl _
       obtain ⟨p, hp⟩ : ∃ p, p = W.heap.size := ⟨_, rfl⟩
       rw [← hp] at hF ⊢
       have hple : W.heap.size ≤ p := by omega
       clear hp)
    have b1X := cell_later hbX b1
    have hmX := hmW.keep hbX
    have hbwX := hbW.trans (hbX.mono hbW.size)
    clear hS hw0 hl
    have hlen := hs.2.1
    go_wp2
    go_loopg [5, 7] s.classes.length (fun gg v ok wr => ∃ (acc : List Nat) (o : Option Nat) (a b : ByteArray) (A : Option Addr) (k c : Nat) (A' : Option Addr) (k' c' : Nat), ok = .bool o.isSome ∧ wr.ownsRow X.heap.size 50 4 v acc.length (acc.flatMap (cellsAt es)) ∧ FourAt wr p (.string a) (.string b) (.slice A k c) (.slice A' k' c') ∧ But p X wr ∧
      Aside (valAt es o = .agg #[.string a, .string b, .slice A k c, .slice A' k' c']) ∧ Aside (∀ j ∈ acc, j < s.classes.length) ∧ Aside (∀ j, o = some j → j < gg) ∧ acc.length + gg ≤ s.classes.length ∧ Aside (acc ++ Idn.linK s.classes gg o = Idn.lin s (L n)))
    case atStart =>
      refine ⟨[], q, ua, ub, A3, k3, c3, A4, k4, c4, by rw [hsb], World.ownsRow_nil _ _ _ _, hF, But.refl _ _, hua, fun j hj => by simp at hj, fun j hj => ?_, by simp, by show _ = _; rw [Idn.lin, hq]; rfl⟩
      rw [← hq] at hj
      exact Idn.ixC_lt _ _ _ hj
    case round =>
      obtain ⟨acc, o, a, b, A, k, c, A', k', c', rfl, hown, hF4, hbt, hval, hacc, hog, hag, hinv⟩ := hrel
      have hbwr : Below w.heap.size w wr := hbwX.trans (hbt.below (by omega) (by have := hbX.size; omega))
      cases o with
      | none =>
        have HF : Hid (Idn.lin s (L n) = acc) := by show _ = _; rw [← hinv.out, Idn.linK_none, List.append_nil]
        have hcl := cls_out (hcls.keep (hbwr.mono hh)) (Nat.le_trans hh hbwr.size) hacc.out hown
        clear hinv hval hog hacc
        go_wp2
        go_ret
        exact ⟨_, rfl, hbwr, by rw [HF.out]; exact hcl.base hbwX.size⟩
      | some i =>
        have hig := hog.out i rfl
        have hil : i < s.classes.length := by omega
        obtain ⟨vv, uu, e1, e2, _, _⟩ := hcls.val hil
        have hb0 : b = B s.classes[i].super := by
          rw [hval.out] at e1
          injection e1 with e1
          have e1 := congrArg Array.toList e1
          simp only [List.cons.injEq] at e1
          injection e1.2.1
        have hcell : cellsAt es i = [.string a, .string b, .slice A k c, .slice A' k' c'] := by rw [cellsAt, hval.out]
        have hup : Idn.up1 s.classes i = if s.classes[i].super.isEmpty then none else Idn.ixC s.classes s.classes[i].super := by rw [Idn.up1]; simp [hil]
        have hstep : acc ++ [i] ++ Idn.linK s.classes (gk - 1) (Idn.up1 s.classes i) = Idn.lin s (L n) := by
          rw [← hinv.out, show gk = (gk - 1) + 1 by omega, Idn.linK_some, Nat.add_sub_cancel]; simp
        have hdec := hd i
        have hsl : b.size ≤ 1000000000 := by rw [hb0, Idn.size_B]; exact (hs.2.2 s.classes[i] (List.getElem_mem hil)).2.1
        have hLb : L b = s.classes[i].super := by rw [hb0, Idn.L_B]
        have hemp : b.toList.isEmpty = s.classes[i].super.isEmpty := by rw [toList_L, hLb]
        rw [← hLb] at hup
        have Hstep := Lib.hid hstep
        have Hup := Lib.hid hup
        have Hcell := Lib.hid hcell
        have hacc' : Aside (∀ j ∈ acc ++ [i], j < s.classes.length) := fun j hj => by
          rcases List.mem_append.1 hj with hj | hj
          · exact hacc.out j hj
          · simp at hj; omega
        clear hstep hup hcell e1 e2 hinv hacc hval hog hb0
        obtain ⟨⟨q0, q1, q2, q3⟩, ⟨f0, f1, f2, f3⟩, hpl⟩ := hF4
        have hbs := hbt.size
        go_wp2_with (at_builtin; refine wpList_push wr rfl _ _ 23 rfl X.heap.size 50 zCl 4 80 Tryz.underlying23 info_cl rfl (by decide) _ acc.length _ hown rfl [.string a, .string b, .slice A k c, .slice A' k' c'] rfl rfl (by intro u hu; simp at hu; rcases hu with rfl | rfl | rfl | rfl <;> rfl) (by omega) hbs ?_ rfl)
        intro v' w1 hown' _ _ hb' _
        have hbt' := hbt.own hb'
        have hF5 : FourAt w1 p (.string a) (.string b) (.slice A k c) (.slice A' k' c') := FourAt.keep ⟨⟨q0, q1, q2, q3⟩, ⟨f0, f1, f2, f3⟩, hpl⟩ hb' hF.2.2
        have hF5d : FourAt w1.drew p (.string a) (.string b) (.slice A k c) (.slice A' k' c') := hF5
        obtain ⟨⟨q0', q1', q2', q3'⟩, ⟨f0', f1', f2', f3'⟩, hpl'⟩ := hF5
        clear hown q0 q1 q2 q3 f0 f1 f2 f3 hbt hbwr
        have hbw1 : Below w.heap.size w w1 := hbwX.trans (hbt'.below (by omega) (by have := hbX.size; omega))
        have hown2 : w1.ownsRow X.heap.size 50 4 v' (acc ++ [i]).length ((acc ++ [i]).flatMap (cellsAt es)) := by
          rw [List.flatMap_append, List.length_append]
          simpa [Hcell.out] using hown'
        clear hown'
        cases he : s.classes[i].super.isEmpty
        · rw [he] at hemp
          have hup2 : Idn.up1 s.classes i = Idn.ixC s.classes (L b) := by rw [Hup.out, hLb, if_neg (by simp [he])]
          have hl2 := fun W => lower_any b W (by omega)
          obtain ⟨a2, b2, A5, k5, c5, A6, k6, c6, hv2⟩ := hcls.Sh.val (Idn.ixC s.classes (L b))
          have hS : ∀ W', But p w1 W' → W'.cell? ⟨w.heap.size, 1, none⟩ = some (.map o2) ∧ (Instr.lookup 67 (.map o2) (.string (B (Idn.lower (L b)))) true).run Tryz.prog W' = .ok (.tuple #[.agg #[.string a2, .string b2, .slice A5 k5 c5, .slice A6 k6 c6], .bool (Idn.ixC s.classes (L b)).isSome]) W' ∧ But p w1 W' := fun W' hW => by
            have hXW : But p X W' := hbt'.trans hW
            have hbW' : Below w.heap.size w W' := hbwX.trans (hXW.below (by omega) (by have := hbX.size; omega))
            refine ⟨hXW.cell b1X (by have := hbX.size; omega) (by omega), ?_, hW⟩
            have := (hm.keep hbW').eqn hK (L b)
            rw [hv2] at this
            exact this
          have Hup2 := Lib.hid hup2
          have Hv2 := Lib.hid hv2
          clear hup2 hv2 Hup Hcell
          generalize hq2 : Idn.ixC s.classes (L b) = q2 at *
          generalize hsb2 : q2.isSome = sb2 at *
          have Hsb2 := Lib.hid hsb2
          have HLb := Lib.hid hLb
          clear hsb2 hq2 he hLb
          have hw0 := But.refl p w1
          go_wp2
          have hw1d : But p w1 w1.drew := But.drew hw0
          have z1 : w1.drew.cell? ⟨w.heap.size, 1, none⟩ = some (.map o2) := (hS _ hw1d).1
          have q1d : w1.drew.cell? ⟨p, 1, none⟩ = some (.string b) := q1'
          go_region_law (
            go_simp
            go_at_call 75
            refine (hl2 _).mono ?_
            rintro e w6 ⟨rfl, hb6⟩
            have hw6 : But p w1 w6 := But.on hw1d hb6
            obtain ⟨z6, y6, _⟩ := hS w6 hw6
            have hF6 : FourAt w6 p (.string a) (.string b) (.slice A k c) (.slice A' k' c') := FourAt.keep hF5d hb6 hpl'
            obtain ⟨⟨r0, r1, r2, r3⟩, ⟨g0, g1, g2, g3⟩, hpl6⟩ := hF6
            go_wp2_with fail)
          all_goals
            have hfin := fourB (FourAt.keep hF5d hb6 hpl') (.string a2) (.string b2) (.slice A5 k5 c5) (.slice A6 k6 c6)
            have hbf : But p w1 ((((w6.setCell ⟨p, 0, none⟩ (.string a2)).setCell ⟨p, 1, none⟩ (.string b2)).setCell ⟨p, 2, none⟩ (.slice A5 k5 c5)).setCell ⟨p, 3, none⟩ (.slice A6 k6 c6)) := by
              repeat (first | with_reducible exact But.refl _ _ | with_reducible apply But.drew | with_reducible refine But.put ?_ _ | with_reducible refine But.on ?_ hb6)
            have hog2 : ∀ j, q2 = some j → j < gk - 1 := fun j hj => by have := hdec j (by rw [Hup2.out]; exact hj); omega
            go_wp2
            go_roundg (gk - 1)
            case measure => omega
            case rel =>
              exact ⟨acc ++ [i], q2, a2, b2, A5, k5, c5, A6, k6, c6, by rw [Hsb2.out], own_but hown2 hbf hF.2.2, hfin, hbt'.trans hbf, Hv2.out, hacc', hog2, by simp; omega, by have h := Hstep.out; rw [Hup2.out] at h; exact h⟩
        · rw [he] at hemp
          have HF : Hid (Idn.lin s (L n) = acc ++ [i]) := by show _ = _; rw [← Hstep.out, Hup.out, hLb, if_pos he, Idn.linK_none, List.append_nil]
          have hcl := cls_out (hcls.keep (hbw1.mono hh)) (Nat.le_trans hh hbw1.size) hacc'.out hown2
          go_wp2
          go_ret
          exact ⟨_, rfl, hbw1, by rw [HF.out]; exact hcl.base hbwX.size⟩
theorem lineage_any (m1 m2 : Value) (s : Idn.Sch) (hi : Nat) (n : ByteArray) (w : World) (hk : KnV w hi m1 m2 s) (hh : hi ≤ w.heap.size) (hd : Idn.Dec s.classes) (hs : SSm s) (hn : n.size ≤ 1000000000) :
    Calls Tryz.prog 74 #[.agg #[m1, m2], .string n] w fun e w' => ∃ v, e = .returned v ∧ Below w.heap.size w w' ∧ ClassesV w' w'.heap.size v ((Idn.lin s (L n)).filterMap (s.classes[·]?)) :=
  (lineage_lin m1 m2 s hi n w hk hh hd hs hn).mono fun _ _ ⟨v, h1, h2, h3⟩ => ⟨v, h1, h2, h3.cls (Nat.le_trans hh h2.size)⟩
end Go.Proofs.YtnikolglippfmaaGreatDoor
/- schema: Parse at the chapter's example. -/
namespace Go.Proofs.YtnikolglippfmaaGreatDoor
open Go.RowKit Go.Sort
open Idn (L B Bs drop_L take_L size_L)

def sType : ByteArray := ⟨#[116, 121, 112, 101]⟩
def sAge : ByteArray := ⟨#[97, 103, 101]⟩
def sInt : ByteArray := ⟨#[105, 110, 116]⟩
theorem quiet_lay {W : World} {b : Nat} (h : True) : True := h
set_option maxHeartbeats 1000000 in
set_option maxRecDepth 100000 in
theorem readType_age (g c : Nat) (w : World) (h0 : w.cell? ⟨g, 0, none⟩ = some (.string sType)) (h1 : w.cell? ⟨g, 1, none⟩ = some (.string sAge)) (h2 : w.cell? ⟨g, 2, none⟩ = some (.string sInt)) :
    Calls Tryz.prog 113 #[.slice (some ⟨g, 0, none⟩) 3 c] w fun e w' => e = .returned (.tuple #[.agg #[.string sAge, .int .i64 3, .bool false], .bool true]) ∧ Below w.heap.size w w' := by
  have hN := fun W => name_any sAge W (by decide)
  have en : Idn.name (L sAge) = true := by decide
  rw [en] at hN
  have hW1 := fun W => word_any 1 W
  have hW2 := fun W => word_any 2 W
  have hW3 := fun W => word_any 3 W
  have t1 : ((B (Idn.word 1)).toList == sInt.toList) = false := str_not (by decide)
  have t2 : ((B (Idn.word 2)).toList == sInt.toList) = false := str_not (by decide)
  have t3 : ((B (Idn.word 3)).toList == sInt.toList) = true := str_is (by decide)
  generalize B (Idn.word 1) = b1 at *
  generalize B (Idn.word 2) = b2 at *
  generalize B (Idn.word 3) = b3 at *
  clear en
  generalize sType = xT at *
  generalize sAge = xA at *
  generalize sInt = xI at *
  have hg : g < w.heap.size := World.block_lt_of_cell? _ _ h0
  go_enter Tryz.func113, Tryz.ntmps113
  go_wp2_with (go_at_call 92; refine (hN _).mono ?_; rintro e w' ⟨rfl, rfl⟩)
  with_reducible refine gen1 (R := fun W => Code.wp Tryz.prog _ _ _ W) ?_
  intro W hbW hszW hc1 hf1
  have r0 := hc1 0 _ rfl
  have r1 := hc1 1 _ rfl
  have r2 := hc1 2 _ rfl
  have f0 := hf1 0
  have f1 := hf1 1
  have f2 := hf1 2
  clear hc1 hf1
  have hlt : w.heap.size < W.heap.size := by omega
  clear hszW
  have n0 := cell_later hbW h0
  have n1 := cell_later hbW h1
  have n2 := cell_later hbW h2
  clear h0 h1 h2
  go_loopw [5] (fun i wr => ∃ k : Int, (k = 1 ∨ k = 2 ∨ k = 3) ∧ i = .int .i64 k ∧ Below W.heap.size W wr) (fun i _ => (10 - intOf i).toNat)
  case atStart => exact ⟨1, .inl rfl, rfl, Below.refl _ _⟩
  case round =>
    obtain ⟨k, hk, rfl, hb⟩ := hrel
    have m0 := cell_later hb n0
    have m1 := cell_later hb n1
    have m2 := cell_later hb n2
    have k2 := cell_regrown m2
    rcases hk with rfl | rfl | rfl
    · have hq := cq0 (W := wr) hW1
      go_wp2
      refine wp_region_quiet_below (by kernel_rfl) (by kernel_rfl) ?_
      repeat (first | go_big_quiet_step ((go_at_call 107; exact hq _ _)) | quiet_step ((go_at_call 107; exact hq _ _)))
      refine wpQuiet_nil ?_
      intro _ hw'
      obtain ⟨⟨dq, osq⟩, hw''⟩ := hw'
      subst hw''
      have hb2 := below_regrown wr dq osq
      generalize grow (redrawn wr dq) osq = W2 at hb2 ⊢
      go_wp2
      go_roundw
      case rel => exact ⟨2, .inr (.inl rfl), rfl, hb.trans (hb2.mono hb.size)⟩
      case measure => simp [intOf]
    · have hq := cq0 (W := wr) hW2
      go_wp2
      refine wp_region_quiet_below (by kernel_rfl) (by kernel_rfl) ?_
      repeat (first | go_big_quiet_step ((go_at_call 107; exact hq _ _)) | quiet_step ((go_at_call 107; exact hq _ _)))
      refine wpQuiet_nil ?_
      intro _ hw'
      obtain ⟨⟨dq, osq⟩, hw''⟩ := hw'
      subst hw''
      have hb2 := below_regrown wr dq osq
      generalize grow (redrawn wr dq) osq = W2 at hb2 ⊢
      go_wp2
      go_roundw
      case rel => exact ⟨3, .inr (.inr rfl), rfl, hb.trans (hb2.mono hb.size)⟩
      case measure => simp [intOf]
    · have hq := cq0 (W := wr) hW3
      go_wp2
      refine wp_region_quiet_below (by kernel_rfl) (by kernel_rfl) ?_
      repeat (first | go_big_quiet_step ((go_at_call 107; exact hq _ _)) | quiet_step ((go_at_call 107; exact hq _ _)))
      refine wpQuiet_nil ?_
      intro _ hw'
      obtain ⟨⟨dq, osq⟩, hw''⟩ := hw'
      subst hw''
      have hb2 := below_regrown wr dq osq
      generalize grow (redrawn wr dq) osq = W2 at hb2 ⊢
      have hbt := hb.trans (hb2.mono hb.size)
      replace m1 := cell_later hb2 m1
      have R0 := cell_later hbt r0
      have R1 := cell_later hbt r1
      have R2 := cell_later hbt r2
      have G0 := (hbt.frozen (p := ⟨w.heap.size, 0, none⟩) hlt).trans f0
      have G1 := (hbt.frozen (p := ⟨w.heap.size, 1, none⟩) hlt).trans f1
      have G2 := (hbt.frozen (p := ⟨w.heap.size, 2, none⟩) hlt).trans f2
      go_wp2
      exact bodyPost_ret (v := .tuple #[.agg #[.string xA, .int .i64 3, .bool false], .bool true]) (by simp [results, Tryz.results113, go_sem, R0, R1, R2, G0, G1, G2]) rfl ⟨rfl, (((hbW.trans (hbt.mono hbW.size)).setCell (by simp) _).setCell (by simp) _).setCell (by simp) _⟩

def sLine : ByteArray := ⟨#[116, 121, 112, 101, 32, 97, 103, 101, 32, 105, 110, 116]⟩
def ageT : Idn.AT := ⟨[97, 103, 101], 3, false⟩
theorem splitLine : Lib.countB sLine ⟨#[32]⟩ = 2 ∧ Lib.splitB ⟨#[32]⟩ 0 2 sLine = [sType, sAge, sInt] := by decide
theorem info_at : (Tryz.prog.info? 58).map (fun i => (i.zero, i.size, i.bytes)) = some (some (.agg #[.string ⟨#[]⟩, .int .i64 0, .bool false]), 3, 32) := by kernel_rfl
theorem age_own {w : World} {base : Nat} {v : Value} (h : w.ownsRow base 58 3 v 1 [.string sAge, .int .i64 3, .bool false]) : TypesV w w.heap.size v [ageT] := by
  refine SlV.own (base := base) (e := 58) (xs := [.string sAge, .int .i64 3, .bool false]) h fun i x hx => ?_
  match i, hx with
  | 0, hx =>
    simp at hx
    subst hx
    exact ⟨[.string sAge, .int .i64 3, .bool false], rfl, rfl, fun j u hu => by simpa using hu⟩
set_option maxHeartbeats 1000000 in
set_option maxRecDepth 100000 in
theorem read_age (w : World) (hE : Env w) :
    Calls Tryz.prog 65 #[.agg #[.slice none 0 0, .slice none 0 0], .string sLine] w fun e w' => ∃ v, e = .returned (.tuple #[.agg #[v, .slice none 0 0], .bool true]) ∧ w'.ownsRow w.heap.size 58 3 v 1 [.string sAge, .int .i64 3, .bool false] ∧ Below w.heap.size w w' := by
  have hSp := fun W (h : Env W) => let ⟨⟨m, h1⟩, _⟩ := h; Tryz.strings_Split sLine ⟨#[32]⟩ m W (by decide) h1 (by decide)
  rw [splitLine.1, splitLine.2] at hSp
  have tt : (sType.toList == [116, 121, 112, 101]) = true := by rw [toList_L]; decide
  generalize sLine = xl at *
  go_enter Tryz.func65, Tryz.ntmps65
  go_wp2_with fail
  with_reducible refine gen2g (R := fun W => Calls Tryz.prog 112 _ W _) ?_
  intro W hbW hszW hc1 hc2 hf1 hf2
  have b0 : W.cell? ⟨w.heap.size, 0, none⟩ = some (.slice none 0 0) := hc1 0 _ rfl
  have b1 : W.cell? ⟨w.heap.size, 1, none⟩ = some (.slice none 0 0) := hc1 1 _ rfl
  have r0 : W.cell? ⟨w.heap.size + 1, 0, none⟩ = some (.slice none 0 0) := hc2 0 _ rfl
  have r1 : W.cell? ⟨w.heap.size + 1, 1, none⟩ = some (.slice none 0 0) := hc2 1 _ rfl
  have f0 := hf2 0
  have f1 := hf2 1
  have g0 := hf1 0
  clear hc1 hc2 hf1 hf2
  refine (hSp W (hE.keep hbW)).mono ?_
  rintro e w1 ⟨rfl, hw1⟩
  have hb1 : Below W.heap.size W w1 := by rw [hw1]; exact (Below.refl _ _).alloc (Nat.le_refl _) _
  have hnew := heap_alloc_new W (.cells (List.map Value.string [sType, sAge, sInt]).toArray 9)
  have n0 : w1.cell? ⟨W.heap.size, 0, none⟩ = some (.string sType) := by rw [hw1, cell_of_row _ W.heap.size 0 _ _ (0, 0) hnew]; rfl
  have n1 : w1.cell? ⟨W.heap.size, 1, none⟩ = some (.string sAge) := by rw [hw1, cell_of_row _ W.heap.size 1 _ _ (0, 0) hnew]; rfl
  have n2 : w1.cell? ⟨W.heap.size, 2, none⟩ = some (.string sInt) := by rw [hw1, cell_of_row _ W.heap.size 2 _ _ (0, 0) hnew]; rfl
  clear hw1 hnew hSp
  have hRT := readType_age W.heap.size (2 + 1) w1 n0 n1 n2
  generalize sType = xT at *
  replace b0 := cell_later hb1 b0
  replace b1 := cell_later hb1 b1
  replace r0 := cell_later hb1 r0
  replace r1 := cell_later hb1 r1
  replace g0 := frozen_later hb1 g0 (by omega)
  replace f0 := (hb1.frozen (p := ⟨w.heap.size + 1, 0, none⟩) (by show w.heap.size + 1 < _; omega)).trans f0
  replace f1 := (hb1.frozen (p := ⟨w.heap.size + 1, 1, none⟩) (by show w.heap.size + 1 < _; omega)).trans f1
  have hbw1 := hbW.trans (hb1.mono hbW.size)
  have hl1 : w.heap.size + 1 < W.heap.size := by omega
  simp only [Nat.reduceAdd] at hRT
  have hl2 : w.heap.size + 1 < w1.heap.size := by have := hb1.size; omega
  clear hszW
  go_wp2_with fail
  refine hRT.mono ?_
  rintro e w2 ⟨rfl, hb2⟩
  replace b0 := cell_later hb2 b0
  replace b1 := cell_later hb2 b1
  replace r0 := cell_later hb2 r0
  replace r1 := cell_later hb2 r1
  replace g0 := frozen_later hb2 g0 (by omega)
  replace f0 := (hb2.frozen (p := ⟨w.heap.size + 1, 0, none⟩) (by show w.heap.size + 1 < _; omega)).trans f0
  replace f1 := (hb2.frozen (p := ⟨w.heap.size + 1, 1, none⟩) (by show w.heap.size + 1 < _; omega)).trans f1
  have hl3 : w.heap.size + 1 < w2.heap.size := by have := hb2.size; omega
  have hl4 : w.heap.size < w2.heap.size := by omega
  have hbw2 := hbw1.trans (hb2.mono hbw1.size)
  clear hRT n0 n1 n2 hl1 hl2 hb1 hb2 hE
  have hown0 := World.ownsRow_nil (w2.alloc (.cells #[.string sAge, .int .i64 3, .bool false] 58)) w2.heap.size 58 3
  have Hsza : Hid ((w2.alloc (.cells #[.string sAge, .int .i64 3, .bool false] 58)).heap.size = w2.heap.size + 1) := by show _ = _; simp
  have hbs : w2.heap.size ≤ (w2.alloc (.cells #[.string sAge, .int .i64 3, .bool false] 58)).heap.size := by simp
  go_wp2_with (at_builtin; refine wpList_push (w2.alloc (.cells #[.string sAge, .int .i64 3, .bool false] 58)) rfl _ _ 22 rfl w2.heap.size 58 (.agg #[.string ⟨#[]⟩, .int .i64 0, .bool false]) 3 32 Tryz.underlying22 info_at rfl (by decide) _ 0 _ hown0 rfl [.string sAge, .int .i64 3, .bool false] (by rw [Hsza.out]; rfl) rfl (by intro u hu; simp at hu; rcases hu with rfl | rfl | rfl <;> rfl) (by omega) hbs ?_ rfl)
  intro v' w3 hown' _ _ hb3 _
  obtain ⟨A3, c3, hu⟩ := own_shape hown'
  subst hu
  have hb23 : Below w2.heap.size w2 w3 := ((Below.refl _ _).alloc (Nat.le_refl _) _).trans hb3
  replace b1 := cell_later hb23 b1
  replace b0 := cell_later hb23 b0
  replace r0 := cell_later hb23 r0
  replace r1 := cell_later hb23 r1
  replace g0 := frozen_later hb23 g0 (by omega)
  replace f0 := frozen_later hb23 f0 (by omega)
  replace f1 := frozen_later hb23 f1 (by omega)
  have hl5 : w.heap.size + 1 < w3.heap.size := by have := hb23.size; omega
  have hl6 : w.heap.size < w3.heap.size := by omega
  clear hown0 hbs hb3
  go_wp2
  go_region
  go_wp2
  refine bodyPost_ret (v := .tuple #[.agg #[.slice A3 1 c3, .slice none 0 0], .bool true]) (by simp [results, Tryz.results65, go_sem, r0, r1, f0, f1, b0, b1]) rfl ⟨_, rfl, ?_, ?_⟩
  · refine own_base (own_above hown' ?_) hbw2.size
    intro k hk
    show (((w3.setCell ⟨w.heap.size, 0, none⟩ (.slice A3 1 c3)).setCell ⟨w.heap.size + 1, 0, none⟩ (.slice A3 1 c3)).setCell ⟨w.heap.size + 1, 1, none⟩ (.slice none 0 0)).heap[k]? = _
    rw [Below.heap_setCell _ _ _ _ (by show k ≠ w.heap.size + 1; omega), Below.heap_setCell _ _ _ _ (by show k ≠ w.heap.size + 1; omega), Below.heap_setCell _ _ _ _ (by show k ≠ w.heap.size; omega)]
  · exact (((((hbw2.trans (hb23.mono hbw2.size)).setCell (by simp) _).setCell (by simp) _).setCell (by simp) _)).drew
end Go.Proofs.YtnikolglippfmaaGreatDoor
/- law07: few. -/
namespace Go.Proofs.YtnikolglippfmaaGreatDoor
open Go.RowKit Go.Sort
open Idn (L B Bs drop_L take_L size_L)

def fewC (c : Idn.Cl) : Bool := decide (c.name.length ≤ 70) && (decide (c.super.length ≤ 70) && (short c.must && short c.may))
def few (s : Idn.Sch) : Bool := s.types.all (fun t => decide (t.name.length ≤ 70)) && (s.classes.all fewC && (decide (s.types.length ≤ 70) && decide (s.classes.length ≤ 40)))
set_option maxHeartbeats 1000000 in
set_option maxRecDepth 100000 in
theorem few_any (v : Value) (s : Idn.Sch) (w : World) (hv : SchV w w.heap.size v s) (ht : s.types.length ≤ 9223372036854775807) (hc : s.classes.length ≤ 9223372036854775807) (hm : ∀ c ∈ s.classes, c.must.length ≤ 9223372036854775807 ∧ c.may.length ≤ 9223372036854775807) :
    Calls Tryz.prog 8 #[v] w fun e w' => e = .returned (.bool (few s)) ∧ Below w.heap.size w w' := by
  obtain ⟨a, b, rfl, hT, hC⟩ := hv
  obtain ⟨A, ca, rfl, hca⟩ := SlV.shape hT
  obtain ⟨A', cb, rfl, hcb⟩ := SlV.shape hC
  generalize hr : few s = r
  have hR := Lib.hid hr
  clear hr
  go_enter Tryz.func8, Tryz.ntmps8
  go_wp2
  with_reducible refine gen1 (R := fun W => Code.wp Tryz.prog _ _ _ W) ?_
  intro W hbW hszW hc1 _
  have b0 := hc1 0 _ rfl
  have b1 := hc1 1 _ rfl
  clear hc1
  go_loop [3] (fun i => ∃ k : Nat, k ≤ s.types.length ∧ i = .int .i64 k ∧ Hid (s.types.all (fun t => decide (t.name.length ≤ 70)) = (s.types.drop k).all (fun t => decide (t.name.length ≤ 70)))) (fun i => s.types.length - (intOf i).toNat)
  case atStart => exact ⟨0, Nat.zero_le _, rfl, by show _ = _; simp⟩
  case round =>
    obtain ⟨k, hk, rfl, hinv⟩ := hrel
    by_cases hlt : k < s.types.length
    · obtain ⟨b, off, rfl, hbl, c0, _, _⟩ := TypesV.cell (SlV.keep hT hbW) hlt
      have hd := List.drop_eq_getElem_cons hlt
      have hltI : (k : Int) < (s.types.length : Int) := by omega
      have hsz := Idn.size_B s.types[k].name
      by_cases he : s.types[k].name.length ≤ 70
      · have HF : Hid (s.types.all (fun t => decide (t.name.length ≤ 70)) = (s.types.drop (k + 1)).all (fun t => decide (t.name.length ≤ 70))) := by show _ = _; rw [hinv.out, hd, List.all_cons, decide_eq_true he, Bool.true_and]
        have h1 : ((B s.types[k].name).size : Int) ≤ 70 := by omega
        clear hd hsz he hinv
        go_wp2
        go_round
        case rel => exact ⟨k + 1, by omega, by go_num, HF⟩
        case measure => simp [intOf]; omega
      · have HF : Hid (r = false) := by show _ = _; rw [← hR.out, few, hinv.out, hd, List.all_cons, decide_eq_false he]; rfl
        have h1 : (70 : Int) < ((B s.types[k].name).size : Int) := by omega
        clear hd hsz he hinv
        go_wp2
        go_ret
        exact ⟨ret_bool (by rw [HF.out]), hbW⟩
    · have hA : Hid (r = (s.classes.all fewC && (decide (s.types.length ≤ 70) && decide (s.classes.length ≤ 40)))) := by show _ = _; rw [← hR.out, few, hinv.out, List.drop_eq_nil_of_le (by omega)]; rfl
      have hltI : ¬ (k : Int) < (s.types.length : Int) := by omega
      clear hinv hR
      go_wp2
      clear hltI hlt
      go_loopw [4] (fun i wr => ∃ k : Nat, k ≤ s.classes.length ∧ i = .int .i64 k ∧ Below W.heap.size W wr ∧ Hid (s.classes.all fewC = (s.classes.drop k).all fewC)) (fun i _ => s.classes.length - (intOf i).toNat)
      case atStart => exact ⟨0, Nat.zero_le _, rfl, Below.refl _ _, by show _ = _; simp⟩
      case round =>
        obtain ⟨k, hk, rfl, hb, hinv⟩ := hrel
        replace b0 := cell_later hb b0
        replace b1 := cell_later hb b1
        by_cases hlt : k < s.classes.length
        · obtain ⟨b, off, vm, vn, rfl, hbl, c0, c1, c2, c3, hm', hn'⟩ := ClassesV.cell hC hlt
          obtain ⟨Am, cm, rfl, hcm⟩ := SlV.shape hm'
          obtain ⟨An, cn, rfl, hcn⟩ := SlV.shape hn'
          have hbw := hbW.trans (hb.mono hbW.size)
          obtain ⟨hx1, hx2⟩ := hm s.classes[k] (List.getElem_mem hlt)
          have hSm := fun W' (hW' : Below w.heap.size w W') => short_any _ s.classes[k].must W' (SlV.mono (SlV.keep hm' hW') hW'.size) hx1
          have hSn := fun W' (hW' : Below w.heap.size w W') => short_any _ s.classes[k].may W' (SlV.mono (SlV.keep hn' hW') hW'.size) hx2
          replace c0 := cell_later hbw c0
          replace c1 := cell_later hbw c1
          replace c2 := cell_later hbw c2
          replace c3 := cell_later hbw c3
          have hd := List.drop_eq_getElem_cons hlt
          have hltI : (k : Int) < (s.classes.length : Int) := by omega
          have ba := (Below.refl wr.heap.size wr).alloc (Nat.le_refl _) (.cells #[.string (B s.classes[k].name), .string (B s.classes[k].super), .slice Am s.classes[k].must.length cm, .slice An s.classes[k].may.length cn] 50)
          obtain ⟨⟨d0, d1, d2, d3⟩, _, _⟩ := fourA wr (.string (B s.classes[k].name)) (.string (B s.classes[k].super)) (.slice Am s.classes[k].must.length cm) (.slice An s.classes[k].may.length cn) 50
          have hbA := hb.trans (ba.mono hb.size)
          have hz1 := Idn.size_B s.classes[k].name
          have hz2 := Idn.size_B s.classes[k].super
          have hq : s.classes.all fewC = (fewC s.classes[k] && (s.classes.drop (k + 1)).all fewC) := by rw [hinv.out, hd, List.all_cons]
          clear ba hd hinv hbw
          by_cases n1 : s.classes[k].name.length ≤ 70
          case neg =>
            have HF : Hid (r = false) := by show _ = _; rw [hA.out, hq, fewC, decide_eq_false n1]; rfl
            have h1 : (70 : Int) < ((B s.classes[k].name).size : Int) := by omega
            clear hq n1 hz1 hz2
            go_wp2
            go_ret
            exact ⟨ret_bool (by rw [HF.out]), hbW.trans (hbA.mono hbW.size)⟩
          have h1 : ((B s.classes[k].name).size : Int) ≤ 70 := by omega
          by_cases n2 : s.classes[k].super.length ≤ 70
          case neg =>
            have HF : Hid (r = false) := by show _ = _; rw [hA.out, hq, fewC, decide_eq_true n1, decide_eq_false n2]; rfl
            have h2 : (70 : Int) < ((B s.classes[k].super).size : Int) := by omega
            clear hq n1 n2 hz1 hz2
            go_wp2
            go_ret
            exact ⟨ret_bool (by rw [HF.out]), hbW.trans (hbA.mono hbW.size)⟩
          have h2 : ((B s.classes[k].super).size : Int) ≤ 70 := by omega
          have hq2 : Hid (s.classes.all fewC = ((short s.classes[k].must && short s.classes[k].may) && (s.classes.drop (k + 1)).all fewC)) := by show _ = _; rw [hq, fewC, decide_eq_true n1, decide_eq_true n2]; rfl
          clear hq n1 n2 hz1 hz2
          cases n3 : short s.classes[k].must
          · have HF : Hid (r = false) := by show _ = _; rw [hA.out, hq2.out, n3]; rfl
            rw [n3] at hSm
            go_wp2_with (go_at_call 31; (first | with_reducible refine (hSm _ (hbW.trans (hbA.mono hbW.size))).mono ?_ | with_reducible refine (hSn _ (hbW.trans (hbA.mono hbW.size))).mono ?_); rintro e w5 ⟨rfl, hb5⟩; replace d2 := cell_later hb5 d2; replace d3 := cell_later hb5 d3; replace hbA := hbA.trans (hb5.mono hbA.size))
            go_ret
            exact ⟨ret_bool (by rw [HF.out]), hbW.trans (hbA.mono hbW.size)⟩
          rw [n3] at hSm
          cases n4 : short s.classes[k].may
          · have HF : Hid (r = false) := by show _ = _; rw [hA.out, hq2.out, n3, n4]; rfl
            rw [n4] at hSn
            go_wp2_with (go_at_call 31; (first | with_reducible refine (hSm _ (hbW.trans (hbA.mono hbW.size))).mono ?_ | with_reducible refine (hSn _ (hbW.trans (hbA.mono hbW.size))).mono ?_); rintro e w5 ⟨rfl, hb5⟩; replace d2 := cell_later hb5 d2; replace d3 := cell_later hb5 d3; replace hbA := hbA.trans (hb5.mono hbA.size))
            go_ret
            exact ⟨ret_bool (by rw [HF.out]), hbW.trans (hbA.mono hbW.size)⟩
          rw [n4] at hSn
          have HF : Hid (s.classes.all fewC = (s.classes.drop (k + 1)).all fewC) := by show _ = _; rw [hq2.out, n3, n4]; rfl
          go_wp2_with (go_at_call 31; (first | with_reducible refine (hSm _ (hbW.trans (hbA.mono hbW.size))).mono ?_ | with_reducible refine (hSn _ (hbW.trans (hbA.mono hbW.size))).mono ?_); rintro e w5 ⟨rfl, hb5⟩; replace d2 := cell_later hb5 d2; replace d3 := cell_later hb5 d3; replace hbA := hbA.trans (hb5.mono hbA.size))
          go_roundw
          case rel => exact ⟨k + 1, by omega, by go_num, hbA, HF⟩
          case measure => simp [intOf]; omega
        · have HF : Hid (r = (decide (s.types.length ≤ 70) && decide (s.classes.length ≤ 40))) := by show _ = _; rw [hA.out, hinv.out, List.drop_eq_nil_of_le (by omega)]; rfl
          have hltI : ¬ (k : Int) < (s.classes.length : Int) := by omega
          have hdd : decide (s.types.length ≤ 70) = decide ((s.types.length : Int) ≤ 70) := by simp; omega
          have hee : decide (s.classes.length ≤ 40) = decide ((s.classes.length : Int) ≤ 40) := by simp; omega
          clear hinv hlt
          have hbw := hbW.trans (hb.mono hbW.size)
          by_cases h1 : (s.types.length : Int) ≤ 70
          · have HG : Hid (r = decide ((s.classes.length : Int) ≤ 40)) := by show _ = _; rw [HF.out, hdd, hee, decide_eq_true h1]; rfl
            clear hdd hee HF hA
            go_wp2
            go_ret
            exact ⟨ret_bool (by rw [HG.out]), hbw⟩
          · have HG : Hid (r = false) := by show _ = _; rw [HF.out, hdd, decide_eq_false h1]; rfl
            have h1' : decide ((s.types.length : Int) ≤ 70) = false := decide_eq_false h1
            clear hdd hee HF hA h1
            go_wp2
            go_ret
            exact ⟨ret_bool (by rw [HG.out]), hbw⟩
end Go.Proofs.YtnikolglippfmaaGreatDoor
