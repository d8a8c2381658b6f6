/- Part 16 of the proof that what Parse reads of a class's description is what the text says, and what it writes Parse reads back: the package variables hold what the program lays; nothing else is asked. -/
import Derived.Test.YtnikolglippfmaaGreatDoorTxs01
import Derived.Test.YtnikolglippfmaaGreatDoorTxs09
import Derived.Test.YtnikolglippfmaaGreatDoorTxs13
import Derived.Test.YtnikolglippfmaaGreatDoorTxs15
import Derived.Test.YtnikolglippfmaaGreatDoorShelf
import Derived.Laws.Concat
import Derived.RegionTactic
import Derived.BigRegion
/- schema: word, orNone, typeLine, classLine. -/
namespace Go.Proofs.YtnikolglippfmaaGreatDoor
open Go.RowKit Go.Sort
open Idn (L B Bs drop_L take_L size_L)

theorem join_is (sep : Bs) (l : List Bs) : Lib.join l sep = Idn.joinL sep l := by
  cases l with
  | nil => rfl
  | cons x l =>
    rw [Lib.join_cons]
    show _ = x ++ Idn.joinR sep l
    congr 1
    induction l with
    | nil => rfl
    | cons y l ih => simp only [Lib.joinTail, List.map_cons, List.flatten_cons, Idn.joinR, List.append_assoc] at *; rw [ih]
theorem join_any (v : Value) (l : List Bs) (sep : ByteArray) (w : World) (hv : StrsV w w.heap.size v l) (hl : l.length ≤ 100000) (hs : ∀ x ∈ l, x.length ≤ 1000000000) (hsep : sep.size ≤ 1000) :
    Calls Tryz.prog 108 #[v, .string sep] w fun e w' => e = .returned (.string (B (Idn.joinL (L sep) l))) ∧ Below w.heap.size w w' := by
  obtain ⟨A, c, rfl, hc⟩ := hv.shape
  by_cases h0 : l.length = 0
  · have hl0 : l = [] := List.eq_nil_of_length_eq_zero h0
    subst hl0
    exact (Tryz.strings_Join_none A c sep w).mono fun e w' ⟨h1, h2⟩ => ⟨h1, h2 ▸ Below.refl _ _⟩
  · obtain ⟨b, off, rfl, hb, _⟩ := StrsV.cell hv (k := 0) (by omega)
    have hmap : (l.map B).map (fun x => x.data.toList) = l := by simp [Function.comp_def, B]
    have hlen := Idn.length_joinL (L sep) 1000000000 l hs
    have hmul : l.length * (1000000000 + (L sep).length) ≤ 100000 * (1000000000 + (L sep).length) := Nat.mul_le_mul_right _ hl
    have h := Tryz.strings_Join b off c (l.map B) sep w (fun j x hj => by
      rw [List.getElem?_map] at hj
      obtain ⟨y, hy, rfl⟩ := Option.map_eq_some_iff.1 hj
      obtain ⟨hjl, rfl⟩ := List.getElem?_eq_some_iff.1 hy
      obtain ⟨b', off', hA', _, hcc⟩ := StrsV.cell hv hjl
      injection hA' with hA'
      injection hA' with h1 h2
      subst h1 h2
      exact hcc) hb (by simp; omega) (by simpa using hc) (by rw [hmap, join_is]; have := size_L sep; show (Idn.joinL (L sep) l).length ≤ _; omega)
    rw [hmap, join_is, List.length_map] at h
    exact h

set_option maxRecDepth 100000 in
theorem word_any (x : Int) (w : World) : Calls Tryz.prog 107 #[.int .i64 x] w fun e w' => e = .returned (.string (B (Idn.word x))) ∧ w = w' := by
  unfold Idn.word
  by_cases h1 : x = 1
  · have e1 : (x == 1) = true := by simpa using h1
    rw [if_pos h1]
    clear h1
    go_enter Tryz.func107, Tryz.ntmps107
    go_wp2
    go_ret
    exact ⟨rfl, rfl⟩
  have e1 : (x == 1) = false := by simpa using h1
  rw [if_neg h1]
  by_cases h2 : x = 2
  · have e2 : (x == 2) = true := by simpa using h2
    rw [if_pos h2]
    clear h1 h2
    go_enter Tryz.func107, Tryz.ntmps107
    go_wp2
    go_ret
    exact ⟨rfl, rfl⟩
  have e2 : (x == 2) = false := by simpa using h2
  rw [if_neg h2]
  by_cases h3 : x = 3
  · have e3 : (x == 3) = true := by simpa using h3
    rw [if_pos h3]
    clear h1 h2 h3
    go_enter Tryz.func107, Tryz.ntmps107
    go_wp2
    go_ret
    exact ⟨rfl, rfl⟩
  have e3 : (x == 3) = false := by simpa using h3
  rw [if_neg h3]
  by_cases h4 : x = 4
  · have e4 : (x == 4) = true := by simpa using h4
    rw [if_pos h4]
    clear h1 h2 h3 h4
    go_enter Tryz.func107, Tryz.ntmps107
    go_wp2
    go_ret
    exact ⟨rfl, rfl⟩
  have e4 : (x == 4) = false := by simpa using h4
  rw [if_neg h4]
  clear h1 h2 h3 h4
  go_enter Tryz.func107, Tryz.ntmps107
  go_wp2
  go_ret
  exact ⟨rfl, rfl⟩
theorem orNone_any (s : ByteArray) (w : World) : Calls Tryz.prog 109 #[.string s] w fun e w' => e = .returned (.string (B (Idn.orDash (L s)))) ∧ w = w' := by
  unfold Idn.orDash
  cases h : (L s).isEmpty
  · have e1 : s.toList.isEmpty = false := by rw [toList_L]; exact h
    clear h
    go_enter Tryz.func109, Tryz.ntmps109
    go_wp2
    go_ret
    exact ⟨rfl, rfl⟩
  · have e1 : s.toList.isEmpty = true := by rw [toList_L]; exact h
    clear h
    go_enter Tryz.func109, Tryz.ntmps109
    go_wp2
    go_ret
    exact ⟨rfl, rfl⟩
theorem L_app (s t : ByteArray) : L (s ++ t) = L s ++ L t := by
  show (s ++ t).data.toList = _
  rw [ByteArray.data_append]; simp [L]
theorem B_app (a b : Bs) : B a ++ B b = B (a ++ b) := by
  apply Idn.L_inj; rw [L_app]; rfl
theorem run_add {P : Program} {a b : Bs} {s t : ByteArray} (hs : s = B a) (ht : t = B b) (h : a.length + b.length ≤ 9223372036854775807) (w : World) : (Op.stringOp .add s t).run P w = .ok (.string (B (a ++ b))) w := by
  subst hs ht
  rw [run_string_add_sum w _ _ (by rw [Idn.size_B, Idn.size_B]; exact h), B_app]
set_option maxHeartbeats 1000000 in
set_option maxRecDepth 100000 in
theorem typeLine_any (t : Idn.AT) (w : World) (hn : t.name.length ≤ 1000000000) : Calls Tryz.prog 57 #[tyV t] w fun e w' => e = .returned (.string (B (Idn.tyLine t))) ∧ Below w.heap.size w w' := by
  unfold tyV
  rw [sv]
  have hW := fun W => word_any t.syn W
  have hl := Idn.length_word t.syn
  obtain ⟨n, x, g⟩ := t
  dsimp only at *
  have hres : Idn.tyLine ⟨n, x, g⟩ = (([116, 121, 112, 101, 32] ++ n) ++ [32] ++ Idn.word x) ++ (if g then [32, 115, 105, 110, 103, 108, 101] else []) := rfl
  have a1 := fun W => run_add (P := Tryz.prog) (a := [116, 121, 112, 101, 32]) (b := n) (s := ⟨#[116, 121, 112, 101, 32]⟩) rfl rfl (by simp; omega) W
  have a2 := fun W => run_add (P := Tryz.prog) (a := [116, 121, 112, 101, 32] ++ n) (b := [32]) (t := ⟨#[32]⟩) rfl rfl (by simp; omega) W
  have a3 := fun W => run_add (P := Tryz.prog) (a := ([116, 121, 112, 101, 32] ++ n) ++ [32]) (b := Idn.word x) rfl rfl (by simp; omega) W
  have a4 := fun W => run_add (P := Tryz.prog) (a := ([116, 121, 112, 101, 32] ++ n) ++ [32] ++ Idn.word x) (b := [32, 115, 105, 110, 103, 108, 101]) (t := ⟨#[32, 115, 105, 110, 103, 108, 101]⟩) rfl rfl (by simp; omega) W
  generalize hm : [116, 121, 112, 101, 32] ++ n = m at *
  generalize hm2 : m ++ [32] = m2 at *
  generalize hm3 : m2 ++ Idn.word x = m3 at *
  generalize Idn.word x = wd at *
  clear hm hm2 hm3 hl
  have Hres := Lib.hid hres
  clear hres
  cases g
  · go_enter Tryz.func57, Tryz.ntmps57
    go_wp2
    with_reducible refine gen1 (R := fun W => Code.wp Tryz.prog _ _ _ W) ?_
    intro W hbW hszW hc1 _
    have b0 := hc1 0 _ rfl
    have b1 := hc1 1 _ rfl
    have b2 := hc1 2 _ rfl
    clear hc1
    have hq := cq0 (W := W) hW
    have k0 := cell_regrown b0
    have k1 := cell_regrown b1
    clear a4
    refine wp_region_quiet_below (by kernel_rfl) (by kernel_rfl) ?_
    repeat (first | go_big_quiet_step ((go_at_call 107; exact hq _ _)) | quiet_step ((go_at_call 107; exact hq _ _)))
    refine wpQuiet_nil ?_
    intro _ hw'
    obtain ⟨⟨dq, osq⟩, hw''⟩ := hw'
    subst hw''
    have hb2 := below_regrown W dq osq
    generalize grow (redrawn W dq) osq = W2 at hb2 ⊢
    replace b2 := cell_later hb2 b2
    go_wp2
    go_ret
    exact ⟨ret_str (by rw [Hres.out]; simp), hbW.trans (hb2.mono hbW.size)⟩
  · go_enter Tryz.func57, Tryz.ntmps57
    go_wp2
    with_reducible refine gen1 (R := fun W => Code.wp Tryz.prog _ _ _ W) ?_
    intro W hbW hszW hc1 _
    have b0 := hc1 0 _ rfl
    have b1 := hc1 1 _ rfl
    have b2 := hc1 2 _ rfl
    clear hc1
    have hq := cq0 (W := W) hW
    have k0 := cell_regrown b0
    have k1 := cell_regrown b1
    refine wp_region_quiet_below (by kernel_rfl) (by kernel_rfl) ?_
    repeat (first | go_big_quiet_step ((go_at_call 107; exact hq _ _)) | quiet_step ((go_at_call 107; exact hq _ _)))
    refine wpQuiet_nil ?_
    intro _ hw'
    obtain ⟨⟨dq, osq⟩, hw''⟩ := hw'
    subst hw''
    have hb2 := below_regrown W dq osq
    generalize grow (redrawn W dq) osq = W2 at hb2 ⊢
    replace b2 := cell_later hb2 b2
    go_wp2
    go_ret
    exact ⟨ret_str (by rw [Hres.out]; simp), hbW.trans (hb2.mono hbW.size)⟩
end Go.Proofs.YtnikolglippfmaaGreatDoor
/- schema: classLine. -/
namespace Go.Proofs.YtnikolglippfmaaGreatDoor
open Go.RowKit Go.Sort
open Idn (L B Bs drop_L take_L size_L)

theorem join_new (W : World) (l : List Bs) (sep : ByteArray) (t0 : TypeId) (n : Nat) (hn : n = l.length) (h0 : 0 < l.length) (hl : l.length ≤ 100000) (hs : ∀ x ∈ l, x.length ≤ 1000000000) (hsep : sep.size ≤ 1000) (C : Array Value) (hC : C = (l.map sv).toArray) :
    Calls Tryz.prog 108 #[.slice (some ⟨W.heap.size, 0, none⟩) n n, .string sep] (W.alloc (.cells C t0)) fun e w' => e = .returned (.string (B (Idn.joinL (L sep) l))) ∧ Below (W.alloc (.cells C t0)).heap.size (W.alloc (.cells C t0)) w' := by
  subst hC hn
  refine (join_any _ l sep _ ?_ hl hs hsep).mono fun e w' ⟨h1, h2⟩ => ⟨h1, h2⟩
  refine ⟨_, _, rfl, Nat.le_refl _, fun _ => ⟨W.heap.size, 0, rfl, by simp, fun i x hx => ⟨[sv x], rfl, rfl, fun j u hu => ?_⟩⟩⟩
  have e1 := heap_alloc_new W (.cells (l.map sv).toArray t0)
  match j, hu with
  | 0, hu =>
    simp at hu
    subst hu
    rw [cell_of_row _ W.heap.size _ _ _ (0, 0) e1]
    simp [hx]
set_option maxHeartbeats 2000000 in
set_option maxRecDepth 100000 in
theorem classLine_any (v u : Value) (c : Idn.Cl) (w : World) (hv : StrsV w w.heap.size v c.must) (hu : StrsV w w.heap.size u c.may) (hn : c.name.length ≤ 1000000) (hsu : c.super.length ≤ 1000000) (hm : c.must.length ≤ 64) (hm' : c.may.length ≤ 64) (hmx : ∀ x ∈ c.must, x.length ≤ 1000000) (hnx : ∀ x ∈ c.may, x.length ≤ 1000000) :
    Calls Tryz.prog 58 #[.agg #[.string (B c.name), .string (B c.super), v, u]] w fun e w' => e = .returned (.string (B (Idn.clLine c))) ∧ Below w.heap.size w w' := by
  have hJ1 := fun W (hb : Below w.heap.size w W) => join_any v c.must ⟨#[44]⟩ W (SlV.mono (SlV.keep hv hb) hb.size) (by omega) (fun x hx => by have := hmx x hx; omega) (by decide)
  have hJ2 := fun W (hb : Below w.heap.size w W) => join_any u c.may ⟨#[44]⟩ W (SlV.mono (SlV.keep hu hb) hb.size) (by omega) (fun x hx => by have := hnx x hx; omega) (by decide)
  have l1 := Idn.length_joinL [44] 1000000 c.must hmx
  have l2 := Idn.length_joinL [44] 1000000 c.may hnx
  have hO1 := fun W => orNone_any (B c.super) W
  have hO2 := fun W => orNone_any (B (Idn.joinL [44] c.must)) W
  have hO3 := fun W => orNone_any (B (Idn.joinL [44] c.may)) W
  rw [Idn.L_B] at hO1 hO2 hO3
  have e44 : L ⟨#[44]⟩ = [44] := rfl
  rw [e44] at hJ1 hJ2
  have hlast := fun W => join_new W [[99, 108, 97, 115, 115], c.name, Idn.orDash c.super, Idn.orDash (Idn.joinL [44] c.must), Idn.orDash (Idn.joinL [44] c.may)] ⟨#[32]⟩ 9 5 rfl (by simp) (by simp) (by
    have o1 := Idn.length_orDash c.super
    have o2 := Idn.length_orDash (Idn.joinL [44] c.must)
    have o3 := Idn.length_orDash (Idn.joinL [44] c.may)
    have q1 : c.must.length * (1000000 + 1) ≤ 64 * (1000000 + 1) := Nat.mul_le_mul_right _ hm
    have q2 : c.may.length * (1000000 + 1) ≤ 64 * (1000000 + 1) := Nat.mul_le_mul_right _ hm'
    simp only [List.length_cons, List.length_nil] at l1 l2
    intro x hx
    simp only [List.mem_cons, List.not_mem_nil, or_false] at hx
    rcases hx with rfl | rfl | rfl | rfl | rfl
    · simp
    · omega
    · omega
    · omega
    · omega) (by decide) #[.string ⟨#[99, 108, 97, 115, 115]⟩, .string (B c.name), .string (B (Idn.orDash c.super)), .string (B (Idn.orDash (Idn.joinL [44] c.must))), .string (B (Idn.orDash (Idn.joinL [44] c.may)))] rfl
  have hres : Idn.clLine c = Idn.joinL (L ⟨#[32]⟩) [[99, 108, 97, 115, 115], c.name, Idn.orDash c.super, Idn.orDash (Idn.joinL [44] c.must), Idn.orDash (Idn.joinL [44] c.may)] := rfl
  rw [← hres] at hlast
  clear hres l1 l2 hn hsu hm hm' hmx hnx e44
  generalize Idn.orDash c.super = x1 at *
  generalize Idn.orDash (Idn.joinL [44] c.must) = x2 at *
  generalize Idn.orDash (Idn.joinL [44] c.may) = x3 at *
  generalize Idn.joinL [44] c.must = y2 at *
  generalize Idn.joinL [44] c.may = y3 at *
  generalize Idn.clLine c = res at *
  obtain ⟨Am, cm, rfl, hcm⟩ := hv.shape
  obtain ⟨An, cn, rfl, hcn⟩ := hu.shape
  clear hv hu
  go_enter Tryz.func58, Tryz.ntmps58
  go_wp2
  with_reducible refine gen1 (R := fun W => Code.wp Tryz.prog _ _ _ W) ?_
  intro W hbW hszW hc1 _
  have b0 := hc1 0 _ rfl
  have b1 := hc1 1 _ rfl
  have b2 := hc1 2 _ rfl
  have b3 := hc1 3 _ rfl
  clear hc1
  have hS : ∀ W', Below W.heap.size W W' → W'.cell? ⟨w.heap.size, 0, none⟩ = some (.string (B c.name)) ∧ W'.cell? ⟨w.heap.size, 1, none⟩ = some (.string (B c.super)) ∧ W'.cell? ⟨w.heap.size, 2, none⟩ = some (.slice Am c.must.length cm) ∧ W'.cell? ⟨w.heap.size, 3, none⟩ = some (.slice An c.may.length cn) ∧ Below W.heap.size W W' := fun W' hb => by
    have hl : w.heap.size < W.heap.size := by omega
    exact ⟨cell_later hb b0, cell_later hb b1, cell_later hb b2, cell_later hb b3, hb⟩
  clear b0 b1 b2 b3
  have hJ1' := fun W' (h : W'.cell? ⟨w.heap.size, 0, none⟩ = some (.string (B c.name)) ∧ W'.cell? ⟨w.heap.size, 1, none⟩ = some (.string (B c.super)) ∧ W'.cell? ⟨w.heap.size, 2, none⟩ = some (.slice Am c.must.length cm) ∧ W'.cell? ⟨w.heap.size, 3, none⟩ = some (.slice An c.may.length cn) ∧ Below W.heap.size W W') => (hJ1 W' (hbW.trans (h.2.2.2.2.mono hbW.size))).mono fun e w' ⟨h1, h2⟩ => (⟨h1, Below.on h.2.2.2.2 h2⟩ : _ ∧ Below W.heap.size W w')
  have hJ2' := fun W' (h : W'.cell? ⟨w.heap.size, 0, none⟩ = some (.string (B c.name)) ∧ W'.cell? ⟨w.heap.size, 1, none⟩ = some (.string (B c.super)) ∧ W'.cell? ⟨w.heap.size, 2, none⟩ = some (.slice Am c.must.length cm) ∧ W'.cell? ⟨w.heap.size, 3, none⟩ = some (.slice An c.may.length cn) ∧ Below W.heap.size W W') => (hJ2 W' (hbW.trans (h.2.2.2.2.mono hbW.size))).mono fun e w' ⟨h1, h2⟩ => (⟨h1, Below.on h.2.2.2.2 h2⟩ : _ ∧ Below W.heap.size W w')
  have hlast' := fun W1 W' (hW : W' = W1.alloc (.cells #[.string ⟨#[99, 108, 97, 115, 115]⟩, .string (B c.name), .string (B x1), .string (B x2), .string (B x3)] 9)) (h : W'.cell? ⟨w.heap.size, 0, none⟩ = some (.string (B c.name)) ∧ W'.cell? ⟨w.heap.size, 1, none⟩ = some (.string (B c.super)) ∧ W'.cell? ⟨w.heap.size, 2, none⟩ = some (.slice Am c.must.length cm) ∧ W'.cell? ⟨w.heap.size, 3, none⟩ = some (.slice An c.may.length cn) ∧ Below W.heap.size W W') => (hlast W1).mono fun e w' ⟨h1, h2⟩ => (⟨h1, Below.on h.2.2.2.2 (hW ▸ h2)⟩ : _ ∧ Below W.heap.size W w')
  clear hJ1 hJ2 hlast
  have hw0 := Below.refl W.heap.size W
  go_region_held3 (fun W' => W'.cell? ⟨w.heap.size, 0, none⟩ = some (.string (B c.name)) ∧ W'.cell? ⟨w.heap.size, 1, none⟩ = some (.string (B c.super)) ∧ W'.cell? ⟨w.heap.size, 2, none⟩ = some (.slice Am c.must.length cm) ∧ W'.cell? ⟨w.heap.size, 3, none⟩ = some (.slice An c.may.length cn) ∧ Below W.heap.size W W')
    (first | (refine hS _ ?_; repeat (first | with_reducible exact Below.refl _ _ | with_reducible assumption | with_reducible exact And.right (And.right (And.right (And.right (by assumption)))) | with_reducible apply Below.drew | with_reducible refine Below.lay ?_ _ | with_reducible refine Below.on ?_ hb6)))
    (first | (go_at_call 109; (first | with_reducible refine (hO1 _).mono ?_ | with_reducible refine (hO2 _).mono ?_ | with_reducible refine (hO3 _).mono ?_); rintro e w6 ⟨rfl, rfl⟩) | (go_at_call 108; (first | with_reducible refine (hJ1' _ (by assumption)).mono ?_ | with_reducible refine (hJ2' _ (by assumption)).mono ?_ | with_reducible refine (hlast' _ _ rfl (by assumption)).mono ?_); rintro e w6 ⟨rfl, hb6⟩))
  all_goals
    go_wp2
    go_ret
    exact ⟨rfl, hbW.trans (hb6.mono hbW.size)⟩
end Go.Proofs.YtnikolglippfmaaGreatDoor
/- schema: Parse at the chapter's example. -/
namespace Go.Proofs.YtnikolglippfmaaGreatDoor
open Go.RowKit Go.Sort
open Idn (L B Bs drop_L take_L size_L)

def sType : ByteArray := ⟨#[116, 121, 112, 101]⟩
def sAge : ByteArray := ⟨#[97, 103, 101]⟩
def sInt : ByteArray := ⟨#[105, 110, 116]⟩
theorem quiet_lay {W : World} {b : Nat} (h : True) : True := h
set_option maxHeartbeats 1000000 in
set_option maxRecDepth 100000 in
theorem readType_age (g c : Nat) (w : World) (h0 : w.cell? ⟨g, 0, none⟩ = some (.string sType)) (h1 : w.cell? ⟨g, 1, none⟩ = some (.string sAge)) (h2 : w.cell? ⟨g, 2, none⟩ = some (.string sInt)) :
    Calls Tryz.prog 113 #[.slice (some ⟨g, 0, none⟩) 3 c] w fun e w' => e = .returned (.tuple #[.agg #[.string sAge, .int .i64 3, .bool false], .bool true]) ∧ Below w.heap.size w w' := by
  have hN := fun W => name_any sAge W (by decide)
  have en : Idn.name (L sAge) = true := by decide
  rw [en] at hN
  have hW1 := fun W => word_any 1 W
  have hW2 := fun W => word_any 2 W
  have hW3 := fun W => word_any 3 W
  have t1 : ((B (Idn.word 1)).toList == sInt.toList) = false := str_not (by decide)
  have t2 : ((B (Idn.word 2)).toList == sInt.toList) = false := str_not (by decide)
  have t3 : ((B (Idn.word 3)).toList == sInt.toList) = true := str_is (by decide)
  generalize B (Idn.word 1) = b1 at *
  generalize B (Idn.word 2) = b2 at *
  generalize B (Idn.word 3) = b3 at *
  clear en
  generalize sType = xT at *
  generalize sAge = xA at *
  generalize sInt = xI at *
  have hg : g < w.heap.size := World.block_lt_of_cell? _ _ h0
  go_enter Tryz.func113, Tryz.ntmps113
  go_wp2_with (go_at_call 92; refine (hN _).mono ?_; rintro e w' ⟨rfl, rfl⟩)
  with_reducible refine gen1 (R := fun W => Code.wp Tryz.prog _ _ _ W) ?_
  intro W hbW hszW hc1 hf1
  have r0 := hc1 0 _ rfl
  have r1 := hc1 1 _ rfl
  have r2 := hc1 2 _ rfl
  have f0 := hf1 0
  have f1 := hf1 1
  have f2 := hf1 2
  clear hc1 hf1
  have hlt : w.heap.size < W.heap.size := by omega
  clear hszW
  have n0 := cell_later hbW h0
  have n1 := cell_later hbW h1
  have n2 := cell_later hbW h2
  clear h0 h1 h2
  go_loopw [5] (fun i wr => ∃ k : Int, (k = 1 ∨ k = 2 ∨ k = 3) ∧ i = .int .i64 k ∧ Below W.heap.size W wr) (fun i _ => (10 - intOf i).toNat)
  case atStart => exact ⟨1, .inl rfl, rfl, Below.refl _ _⟩
  case round =>
    obtain ⟨k, hk, rfl, hb⟩ := hrel
    have m0 := cell_later hb n0
    have m1 := cell_later hb n1
    have m2 := cell_later hb n2
    have k2 := cell_regrown m2
    rcases hk with rfl | rfl | rfl
    · have hq := cq0 (W := wr) hW1
      go_wp2
      refine wp_region_quiet_below (by kernel_rfl) (by kernel_rfl) ?_
      repeat (first | go_big_quiet_step ((go_at_call 107; exact hq _ _)) | quiet_step ((go_at_call 107; exact hq _ _)))
      refine wpQuiet_nil ?_
      intro _ hw'
      obtain ⟨⟨dq, osq⟩, hw''⟩ := hw'
      subst hw''
      have hb2 := below_regrown wr dq osq
      generalize grow (redrawn wr dq) osq = W2 at hb2 ⊢
      go_wp2
      go_roundw
      case rel => exact ⟨2, .inr (.inl rfl), rfl, hb.trans (hb2.mono hb.size)⟩
      case measure => simp [intOf]
    · have hq := cq0 (W := wr) hW2
      go_wp2
      refine wp_region_quiet_below (by kernel_rfl) (by kernel_rfl) ?_
      repeat (first | go_big_quiet_step ((go_at_call 107; exact hq _ _)) | quiet_step ((go_at_call 107; exact hq _ _)))
      refine wpQuiet_nil ?_
      intro _ hw'
      obtain ⟨⟨dq, osq⟩, hw''⟩ := hw'
      subst hw''
      have hb2 := below_regrown wr dq osq
      generalize grow (redrawn wr dq) osq = W2 at hb2 ⊢
      go_wp2
      go_roundw
      case rel => exact ⟨3, .inr (.inr rfl), rfl, hb.trans (hb2.mono hb.size)⟩
      case measure => simp [intOf]
    · have hq := cq0 (W := wr) hW3
      go_wp2
      refine wp_region_quiet_below (by kernel_rfl) (by kernel_rfl) ?_
      repeat (first | go_big_quiet_step ((go_at_call 107; exact hq _ _)) | quiet_step ((go_at_call 107; exact hq _ _)))
      refine wpQuiet_nil ?_
      intro _ hw'
      obtain ⟨⟨dq, osq⟩, hw''⟩ := hw'
      subst hw''
      have hb2 := below_regrown wr dq osq
      generalize grow (redrawn wr dq) osq = W2 at hb2 ⊢
      have hbt := hb.trans (hb2.mono hb.size)
      replace m1 := cell_later hb2 m1
      have R0 := cell_later hbt r0
      have R1 := cell_later hbt r1
      have R2 := cell_later hbt r2
      have G0 := (hbt.frozen (p := ⟨w.heap.size, 0, none⟩) hlt).trans f0
      have G1 := (hbt.frozen (p := ⟨w.heap.size, 1, none⟩) hlt).trans f1
      have G2 := (hbt.frozen (p := ⟨w.heap.size, 2, none⟩) hlt).trans f2
      go_wp2
      exact bodyPost_ret (v := .tuple #[.agg #[.string xA, .int .i64 3, .bool false], .bool true]) (by simp [results, Tryz.results113, go_sem, R0, R1, R2, G0, G1, G2]) rfl ⟨rfl, (((hbW.trans (hbt.mono hbW.size)).setCell (by simp) _).setCell (by simp) _).setCell (by simp) _⟩

def sLine : ByteArray := ⟨#[116, 121, 112, 101, 32, 97, 103, 101, 32, 105, 110, 116]⟩
def ageT : Idn.AT := ⟨[97, 103, 101], 3, false⟩
theorem splitLine : Lib.countB sLine ⟨#[32]⟩ = 2 ∧ Lib.splitB ⟨#[32]⟩ 0 2 sLine = [sType, sAge, sInt] := by decide
theorem info_at : (Tryz.prog.info? 58).map (fun i => (i.zero, i.size, i.bytes)) = some (some (.agg #[.string ⟨#[]⟩, .int .i64 0, .bool false]), 3, 32) := by kernel_rfl
theorem age_own {w : World} {base : Nat} {v : Value} (h : w.ownsRow base 58 3 v 1 [.string sAge, .int .i64 3, .bool false]) : TypesV w w.heap.size v [ageT] := by
  refine SlV.own (base := base) (e := 58) (xs := [.string sAge, .int .i64 3, .bool false]) h fun i x hx => ?_
  match i, hx with
  | 0, hx =>
    simp at hx
    subst hx
    exact ⟨[.string sAge, .int .i64 3, .bool false], rfl, rfl, fun j u hu => by simpa using hu⟩
set_option maxHeartbeats 1000000 in
set_option maxRecDepth 100000 in
theorem read_age (w : World) (hE : Env w) :
    Calls Tryz.prog 65 #[.agg #[.slice none 0 0, .slice none 0 0], .string sLine] w fun e w' => ∃ v, e = .returned (.tuple #[.agg #[v, .slice none 0 0], .bool true]) ∧ w'.ownsRow w.heap.size 58 3 v 1 [.string sAge, .int .i64 3, .bool false] ∧ Below w.heap.size w w' := by
  have hSp := fun W (h : Env W) => let ⟨⟨m, h1⟩, _⟩ := h; Tryz.strings_Split sLine ⟨#[32]⟩ m W (by decide) h1 (by decide)
  rw [splitLine.1, splitLine.2] at hSp
  have tt : (sType.toList == [116, 121, 112, 101]) = true := by rw [toList_L]; decide
  generalize sLine = xl at *
  go_enter Tryz.func65, Tryz.ntmps65
  go_wp2_with fail
  with_reducible refine gen2g (R := fun W => Calls Tryz.prog 112 _ W _) ?_
  intro W hbW hszW hc1 hc2 hf1 hf2
  have b0 : W.cell? ⟨w.heap.size, 0, none⟩ = some (.slice none 0 0) := hc1 0 _ rfl
  have b1 : W.cell? ⟨w.heap.size, 1, none⟩ = some (.slice none 0 0) := hc1 1 _ rfl
  have r0 : W.cell? ⟨w.heap.size + 1, 0, none⟩ = some (.slice none 0 0) := hc2 0 _ rfl
  have r1 : W.cell? ⟨w.heap.size + 1, 1, none⟩ = some (.slice none 0 0) := hc2 1 _ rfl
  have f0 := hf2 0
  have f1 := hf2 1
  have g0 := hf1 0
  clear hc1 hc2 hf1 hf2
  refine (hSp W (hE.keep hbW)).mono ?_
  rintro e w1 ⟨rfl, hw1⟩
  have hb1 : Below W.heap.size W w1 := by rw [hw1]; exact (Below.refl _ _).alloc (Nat.le_refl _) _
  have hnew := heap_alloc_new W (.cells (List.map Value.string [sType, sAge, sInt]).toArray 9)
  have n0 : w1.cell? ⟨W.heap.size, 0, none⟩ = some (.string sType) := by rw [hw1, cell_of_row _ W.heap.size 0 _ _ (0, 0) hnew]; rfl
  have n1 : w1.cell? ⟨W.heap.size, 1, none⟩ = some (.string sAge) := by rw [hw1, cell_of_row _ W.heap.size 1 _ _ (0, 0) hnew]; rfl
  have n2 : w1.cell? ⟨W.heap.size, 2, none⟩ = some (.string sInt) := by rw [hw1, cell_of_row _ W.heap.size 2 _ _ (0, 0) hnew]; rfl
  clear hw1 hnew hSp
  have hRT := readType_age W.heap.size (2 + 1) w1 n0 n1 n2
  generalize sType = xT at *
  replace b0 := cell_later hb1 b0
  replace b1 := cell_later hb1 b1
  replace r0 := cell_later hb1 r0
  replace r1 := cell_later hb1 r1
  replace g0 := frozen_later hb1 g0 (by omega)
  replace f0 := (hb1.frozen (p := ⟨w.heap.size + 1, 0, none⟩) (by show w.heap.size + 1 < _; omega)).trans f0
  replace f1 := (hb1.frozen (p := ⟨w.heap.size + 1, 1, none⟩) (by show w.heap.size + 1 < _; omega)).trans f1
  have hbw1 := hbW.trans (hb1.mono hbW.size)
  have hl1 : w.heap.size + 1 < W.heap.size := by omega
  simp only [Nat.reduceAdd] at hRT
  have hl2 : w.heap.size + 1 < w1.heap.size := by have := hb1.size; omega
  clear hszW
  go_wp2_with fail
  refine hRT.mono ?_
  rintro e w2 ⟨rfl, hb2⟩
  replace b0 := cell_later hb2 b0
  replace b1 := cell_later hb2 b1
  replace r0 := cell_later hb2 r0
  replace r1 := cell_later hb2 r1
  replace g0 := frozen_later hb2 g0 (by omega)
  replace f0 := (hb2.frozen (p := ⟨w.heap.size + 1, 0, none⟩) (by show w.heap.size + 1 < _; omega)).trans f0
  replace f1 := (hb2.frozen (p := ⟨w.heap.size + 1, 1, none⟩) (by show w.heap.size + 1 < _; omega)).trans f1
  have hl3 : w.heap.size + 1 < w2.heap.size := by have := hb2.size; omega
  have hl4 : w.heap.size < w2.heap.size := by omega
  have hbw2 := hbw1.trans (hb2.mono hbw1.size)
  clear hRT n0 n1 n2 hl1 hl2 hb1 hb2 hE
  have hown0 := World.ownsRow_nil (w2.alloc (.cells #[.string sAge, .int .i64 3, .bool false] 58)) w2.heap.size 58 3
  have Hsza : Hid ((w2.alloc (.cells #[.string sAge, .int .i64 3, .bool false] 58)).heap.size = w2.heap.size + 1) := by show _ = _; simp
  have hbs : w2.heap.size ≤ (w2.alloc (.cells #[.string sAge, .int .i64 3, .bool false] 58)).heap.size := by simp
  go_wp2_with (at_builtin; refine wpList_push (w2.alloc (.cells #[.string sAge, .int .i64 3, .bool false] 58)) rfl _ _ 22 rfl w2.heap.size 58 (.agg #[.string ⟨#[]⟩, .int .i64 0, .bool false]) 3 32 Tryz.underlying22 info_at rfl (by decide) _ 0 _ hown0 rfl [.string sAge, .int .i64 3, .bool false] (by rw [Hsza.out]; rfl) rfl (by intro u hu; simp at hu; rcases hu with rfl | rfl | rfl <;> rfl) (by omega) hbs ?_ rfl)
  intro v' w3 hown' _ _ hb3 _
  obtain ⟨A3, c3, hu⟩ := own_shape hown'
  subst hu
  have hb23 : Below w2.heap.size w2 w3 := ((Below.refl _ _).alloc (Nat.le_refl _) _).trans hb3
  replace b1 := cell_later hb23 b1
  replace b0 := cell_later hb23 b0
  replace r0 := cell_later hb23 r0
  replace r1 := cell_later hb23 r1
  replace g0 := frozen_later hb23 g0 (by omega)
  replace f0 := frozen_later hb23 f0 (by omega)
  replace f1 := frozen_later hb23 f1 (by omega)
  have hl5 : w.heap.size + 1 < w3.heap.size := by have := hb23.size; omega
  have hl6 : w.heap.size < w3.heap.size := by omega
  clear hown0 hbs hb3
  go_wp2
  go_region
  go_wp2
  refine bodyPost_ret (v := .tuple #[.agg #[.slice A3 1 c3, .slice none 0 0], .bool true]) (by simp [results, Tryz.results65, go_sem, r0, r1, f0, f1, b0, b1]) rfl ⟨_, rfl, ?_, ?_⟩
  · refine own_base (own_above hown' ?_) hbw2.size
    intro k hk
    show (((w3.setCell ⟨w.heap.size, 0, none⟩ (.slice A3 1 c3)).setCell ⟨w.heap.size + 1, 0, none⟩ (.slice A3 1 c3)).setCell ⟨w.heap.size + 1, 1, none⟩ (.slice none 0 0)).heap[k]? = _
    rw [Below.heap_setCell _ _ _ _ (by show k ≠ w.heap.size + 1; omega), Below.heap_setCell _ _ _ _ (by show k ≠ w.heap.size + 1; omega), Below.heap_setCell _ _ _ _ (by show k ≠ w.heap.size; omega)]
  · exact (((((hbw2.trans (hb23.mono hbw2.size)).setCell (by simp) _).setCell (by simp) _).setCell (by simp) _)).drew
end Go.Proofs.YtnikolglippfmaaGreatDoor
