/- Part 20 of the proof that SchemaOrders: the package variables hold what the program lays; nothing else is asked. -/
import Derived.Test.YtnaaoilflokmfaaGreatDoorOdr15
import Derived.Test.YtnaaoilflokmfaaGreatDoorOdr18
import Derived.Test.YtnaaoilflokmfaaGreatDoorOdr19
/- schema: Text. -/
namespace Go.Proofs.YtnaaoilflokmfaaGreatDoor
open Go.RowKit Go.Sort
open Idn (L B Bs drop_L take_L size_L)

def tyK (l : List Idn.AT) (k : Nat) : Bs := Idn.tyLines (l.take k)
def clK (m : Bs) (l : List Idn.Cl) (k : Nat) : Bs := m ++ Idn.clLines (l.take k)
theorem tyK_succ (l : List Idn.AT) (k : Nat) (hk : k < l.length) : tyK l (k + 1) = tyK l k ++ (Idn.tyLine l[k] ++ [10]) := by
  unfold tyK Idn.tyLines; rw [List.take_succ_eq_append_getElem hk, List.flatMap_append]; simp
theorem clK_succ (m : Bs) (l : List Idn.Cl) (k : Nat) (hk : k < l.length) : clK m l (k + 1) = clK m l k ++ (Idn.clLine l[k] ++ [10]) := by
  unfold clK Idn.clLines; rw [List.take_succ_eq_append_getElem hk, List.flatMap_append]; simp
theorem strCells_B (a : Bs) : Lib.strCells (B a) = Lib.byteCells a := by simp [Lib.strCells, Lib.byteCells, B]
theorem byteCells_app (a b : Bs) : Lib.byteCells (a ++ b) = Lib.byteCells a ++ Lib.byteCells b := by simp [Lib.byteCells]
theorem length_tyLine (t : Idn.AT) (h : t.name.length ≤ 1000000) : (Idn.tyLine t ++ [10]).length ≤ 2000000 := by
  have := Idn.length_word t.syn
  unfold Idn.tyLine
  split <;> simp <;> omega
theorem length_clLine (c : Idn.Cl) (hn : c.name.length ≤ 1000000) (hsu : c.super.length ≤ 1000000) (hm : c.must.length ≤ 64) (hm' : c.may.length ≤ 64) (hmx : ∀ x ∈ c.must, x.length ≤ 1000000) (hnx : ∀ x ∈ c.may, x.length ≤ 1000000) : (Idn.clLine c ++ [10]).length ≤ 1000000000 := by
  have l1 := Idn.length_joinL [44] 1000000 c.must hmx
  have l2 := Idn.length_joinL [44] 1000000 c.may hnx
  have o1 := Idn.length_orDash c.super
  have o2 := Idn.length_orDash (Idn.joinL [44] c.must)
  have o3 := Idn.length_orDash (Idn.joinL [44] c.may)
  have q1 : c.must.length * (1000000 + 1) ≤ 64 * (1000000 + 1) := Nat.mul_le_mul_right _ hm
  have q2 : c.may.length * (1000000 + 1) ≤ 64 * (1000000 + 1) := Nat.mul_le_mul_right _ hm'
  simp only [List.length_cons, List.length_nil] at l1 l2
  unfold Idn.clLine
  generalize Idn.orDash (Idn.joinL [44] c.must) = z1 at *
  generalize Idn.orDash (Idn.joinL [44] c.may) = z2 at *
  generalize Idn.orDash c.super = z3 at *
  simp only [Idn.joinL, Idn.joinR, List.length_append, List.length_cons, List.length_nil]
  omega
theorem Bld.keep {lo b : Nat} {bs : List Value} {w w' : World} (h : Bld lo b bs w) (hb : Below w.heap.size w w') : Bld lo b bs w' := by
  have key : ∀ p, Lib.BuilderAtF 68 5 lo b p bs w → Lib.BuilderAtF 68 5 lo b p bs w' := by
    rintro p ⟨hB, v, hbk, hown, hne⟩
    refine ⟨hB, v, (hb.block b (Array.getElem?_eq_some_iff.1 hbk).1).trans hbk, ⟨hown.1, ?_⟩, hne⟩
    rcases hown.2 with hn | ⟨g, cap, cur, fz, hv, hb', hgg, rest⟩
    · exact .inl hn
    · exact .inr ⟨g, cap, cur, fz, hv, hb', (hb.block g (Array.getElem?_eq_some_iff.1 hgg).1).trans hgg, rest⟩
  rcases h with h | h
  · exact .inl (key _ h)
  · exact .inr (key _ h)
theorem Bld.new (w : World) : Bld w.heap.size w.heap.size [] (w.alloc (.cells #[.pointer none, .slice none 0 0] 68)) :=
  Lib.IsBuilderF.of (Lib.fresh_isBuilder _ _ _)
theorem Bld.bytes {lo b : Nat} {a : Bs} {s : ByteArray} {w : World} (h : Bld lo b (Lib.byteCells a ++ Lib.strCells s) w) : Bld lo b (Lib.byteCells (a ++ L s)) w := by
  rw [byteCells_app, ← strCells_B]; exact h
theorem byteCells_len (a : Bs) : (Lib.byteCells a).length = a.length := by simp [Lib.byteCells]
/-- small strings in a schema -/
def SSm6 (s : Idn.Sch) : Prop := (∀ t ∈ s.types, t.name.length ≤ 1000000) ∧ ∀ c ∈ s.classes, c.name.length ≤ 1000000 ∧ c.super.length ≤ 1000000 ∧ c.must.length ≤ 64 ∧ c.may.length ≤ 64 ∧ (∀ x ∈ c.must, x.length ≤ 1000000) ∧ ∀ x ∈ c.may, x.length ≤ 1000000
theorem flat_len8 {α β : Type} (f : α → List β) (c : Nat) : ∀ (l : List α), (∀ x ∈ l, (f x).length ≤ c) → (l.flatMap f).length ≤ l.length * c
  | [], _ => by simp
  | x :: l, h => by
    have := flat_len8 f c l (fun y hy => h y (List.mem_cons_of_mem _ hy))
    have h0 := h x List.mem_cons_self
    simp only [List.flatMap_cons, List.length_append, List.length_cons]
    rw [Nat.add_mul]; omega
theorem length_tyK (l : List Idn.AT) (k : Nat) (h : ∀ t ∈ l, t.name.length ≤ 1000000) : (tyK l k).length ≤ l.length * 2000000 := by
  unfold tyK Idn.tyLines
  have h1 := flat_len8 (fun t => Idn.tyLine t ++ [10]) 2000000 (l.take k) (fun t ht => length_tyLine t (h t (List.mem_of_mem_take ht)))
  have h2 : (l.take k).length ≤ l.length := by rw [List.length_take]; omega
  exact Nat.le_trans h1 (Nat.mul_le_mul_right _ h2)

set_option maxHeartbeats 1000000 in
set_option maxRecDepth 100000 in
theorem schText_any (v : Value) (s : Idn.Sch) (w : World) (hv : SchV w w.heap.size v s) (hs : SSm s) (h6 : SSm6 s) :
    Calls Tryz.prog 8 #[v] w fun e w' => e = .returned (.tuple #[.string (B (Idn.sText s).1), .int .i64 (Idn.sText s).2]) ∧ Below w.heap.size w w' := by
  have hE := fun W (hW : Below w.heap.size w W) => schCheck_any v s W (SchV.mono (SchV.keep hv hW) hW.size) hs
  obtain ⟨a, b, rfl, hT, hC⟩ := hv
  obtain ⟨A, ca, rfl, hca⟩ := SlV.shape hT
  obtain ⟨A', cb, rfl, hcb⟩ := SlV.shape hC
  generalize hrr : Idn.sText s = r
  have HR := Lib.hid hrr
  clear hrr
  by_cases h0 : Idn.sCheck s = 0
  case neg =>
    have HF : Hid (r = ([], Idn.sCheck s)) := by show _ = _; rw [← HR.out, Idn.sText, if_pos (by simpa using h0)]
    generalize Idn.sCheck s = x at *
    have hx : (x == 0) = false := by simpa using h0
    have hx' : (x != 0) = true := by simpa using h0
    clear h0
    go_enter Tryz.func8, Tryz.ntmps8
    go_wp2_with fail
    with_reducible refine gen1 (R := fun W => Calls Tryz.prog 11 _ W _) ?_
    intro W hbW hszW _ _
    refine (hE W hbW).mono ?_
    rintro e w1 ⟨rfl, hb1⟩
    clear hE
    go_wp2
    go_ret2
    exact ⟨by rw [HF.out]; rfl, hbW.trans (hb1.mono hbW.size)⟩
  have hT64 : s.types.length ≤ 64 ∧ s.classes.length ≤ 32 := by
    unfold Idn.sCheck at h0
    split at h0
    · cases h0
    · rename_i hn; simp at hn; omega
  have HF : Hid (r = if decide (4096 < (clK (tyK s.types s.types.length) s.classes s.classes.length).length) then ([], 3) else (clK (tyK s.types s.types.length) s.classes s.classes.length, 0)) := by
    show _ = _
    rw [← HR.out, Idn.sText, if_neg (by simp [h0]), clK, tyK, List.take_length, List.take_length]
  have hlk := length_tyK s.types
  have hlT := hlk s.types.length h6.1
  rw [h0] at hE
  clear h0 HR
  go_enter Tryz.func8, Tryz.ntmps8
  go_wp2_with fail
  with_reducible refine gen1 (R := fun W => Calls Tryz.prog 11 _ W _) ?_
  intro W hbW hszW hc1 _
  have b0 := hc1 0 _ rfl
  have b1 := hc1 1 _ rfl
  clear hc1
  refine (hE W hbW).mono ?_
  rintro e w1 ⟨rfl, hb1⟩
  replace b0 := cell_later hb1 b0
  replace b1 := cell_later hb1 b1
  have hbw1 := hbW.trans (hb1.mono hbW.size)
  have hTv := SlV.keep hT hbw1
  have hCv := ClassesV.keep hC hbw1
  have hB0 := Bld.new w1
  have hlt1 : w.heap.size < w1.heap.size := by have := hb1.size; omega
  clear hE hT hC hszW hb1 hbW
  go_wp2
  go_loopw [18] (fun i wr => ∃ k : Nat, k ≤ s.types.length ∧ i = .int .i64 k ∧ Below w1.heap.size w1 wr ∧ Bld w1.heap.size w1.heap.size (Lib.byteCells (tyK s.types k)) wr) (fun i _ => s.types.length - (intOf i).toNat)
  case atStart => exact ⟨0, Nat.zero_le _, rfl, (Below.refl _ _).alloc (Nat.le_refl _) _, hB0⟩
  case round =>
    obtain ⟨k, hk, rfl, hb, hB⟩ := hrel
    clear hB0
    by_cases hlt : k < s.types.length
    · obtain ⟨b, off, rfl, hbl, c0, c1, c2⟩ := TypesV.cell (SlV.keep hTv (hb.mono hbw1.size)) hlt
      have hn6 := h6.1 s.types[k] (List.getElem_mem hlt)
      have hTL := fun W => typeLine_any s.types[k] W (by omega)
      unfold tyV sv at hTL
      have hltI : (k : Int) < (s.types.length : Int) := by omega
      have ba := (Below.refl wr.heap.size wr).alloc (Nat.le_refl _) (.cells #[.string (B s.types[k].name), .int .i64 s.types[k].syn, .bool s.types[k].single] 58)
      have hB1 := hB.keep ba
      have hl2 := length_tyLine s.types[k] hn6
      have hadd := fun W => run_add (P := Tryz.prog) (a := Idn.tyLine s.types[k]) (b := [10]) (t := ⟨#[10]⟩) rfl rfl (by rw [List.length_append] at hl2; omega) W
      have hsucc := tyK_succ s.types k hlt
      have hlk' := hlk k h6.1
      clear hB
      go_wp2_with fail
      refine (hTL _).mono ?_
      rintro e w2 ⟨rfl, hb2⟩
      have hbw2 := Below.on (hb.trans (ba.mono hb.size)) hb2
      have hWS := writeString_any w1.heap.size w1.heap.size (Lib.byteCells (tyK s.types k)) (B (Idn.tyLine s.types[k] ++ [10])) w2 (hB1.keep hb2) (by rw [byteCells_len, Idn.size_B]; omega) hbw2.size
      clear hTL hB1 hb2
      go_wp2_with fail
      refine hWS.mono ?_
      rintro e w3 ⟨rfl, hB3, hb3, _⟩
      clear hWS
      go_wp2
      go_roundw
      case rel => exact ⟨k + 1, by omega, by go_num, hbw2.trans hb3, by rw [hsucc]; exact Bld.bytes hB3⟩
      case measure => simp [intOf]; omega
    · have hkl : k = s.types.length := by omega
      have hltI : ¬ (k : Int) < (s.types.length : Int) := by omega
      subst hkl
      obtain ⟨wo, hwo⟩ : ∃ wo : World, wo = wr := ⟨_, rfl⟩
      subst hwo
      replace b0 := cell_later hb b0
      replace b1 := cell_later hb b1
      have hCv := ClassesV.keep hCv (hb.mono hbw1.size)
      clear hTv hlk
      generalize tyK s.types s.types.length = m at *
      have hm0 : clK m s.classes 0 = m := by simp [clK, Idn.clLines]
      rw [← hm0] at hB
      clear hm0
      go_wp2
      clear hltI
      go_loopw [30] (fun i wr => ∃ k : Nat, k ≤ s.classes.length ∧ i = .int .i64 k ∧ Below w1.heap.size wo wr ∧ Bld w1.heap.size w1.heap.size (Lib.byteCells (clK m s.classes k)) wr) (fun i _ => s.classes.length - (intOf i).toNat)
      case atStart => exact ⟨0, Nat.zero_le _, rfl, Below.refl _ _, hB⟩
      case round =>
        obtain ⟨k, hk, rfl, hb', hB'⟩ := hrel
        clear hB
        have hbt := hb.trans hb'
        by_cases hlt : k < s.classes.length
        · obtain ⟨b, off, vm, vn, rfl, hbl, c0, c1, c2, c3, hm, hn'⟩ := ClassesV.cell (ClassesV.keep hCv (hb'.mono hbw1.size)) hlt
          obtain ⟨g1, g2, g3, g4, g5, g6⟩ := h6.2 s.classes[k] (List.getElem_mem hlt)
          obtain ⟨Am, cm, rfl, hcm⟩ := SlV.shape hm
          obtain ⟨An, cn, rfl, hcn⟩ := SlV.shape hn'
          have hltI : (k : Int) < (s.classes.length : Int) := by omega
          have ba := (Below.refl wr.heap.size wr).alloc (Nat.le_refl _) (.cells #[.string (B s.classes[k].name), .string (B s.classes[k].super), .slice Am s.classes[k].must.length cm, .slice An s.classes[k].may.length cn] 48)
          have hwr : w.heap.size ≤ wr.heap.size := Nat.le_trans hbw1.size hbt.size
          have hCL := fun W (hW : Below wr.heap.size wr W) => classLine_any _ _ s.classes[k] W (SlV.mono (SlV.keep hm (hW.mono hwr)) (Nat.le_trans hwr hW.size)) (SlV.mono (SlV.keep hn' (hW.mono hwr)) (Nat.le_trans hwr hW.size)) g1 g2 g3 g4 g5 g6
          have hB1 := hB'.keep ba
          have hl2 := length_clLine s.classes[k] g1 g2 g3 g4 g5 g6
          have hadd := fun W => run_add (P := Tryz.prog) (a := Idn.clLine s.classes[k]) (b := [10]) (t := ⟨#[10]⟩) rfl rfl (by rw [List.length_append] at hl2; omega) W
          have hsucc := clK_succ m s.classes k hlt
          have hlm : (clK m s.classes k).length ≤ 64000000000 := by
            unfold clK Idn.clLines
            have h1 := flat_len8 (fun t => Idn.clLine t ++ [10]) 1000000000 (s.classes.take k) (fun t ht => by
              obtain ⟨g1, g2, g3, g4, g5, g6⟩ := h6.2 t (List.mem_of_mem_take ht)
              exact length_clLine t g1 g2 g3 g4 g5 g6)
            have h2 : (s.classes.take k).length ≤ 32 := by rw [List.length_take]; omega
            have h3 : (s.classes.take k).length * 1000000000 ≤ 32 * 1000000000 := Nat.mul_le_mul_right _ h2
            have h4 : s.types.length * 2000000 ≤ 64 * 2000000 := Nat.mul_le_mul_right _ hT64.1
            rw [List.length_append]
            omega
          clear hB' hm hn' g1 g2 g3 g4 g5 g6
          go_wp2_with fail
          refine (hCL _ ba).mono ?_
          rintro e w2 ⟨rfl, hb2⟩
          have hbw2 : Below w1.heap.size wo w2 := (hb'.trans (ba.mono hbt.size)).trans (hb2.mono (by have := hbt.size; have := ba.size; omega))
          have hw2s : w1.heap.size ≤ w2.heap.size := (hb.trans hbw2).size
          have hWS := writeString_any w1.heap.size w1.heap.size (Lib.byteCells (clK m s.classes k)) (B (Idn.clLine s.classes[k] ++ [10])) w2 (hB1.keep hb2) (by rw [byteCells_len, Idn.size_B]; omega) hw2s
          clear hCL hB1 hb2 ba
          go_wp2_with fail
          refine hWS.mono ?_
          rintro e w3 ⟨rfl, hB3, hb3, _⟩
          clear hWS
          go_wp2
          go_roundw
          case rel => exact ⟨k + 1, by omega, by go_num, hbw2.trans hb3, by rw [hsucc]; exact Bld.bytes hB3⟩
          case measure => simp [intOf]; omega
        · have hkl : k = s.classes.length := by omega
          have hltI : ¬ (k : Int) < (s.classes.length : Int) := by omega
          subst hkl
          have hLen := fun W hW => Tryz.Builder_Len_f w1.heap.size w1.heap.size (Lib.byteCells (clK m s.classes s.classes.length)) W hW
          have hStr := Tryz.Builder_String_any_k w1.heap.size w1.heap.size (clK m s.classes s.classes.length) wr hB' hbt.size
          rw [byteCells_len] at hLen
          generalize clK m s.classes s.classes.length = q at *
          by_cases h4 : 4096 < q.length
          · have HG : Hid (r = ([], 3)) := by show _ = _; rw [HF.out, if_pos (decide_eq_true h4)]
            have h4' : (4096 : Int) < (q.length : Int) := by omega
            clear h4 HF
            go_wp2_with (go_at_call 31; refine (hLen _ hB').mono ?_; rintro e w3 ⟨rfl, rfl⟩)
            go_ret2
            exact ⟨by rw [HG.out]; rfl, hbw1.trans (hbt.mono hbw1.size)⟩
          · have HG : Hid (r = (q, 0)) := by show _ = _; rw [HF.out, if_neg (by simpa using h4)]
            have h4' : (q.length : Int) ≤ (4096 : Int) := by omega
            clear h4 HF
            go_wp2_with (go_at_call 31; refine (hLen _ hB').mono ?_; rintro e w3 ⟨rfl, rfl⟩)
            go_wp2_with fail
            refine hStr.mono ?_
            rintro e w4 ⟨rfl, _, hb4, _⟩
            go_wp2
            go_ret2
            exact ⟨by rw [HG.out]; rfl, hbw1.trans ((hbt.trans hb4).mono hbw1.size)⟩
end Go.Proofs.YtnaaoilflokmfaaGreatDoor
