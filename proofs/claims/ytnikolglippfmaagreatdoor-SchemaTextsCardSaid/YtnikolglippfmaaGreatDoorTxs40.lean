/- Part 40 of the proof that what Parse reads of a class's description is what the text says, and what it writes Parse reads back: the package variables hold what the program lays; nothing else is asked. -/
import Derived.Test.YtnikolglippfmaaGreatDoorTxs12
import Derived.Test.YtnikolglippfmaaGreatDoorTxs38
import Derived.Test.YtnikolglippfmaaGreatDoorTxs39
/- schema: Parse, whatever the text. -/
namespace Go.Proofs.YtnikolglippfmaaGreatDoor
open Go.RowKit Go.Sort
open Idn (L B Bs drop_L take_L size_L)
def fin (s : Idn.Sch) : Idn.Sch × Int × Int := if Idn.sCheck s = 0 then (s, 0, 0) else (⟨[], []⟩, 0, Idn.sCheck s)
def parseL : Nat → Idn.Sch → Nat → Bs → Idn.Sch × Int × Int
  | 0, s, _, _ => fin s
  | k + 1, s, n, rest =>
    if rest = [] then fin s
    else if (Lib.cut rest [10]).2.2 && (rdLine s (Lib.cut rest [10]).1).2 then parseL k (rdLine s (Lib.cut rest [10]).1).1 (n + 1) (Lib.cut rest [10]).2.1
    else (⟨[], []⟩, (n : Int), 4)
def sParse (t : Bs) : Idn.Sch × Int × Int := if 4096 < t.length then (⟨[], []⟩, 0, 3) else parseL (t.length + 1) ⟨[], []⟩ 1 t
def RetPS (w : World) (r : Idn.Sch × Int × Int) (e : Ending) (w' : World) : Prop :=
  ∃ vT vC ps, e = .returned (.tuple #[.agg #[vT, vC], .int .i64 r.2.1, .int .i64 r.2.2]) ∧ TyOwn w' w.heap.size vT r.1.types ∧ ClOwn w' w.heap.size vC ps ∧ ps.map (·.1) = r.1.classes ∧ Below w.heap.size w w'
/-- no name is longer than a text of the format -/
def SLim (s : Idn.Sch) : Prop := (∀ t ∈ s.types, t.name.length ≤ 5000) ∧ ∀ c ∈ s.classes, c.name.length ≤ 5000 ∧ c.super.length ≤ 5000 ∧ (c.must.length ≤ 5000 ∧ ∀ x ∈ c.must, x.length ≤ 5000) ∧ c.may.length ≤ 5000 ∧ ∀ x ∈ c.may, x.length ≤ 5000
theorem SLim.ssm {s : Idn.Sch} (h : SLim s) (h2 : s.types.length + s.classes.length ≤ 5000) : SSm s :=
  ⟨⟨by omega, fun t ht => by have := h.1 t ht; omega⟩, ⟨by omega, fun c hc => by
    obtain ⟨a1, a2, ⟨a3, a4⟩, a5, a6⟩ := h.2 c hc
    exact ⟨by omega, by omega, ⟨by omega, fun x hx => by have := a4 x hx; omega⟩, ⟨by omega, fun x hx => by have := a6 x hx; omega⟩⟩⟩⟩
theorem getD_len {ws : List Bs} {m : Nat} (h : ∀ x ∈ ws, x.length ≤ m) (i : Nat) : (ws.getD i []).length ≤ m := by
  rw [List.getD_eq_getElem?_getD]
  cases hx : ws[i]? with
  | none => simp
  | some x => exact h x (List.mem_of_getElem? hx)
theorem rdNames_len (s : Bs) : (rdNames s).1.length ≤ s.length + 1 ∧ ∀ x ∈ (rdNames s).1, x.length ≤ s.length := by
  unfold rdNames
  split
  · simp
  · exact Idn.cutC_len 44 s
theorem rdLine_lim {s : Idn.Sch} (h : SLim s) (line : Bs) (hl : line.length ≤ 4096) : SLim (rdLine s line).1 ∧ (rdLine s line).1.types.length + (rdLine s line).1.classes.length ≤ s.types.length + s.classes.length + 1 := by
  obtain ⟨_, hw0⟩ := Idn.cutC_len 32 line
  have hw : ∀ x ∈ Idn.cutC 32 line, x.length ≤ 4096 := fun x hx => by have := hw0 x hx; omega
  have hg := getD_len hw
  unfold rdLine
  split
  · refine ⟨⟨fun t ht => ?_, h.2⟩, by simp; omega⟩
    rcases List.mem_append.1 ht with ht | ht
    · exact h.1 t ht
    · simp only [List.mem_singleton] at ht
      subst ht
      unfold rdType
      have := hg 1
      split
      · simp
      · split
        · simp
        · dsimp only; omega
  · split
    · refine ⟨⟨h.1, fun c hc => ?_⟩, by simp; omega⟩
      rcases List.mem_append.1 hc with hc | hc
      · exact h.2 c hc
      · simp only [List.mem_singleton] at hc
        subst hc
        unfold rdClass
        have h1 := hg 1
        have h2 := hg 2
        have h3 := hg 3
        have h4 := hg 4
        split
        · simp
        · obtain ⟨n1, n2⟩ := rdNames_len ((Idn.cutC 32 line).getD 3 [])
          obtain ⟨m1, m2⟩ := rdNames_len ((Idn.cutC 32 line).getD 4 [])
          refine ⟨by dsimp only; omega, ?_, ⟨by dsimp only; omega, fun x hx => by have := n2 x hx; omega⟩, by dsimp only; omega, fun x hx => by have := m2 x hx; omega⟩
          dsimp only
          split
          · simp
          · omega
    · exact ⟨h, by dsimp only; omega⟩
theorem cut_lim (y : Bs) : (Lib.cut y [10]).1.length ≤ y.length ∧ ((Lib.cut y [10]).2.2 = true → (Lib.cut y [10]).2.1.length + 1 ≤ y.length) := by
  rw [Idn.cut_fst]
  cases hi : Idn.fstC 10 y with
  | none => simp
  | some i =>
    have := Idn.fstC_lt hi
    dsimp only
    rw [List.length_take, List.length_drop]
    exact ⟨by omega, fun _ => by omega⟩
/-- what every round of Parse finds -/
def PSt (w W wr : World) (R : Idn.Sch × Int × Int) (m : Nat) (s : Idn.Sch) (i : Nat) (y : ByteArray) (AT : Option Addr) (dT : Nat) (AC : Option Addr) (dC : Nat) (ps : List ClP) : Prop :=
  wr.cell? ⟨w.heap.size + 1, 0, none⟩ = some (.slice AT s.types.length dT) ∧ wr.cell? ⟨w.heap.size + 1, 1, none⟩ = some (.slice AC ps.length dC) ∧
  TyOwn wr W.heap.size (.slice AT s.types.length dT) s.types ∧ ClOwn wr W.heap.size (.slice AC ps.length dC) ps ∧ ps.map (·.1) = s.classes ∧
  wr.cell? ⟨w.heap.size, 0, none⟩ = some (.slice none 0 0) ∧ wr.cell? ⟨w.heap.size, 1, none⟩ = some (.slice none 0 0) ∧
  wr.frozen? ⟨w.heap.size, 0, none⟩ = false ∧ wr.frozen? ⟨w.heap.size, 1, none⟩ = false ∧ wr.frozen? ⟨w.heap.size + 1, 0, none⟩ = false ∧ wr.frozen? ⟨w.heap.size + 1, 1, none⟩ = false ∧
  Below w.heap.size w wr ∧ W.heap.size ≤ wr.heap.size ∧ (∃ f, R = parseL (f + 1) s i (L y) ∧ y.size ≤ f) ∧ SLim s ∧ s.types.length + s.classes.length + y.size ≤ 4096 ∧ i + y.size ≤ 4097
theorem TyOwn.low {w : World} {base b : Nat} {v : Value} {l : List Idn.AT} (h : TyOwn w base v l) (hb : b ≤ base) : TyOwn w b v l := own_base h hb
theorem ClOwn.low {w : World} {base b : Nat} {v : Value} {ps : List ClP} (h : ClOwn w base v ps) (hb : b ≤ base) : ClOwn w b v ps := ⟨own_base h.1 hb, fun p hp => ⟨own_base (h.2 p hp).1 hb, own_base (h.2 p hp).2 hb⟩⟩
theorem TyOwn.lt' {w : World} {base : Nat} {v : Value} {l : List Idn.AT} (h : TyOwn w base v l) {g : Nat} (e : v.ownBlock = some g) : base ≤ g := (World.ownsRow.lt h g e).1
theorem cut10_any (y : ByteArray) (w : World) (hE : Env w) (hy : y.size ≤ 4096) :
    Calls Tryz.prog 64 #[.string y, .string ⟨#[10]⟩] w fun e w' => e = .returned (.tuple #[.string (B (Lib.cut (L y) [10]).1), .string (B (Lib.cut (L y) [10]).2.1), .bool (Lib.cut (L y) [10]).2.2]) ∧ Below w.heap.size w w' := by
  obtain ⟨⟨m, h1⟩, _⟩ := hE
  refine (Tryz.strings_Cut y ⟨#[10]⟩ m w (by omega) h1).mono ?_
  rintro e w' ⟨rfl, n, rfl⟩
  exact ⟨rfl, below_drewN (Below.refl _ _) n⟩
set_option maxHeartbeats 4000000 in
set_option maxRecDepth 100000 in
theorem parse_any (x : ByteArray) (w : World) (hE : Env w) :
    Calls Tryz.prog 19 #[.string x] w (RetPS w (sParse (L x))) := by
  generalize hr : sParse (L x) = R
  have HR := Lib.hid hr.symm
  have hxs := size_L x
  clear hr
  by_cases hbig : (4096 : Int) < (x.size : Int)
  · have HF : Hid (R = (⟨[], []⟩, 0, 3)) := by show _ = _; rw [HR.out, sParse, if_pos (by omega)]
    clear HR
    go_enter Tryz.func19, Tryz.ntmps19
    go_wp2
    refine bodyPost_ret (v := .tuple #[.agg #[.slice none 0 0, .slice none 0 0], .int .i64 0, .int .i64 3]) (by simp [results, Tryz.results19, go_sem]) rfl ⟨.slice none 0 0, .slice none 0 0, [], by rw [HF.out], by rw [HF.out]; exact TyOwn.nil _ _, ClOwn.nil _ _, by rw [HF.out]; rfl, ?_⟩
    repeat (first | with_reducible exact Below.refl _ _ | refine Below.setCell ?_ (by simp) _ | refine Below.alloc ?_ (by simp) _)
  · have HF : Hid (R = parseL (x.size + 1) ⟨[], []⟩ 1 (L x)) := by show _ = _; rw [HR.out, sParse, if_neg (by omega), ← hxs]
    clear HR
    have hx4 : x.size ≤ 4096 := by omega
    clear hxs
    have hCut := cut10_any
    have hRd := read_any
    go_enter Tryz.func19, Tryz.ntmps19
    go_wp2
    with_reducible refine gen2g (R := fun W => Code.wp Tryz.prog _ _ _ W) ?_
    intro W hbW hszW hc1 hc2 hf1 hf2
    have q0 : W.cell? ⟨w.heap.size, 0, none⟩ = some (.slice none 0 0) := hc1 0 _ rfl
    have q1 : W.cell? ⟨w.heap.size, 1, none⟩ = some (.slice none 0 0) := hc1 1 _ rfl
    have c0 : W.cell? ⟨w.heap.size + 1, 0, none⟩ = some (.slice none 0 0) := hc2 0 _ rfl
    have c1 : W.cell? ⟨w.heap.size + 1, 1, none⟩ = some (.slice none 0 0) := hc2 1 _ rfl
    have z0 := hf1 0
    have z1 := hf1 1
    have z2 := hf2 0
    have z3 := hf2 1
    have HW := Lib.hid hszW
    clear hc1 hc2 hf1 hf2 hbig
    have HI : PSt w W W R x.size ⟨[], []⟩ 1 x none 0 none 0 [] := ⟨c0, c1, TyOwn.nil _ _, ClOwn.nil _ _, rfl, q0, q1, z0, z1, z2, z3, hbW, Nat.le_refl _, ⟨x.size, HF.out, Nat.le_refl _⟩, ⟨by simp, by simp⟩, by simpa using hx4, by omega⟩
    clear q0 q1 c0 c1 z0 z1 z2 z3 HF
    go_loopw [6, 7] (fun r n wr => ∃ s i y AT dT AC dC ps, r = .string y ∧ n = .int .i64 ((i : Nat) : Int) ∧ PSt w W wr R x.size s i y AT dT AC dC ps) (fun _ n _ => (5000 - intOf n).toNat)
    case atStart => exact ⟨_, 1, x, _, _, _, _, _, rfl, rfl, HI⟩
    case round =>
      obtain ⟨s, i, y, AT, dT, AC, dC, ps, rfl, rfl, c0, c1, hT, hC, hps, q0, q1, z0, z1, z2, z3, hb, hbase, ⟨f, hR, hf⟩, hlim, hsum, hi⟩ := hrel
      have HPS := Lib.hid hps
      have HR := Lib.hid hR
      have HL := Lib.hid hlim
      have HFU := Lib.hid hf
      clear hps hR hlim HI hf
      have hys := size_L y
      have hlt : w.heap.size + 1 < wr.heap.size := by omega
      by_cases hy : L y = []
      · have hne : y.toList.isEmpty = true := by rw [toList_L, hy]; rfl
        have HF : Hid (R = fin s) := by show _ = _; rw [HR.out, parseL, if_pos hy]
        have hCk := schCheck_any (.agg #[.slice AT s.types.length dT, .slice AC ps.length dC]) s wr ⟨_, _, rfl, hT.types, hC.classes HPS.out⟩ (HL.out.ssm (by omega))
        clear hCut hRd HR
        generalize he : Idn.sCheck s = e at *
        have HE := Lib.hid he
        clear he hy hys
        go_wp2_with fail
        with_reducible refine hCk.mono ?_
        rintro e w5 ⟨rfl, hb5⟩
        replace c0 := cell_later hb5 c0
        replace c1 := cell_later hb5 c1
        replace q0 := cell_later hb5 q0
        replace q1 := cell_later hb5 q1
        replace z0 := frozen_later hb5 z0 (by omega)
        replace z1 := frozen_later hb5 z1 (by omega)
        replace z2 := frozen_later hb5 z2 hlt
        replace z3 := frozen_later hb5 z3 hlt
        have hT5 := hT.keep hb5
        have hC5 := hC.keep hb5
        have hb05 := hb.trans (hb5.mono hb.size)
        have sT0 : (Value.slice AT s.types.length dT).ownBlock ≠ some w.heap.size := fun e => by have := (hT5.lt' e); omega
        have sC0 : (Value.slice AC ps.length dC).ownBlock ≠ some w.heap.size := fun e => by have := (hC5.1.lt _ e).1; omega
        have sL0 : ∀ q ∈ ps, q.2.1.ownBlock ≠ some w.heap.size ∧ q.2.2.ownBlock ≠ some w.heap.size := fun q hq => ⟨fun e => by have := ((hC5.2 q hq).1.lt _ e).1; omega, fun e => by have := ((hC5.2 q hq).2.lt _ e).1; omega⟩
        have hTF := TyOwn.low hT5 hbW.size
        have hCF := ClOwn.low hC5 hbW.size
        clear hCk hb hb5 hT hC hT5 hC5 HL
        by_cases he0 : e = 0
        · have HG : Hid (R = (s, 0, 0)) := by show _ = _; rw [HF.out, fin, if_pos (by rw [HE.out]; exact he0)]
          have hpI : (e == 0) = true := by rw [he0]; rfl
          clear HF HE
          go_wp2
          refine bodyPost_ret (v := .tuple #[.agg #[.slice AT s.types.length dT, .slice AC ps.length dC], .int .i64 0, .int .i64 0]) (by simp [results, Tryz.results19, go_sem, q0, q1, z0, z1]) rfl ⟨.slice AT s.types.length dT, .slice AC ps.length dC, ps, by rw [HG.out], ?_, ?_, ?_, ?_⟩
          · rw [HG.out]
            repeat (first | with_reducible exact hTF | with_reducible refine TyOwn.set ?_ _ sT0)
          · repeat (first | with_reducible exact hCF | with_reducible refine ClOwn.set ?_ _ sC0 sL0)
          · rw [HG.out]; exact HPS.out
          · repeat (first | with_reducible exact hb05 | refine Below.setCell ?_ (by simp) _)
        · have HG : Hid (R = (⟨[], []⟩, 0, e)) := by show _ = _; rw [HF.out, fin, if_neg (by rw [HE.out]; exact he0), HE.out]
          have hpI : (e == 0) = false := by rw [beq_eq_false_iff_ne]; exact he0
          clear HF HE
          go_wp2
          refine bodyPost_ret (v := .tuple #[.agg #[.slice none 0 0, .slice none 0 0], .int .i64 0, .int .i64 e]) (by simp [results, Tryz.results19, go_sem, q0, q1, z0, z1]) rfl ⟨.slice none 0 0, .slice none 0 0, [], by rw [HG.out], ?_, ?_, ?_, ?_⟩
          · rw [HG.out]; exact TyOwn.nil _ _
          · exact ClOwn.nil _ _
          · rw [HG.out]; rfl
          · repeat (first | with_reducible exact hb05 | refine Below.setCell ?_ (by simp) _)
      · have hne : y.toList.isEmpty = false := by rw [toList_L]; cases hL : L y with | nil => exact absurd hL hy | cons a b => rfl
        have hne2 : (y.toList == ([] : List UInt8)) = false := by rw [beq_eq_false_iff_ne, toList_L]; exact hy
        have hcl := cut_lim (L y)
        have HF : Hid (R = if (Lib.cut (L y) [10]).2.2 && (rdLine s (Lib.cut (L y) [10]).1).2 then parseL f (rdLine s (Lib.cut (L y) [10]).1).1 (i + 1) (Lib.cut (L y) [10]).2.1 else (⟨[], []⟩, (i : Int), 4)) := by show _ = _; rw [HR.out, parseL, if_neg hy]
        have hyI : y.size ≤ 4096 := by omega
        clear HR hy
        have hCt := hCut y wr (hE.keep hb) hyI
        generalize Lib.cut (L y) [10] = ct at *
        obtain ⟨l1, l2, en⟩ := ct
        dsimp only at hCt hcl HF
        have hbl : (B l1).size ≤ 1000000 := by rw [Idn.size_B]; omega
        have HCL := Lib.hid hcl
        have HSZ := Lib.hid hys
        clear hCut hcl hys
        go_wp2_with fail
        with_reducible refine hCt.mono ?_
        rintro e w1 ⟨rfl, hb1⟩
        replace c0 := cell_later hb1 c0
        replace c1 := cell_later hb1 c1
        replace q0 := cell_later hb1 q0
        replace q1 := cell_later hb1 q1
        replace z0 := frozen_later hb1 z0 (by omega)
        replace z1 := frozen_later hb1 z1 (by omega)
        replace z2 := frozen_later hb1 z2 hlt
        replace z3 := frozen_later hb1 z3 hlt
        have hb01 := hb.trans (hb1.mono hb.size)
        have hT1 := hT.keep hb1
        have hC1 := hC.keep hb1
        have hlt1 : w.heap.size + 1 < w1.heap.size := by have := hb1.size; omega
        have hbase1 : W.heap.size ≤ w1.heap.size := Nat.le_trans hbase hb1.size
        clear hCt hlt hb1 hT hC
        have hR2 := hRd s _ _ ps (B l1) W.heap.size w1 hT1 hC1 HPS.out hbase1 (hE.keep hb01) hbl (by omega) (by omega)
        rw [Idn.L_B] at hR2
        have hrl := rdLine_lim HL.out l1 (by have := HCL.out.1; have := HSZ.out; omega)
        generalize rdLine s l1 = rl at *
        obtain ⟨s2, ok⟩ := rl
        dsimp only at hR2 HF hrl
        have HRL := Lib.hid hrl
        clear hRd hrl HL hbl
        go_wp2_with fail
        with_reducible refine hR2.mono ?_
        rintro e w2 ⟨vT2, vC2, ps2, rfl, hT2, hC2, hps2, hb2⟩
        obtain ⟨AT2, dT2, ht2⟩ := own_shape hT2
        subst ht2
        obtain ⟨AC2, dC2, ht3⟩ := own_shape hC2.1
        subst ht3
        replace c0 := (hb2.cell (p := ⟨w.heap.size + 1, 0, none⟩) (by show w.heap.size + 1 < W.heap.size; have := HW.out; omega)).trans c0
        replace c1 := (hb2.cell (p := ⟨w.heap.size + 1, 1, none⟩) (by show w.heap.size + 1 < W.heap.size; have := HW.out; omega)).trans c1
        replace q0 := (hb2.cell (p := ⟨w.heap.size, 0, none⟩) (by show w.heap.size < W.heap.size; have := HW.out; omega)).trans q0
        replace q1 := (hb2.cell (p := ⟨w.heap.size, 1, none⟩) (by show w.heap.size < W.heap.size; have := HW.out; omega)).trans q1
        replace z0 := (hb2.frozen (p := ⟨w.heap.size, 0, none⟩) (by show w.heap.size < W.heap.size; have := HW.out; omega)).trans z0
        replace z1 := (hb2.frozen (p := ⟨w.heap.size, 1, none⟩) (by show w.heap.size < W.heap.size; have := HW.out; omega)).trans z1
        replace z2 := (hb2.frozen (p := ⟨w.heap.size + 1, 0, none⟩) (by show w.heap.size + 1 < W.heap.size; have := HW.out; omega)).trans z2
        replace z3 := (hb2.frozen (p := ⟨w.heap.size + 1, 1, none⟩) (by show w.heap.size + 1 < W.heap.size; have := HW.out; omega)).trans z3
        have hb02 := hb01.trans (hb2.mono hbW.size)
        have hlt2 : w.heap.size + 1 < w2.heap.size := by have := hb2.size; omega
        have hlt3 : w.heap.size < w2.heap.size := by omega
        have hbase2 : W.heap.size ≤ w2.heap.size := Nat.le_trans hbase1 hb2.size
        have HP2 := Lib.hid hps2
        have HSM := Lib.hid hsum
        have HII := Lib.hid hi
        clear hR2 hT1 hC1 hb01 hbase1 hbase hb2 hb hps2 hsum hlt1 HPS
        go_upto_region 10 with fail
        with_reducible refine gen1 (R := fun W => Code.wp Tryz.prog _ _ _ W) ?_
        intro W4 hbW4 hsz4 hc4 _
        have d0 : W4.cell? ⟨w2.heap.size, 0, none⟩ = some (.slice AT2 s2.types.length dT2) := hc4 0 _ rfl
        have d1 : W4.cell? ⟨w2.heap.size, 1, none⟩ = some (.slice AC2 ps2.length dC2) := hc4 1 _ rfl
        replace c0 := cell_later hbW4 c0
        replace c1 := cell_later hbW4 c1
        replace q0 := cell_later hbW4 q0
        replace q1 := cell_later hbW4 q1
        replace z0 := frozen_later hbW4 z0 (by omega)
        replace z1 := frozen_later hbW4 z1 (by omega)
        replace z2 := frozen_later hbW4 z2 (by omega)
        replace z3 := frozen_later hbW4 z3 (by omega)
        have hb04 := hb02.trans (hbW4.mono hb02.size)
        have hT4 := hT2.keep hbW4
        have hC4 := hC2.keep hbW4
        have hbase4 : W.heap.size ≤ W4.heap.size := Nat.le_trans hbase2 hbW4.size
        clear hc4 hbW4 hsz4 hT2 hC2 hb02 hbase2
        have hres : en = false ∨ (en = true ∧ ok = false) ∨ (en = true ∧ ok = true) := by cases en <;> cases ok <;> simp
        rcases hres with rfl | ⟨rfl, rfl⟩ | ⟨rfl, rfl⟩
        iterate 2
          · have HG : Hid (R = (⟨[], []⟩, (i : Int), 4)) := HF.out
            clear HF
            go_wp2
            refine bodyPost_ret (v := .tuple #[.agg #[.slice none 0 0, .slice none 0 0], .int .i64 (i : Int), .int .i64 4]) (by simp [results, Tryz.results19, go_sem, q0, q1, z0, z1]) rfl ⟨.slice none 0 0, .slice none 0 0, [], by rw [HG.out], ?_, ?_, ?_, ?_⟩
            · rw [HG.out]; exact TyOwn.nil _ _
            · exact ClOwn.nil _ _
            · rw [HG.out]; rfl
            · repeat (first | with_reducible exact hb04 | refine Below.setCell ?_ (by simp) _)
        · have HG : Hid (R = parseL f s2 (i + 1) l2) := HF.out
          clear HF
          go_wp2
          go_roundw
          case rel =>
            have sT1 : (Value.slice AT2 s2.types.length dT2).ownBlock ≠ some (w.heap.size + 1) := fun e => by have := hT4.lt' e; have := HW.out; omega
            have sC1 : (Value.slice AC2 ps2.length dC2).ownBlock ≠ some (w.heap.size + 1) := fun e => by have := (hC4.1.lt _ e).1; have := HW.out; omega
            have sL1 : ∀ q ∈ ps2, q.2.1.ownBlock ≠ some (w.heap.size + 1) ∧ q.2.2.ownBlock ≠ some (w.heap.size + 1) := fun q hq => ⟨fun e => by have := ((hC4.2 q hq).1.lt _ e).1; have := HW.out; omega, fun e => by have := ((hC4.2 q hq).2.lt _ e).1; have := HW.out; omega⟩
            have hne01 : w.heap.size + 1 ≠ w.heap.size := by omega
            obtain ⟨h1, h2⟩ := HCL.out
            have h3 := h2 rfl
            have h4 := HSZ.out
            have h5 := HFU.out
            have h6 := HSM.out
            have h7 := HII.out
            obtain ⟨h8, h9⟩ := HRL.out
            obtain ⟨f, rfl⟩ : ∃ f', f = f' + 1 := ⟨f - 1, by omega⟩
            have h10 := HG.out
            have h11 := HP2.out
            clear HCL HSZ HFU HSM HII HRL HG HP2 h1 h2
            refine ⟨s2, i + 1, B l2, AT2, dT2, AC2, dC2, ps2, rfl, by clear h10 h11; go_num, ?_, ?_, ?_, ?_, h11, ?_, ?_, ?_, ?_, ?_, ?_, ?_, ?_, ⟨f, by rw [Idn.L_B]; exact h10, by rw [Idn.size_B]; omega⟩, h8, by rw [Idn.size_B]; omega, by rw [Idn.size_B]; omega⟩
            all_goals clear h10 h11 h3 h4 h5 h6 h7 h8 h9
            · go_simp
            · go_simp
            · exact (hT4.set _ sT1).set _ sT1
            · exact (hC4.set _ sC1 sL1).set _ sC1 sL1
            · go_simp
            · go_simp
            · go_simp
            · go_simp
            · go_simp
            · go_simp
            · exact (hb04.setCell (by simp) _).setCell (by simp) _
            · simpa using hbase4
          case measure =>
            have := HII.out
            simp [intOf]; omega
end Go.Proofs.YtnikolglippfmaaGreatDoor
/- Plain law: the lines of a schema, written and read. -/
namespace Go.Proofs.YtnikolglippfmaaGreatDoor
open Idn (L B Bs okT okC)
def wType : Bs := [116, 121, 112, 101]
def wClass : Bs := [99, 108, 97, 115, 115]
def wSingle : Bs := [115, 105, 110, 103, 108, 101]
def tyWords (t : Idn.AT) : List Bs := if t.single then [wType, t.name, Idn.word t.syn, wSingle] else [wType, t.name, Idn.word t.syn]
theorem tyLine_words (t : Idn.AT) : Idn.tyLine t = Idn.joinL [32] (tyWords t) := by
  unfold Idn.tyLine tyWords
  cases t.single <;> simp [Idn.joinL, Idn.joinR, wType, wSingle]
theorem word_bytes (x : Int) : 32 ∉ Idn.word x ∧ 10 ∉ Idn.word x := by
  unfold Idn.word
  repeat' split
  all_goals decide
theorem wordIx_word {x : Int} (h1 : 1 ≤ x) (h5 : x ≤ 5) : wordIx (Idn.word x) = some x := by
  have : x = 1 ∨ x = 2 ∨ x = 3 ∨ x = 4 ∨ x = 5 := by omega
  rcases this with rfl | rfl | rfl | rfl | rfl <;> decide
theorem wordIx_is {s : Bs} {x : Int} (h : wordIx s = some x) : s = Idn.word x ∧ 1 ≤ x ∧ x ≤ 5 := by
  unfold wordIx at h
  split at h
  · rename_i e; injection h with h; subst h; exact ⟨e.symm, by omega, by omega⟩
  · split at h
    · rename_i e; injection h with h; subst h; exact ⟨e.symm, by omega, by omega⟩
    · split at h
      · rename_i e; injection h with h; subst h; exact ⟨e.symm, by omega, by omega⟩
      · split at h
        · rename_i e; injection h with h; subst h; exact ⟨e.symm, by omega, by omega⟩
        · split at h
          · rename_i e; injection h with h; subst h; exact ⟨e.symm, by omega, by omega⟩
          · cases h
theorem tyWords_ne (t : Idn.AT) : tyWords t ≠ [] := by unfold tyWords; split <;> simp
theorem tyWords_bytes {t : Idn.AT} (h : okT t) : ∀ w ∈ tyWords t, 32 ∉ w ∧ 10 ∉ w := by
  obtain ⟨b1, b2, _⟩ := Idn.name_bytes h.1
  obtain ⟨b4, b5⟩ := word_bytes t.syn
  intro w hw
  have : w = wType ∨ w = t.name ∨ w = Idn.word t.syn ∨ w = wSingle := by
    unfold tyWords at hw
    split at hw <;> simp at hw
    · exact hw
    · rcases hw with h | h | h
      · exact .inl h
      · exact .inr (.inl h)
      · exact .inr (.inr (.inl h))
  rcases this with rfl | rfl | rfl | rfl
  · decide
  · exact ⟨b2, b1⟩
  · exact ⟨b4, b5⟩
  · decide
theorem rdType_of {t : Idn.AT} (h : okT t) : rdType (tyWords t) = (t, true) := by
  obtain ⟨h1, h2, h3⟩ := h
  obtain ⟨n, x, s⟩ := t
  dsimp only at h1 h2 h3
  have hw := wordIx_word h2 h3
  cases s
  · have e : tyWords ⟨n, x, false⟩ = [wType, n, Idn.word x] := rfl
    rw [e]
    unfold rdType isSingle
    simp [h1, hw]
  · have e : tyWords ⟨n, x, true⟩ = [wType, n, Idn.word x, wSingle] := rfl
    rw [e]
    unfold rdType isSingle
    simp [h1, hw, wSingle]
theorem rdType_is {ws : List Bs} {t : Idn.AT} (h : rdType ws = (t, true)) (h0 : ws.headD [] = wType) : ws = tyWords t ∧ okT t := by
  unfold rdType at h
  split at h
  · simp at h
  · rename_i hc
    split at h
    · simp at h
    · rename_i x hx
      simp only [Prod.mk.injEq, and_true] at h
      obtain ⟨hw, h1, h5⟩ := wordIx_is hx
      simp only [Bool.or_eq_true, Bool.and_eq_true, Bool.not_eq_true', not_or, not_and, decide_eq_true_eq, Bool.not_eq_false] at hc
      obtain ⟨hc1, hc2⟩ := hc
      subst h
      refine ⟨?_, hc2, h1, h5⟩
      cases hs : isSingle ws
      · have h3 : ws.length = 3 := by
          by_cases hl : ws.length = 3
          · exact hl
          · have := hc1 hl; rw [hs] at this; cases this
        match ws, h3 with
        | [a, b, c], _ =>
          have e0 : a = wType := h0
          have e2 : c = Idn.word x := hw
          subst e0 e2
          unfold tyWords
          rfl
      · unfold isSingle at hs
        simp only [Bool.and_eq_true, decide_eq_true_eq] at hs
        obtain ⟨h4, h6⟩ := hs
        match ws, h4 with
        | [a, b, c, d], _ =>
          have e0 : a = wType := h0
          have e2 : c = Idn.word x := hw
          have e3 : d = wSingle := Option.some.inj h6
          subst e0 e2 e3
          unfold tyWords
          rfl
def okN (c : Idn.Cl) : Prop := Idn.name c.name = true ∧ (c.super = [] ∨ Idn.name c.super = true) ∧ (∀ n ∈ c.must, Idn.name n = true) ∧ ∀ n ∈ c.may, Idn.name n = true
theorem okN_of {c : Idn.Cl} (h : okC c) : okN c := ⟨h.1, h.2.1, h.2.2.2.2.1, h.2.2.2.2.2⟩
def clWords (c : Idn.Cl) : List Bs := [wClass, c.name, Idn.orDash c.super, Idn.orDash (Idn.joinL [44] c.must), Idn.orDash (Idn.joinL [44] c.may)]
theorem clLine_words (c : Idn.Cl) : Idn.clLine c = Idn.joinL [32] (clWords c) := rfl
theorem orDash_nil : Idn.orDash [] = [45] := rfl
theorem orDash_ne {s : Bs} (h : s ≠ []) : Idn.orDash s = s := by
  unfold Idn.orDash
  cases s with
  | nil => exact absurd rfl h
  | cons a b => rfl
theorem joinR_bytes (c d : UInt8) (hcd : d ≠ c) : ∀ l : List Bs, (∀ x ∈ l, d ∉ x) → d ∉ Idn.joinR [c] l
  | [], _ => by simp [Idn.joinR]
  | x :: l, h => by
    have ih := joinR_bytes c d hcd l (fun y hy => h y (List.mem_cons_of_mem _ hy))
    have hx := h x (by simp)
    simp [Idn.joinR, hx, ih, hcd]
theorem joinL_bytes (c d : UInt8) (hcd : d ≠ c) (l : List Bs) (h : ∀ x ∈ l, d ∉ x) : d ∉ Idn.joinL [c] l := by
  cases l with
  | nil => simp [Idn.joinL]
  | cons x l =>
    have ih := joinR_bytes c d hcd l (fun y hy => h y (List.mem_cons_of_mem _ hy))
    have hx := h x (by simp)
    simp [Idn.joinL, hx, ih]
theorem orDash_bytes {d : UInt8} (hd : d ≠ 45) {s : Bs} (h : d ∉ s) : d ∉ Idn.orDash s := by
  by_cases hs : s = []
  · subst hs; rw [orDash_nil]; simpa using hd
  · rw [orDash_ne hs]; exact h
theorem clWords_bytes {c : Idn.Cl} (h : okN c) : ∀ w ∈ clWords c, 32 ∉ w ∧ 10 ∉ w := by
  obtain ⟨h1, h2, h3, h4⟩ := h
  obtain ⟨b1, b2, _⟩ := Idn.name_bytes h1
  have hs : 32 ∉ c.super ∧ 10 ∉ c.super := by
    rcases h2 with e | e
    · rw [e]; simp
    · obtain ⟨b1, b2, _⟩ := Idn.name_bytes e; exact ⟨b2, b1⟩
  have hl : ∀ l : List Bs, (∀ n ∈ l, Idn.name n = true) → 32 ∉ Idn.joinL [44] l ∧ 10 ∉ Idn.joinL [44] l := fun l hl =>
    ⟨joinL_bytes 44 32 (by decide) l (fun x hx => (Idn.name_bytes (hl x hx)).2.1), joinL_bytes 44 10 (by decide) l (fun x hx => (Idn.name_bytes (hl x hx)).1)⟩
  intro w hw
  simp only [clWords, List.mem_cons, List.not_mem_nil, or_false] at hw
  rcases hw with rfl | rfl | rfl | rfl | rfl
  · decide
  · exact ⟨b2, b1⟩
  · exact ⟨orDash_bytes (by decide) hs.1, orDash_bytes (by decide) hs.2⟩
  · exact ⟨orDash_bytes (by decide) (hl _ h3).1, orDash_bytes (by decide) (hl _ h3).2⟩
  · exact ⟨orDash_bytes (by decide) (hl _ h4).1, orDash_bytes (by decide) (hl _ h4).2⟩
theorem rdNames_of {l : List Bs} (h : ∀ n ∈ l, Idn.name n = true) : rdNames (Idn.orDash (Idn.joinL [44] l)) = (l, true) := by
  cases l with
  | nil => rfl
  | cons x xs =>
    have hc := Idn.cutC_joinL 44 (x :: xs) (by simp) (fun y hy => (Idn.name_bytes (h y hy)).2.2.1)
    obtain ⟨_, _, _, b1, b2⟩ := Idn.name_bytes (h x (by simp))
    have hne : Idn.joinL [44] (x :: xs) ≠ [] := by
      intro e
      rw [e] at hc
      have : ([[]] : List Bs) = x :: xs := hc
      injection this with e1
      exact b1 e1.symm
    have hn5 : Idn.joinL [44] (x :: xs) ≠ [45] := by
      intro e
      rw [e] at hc
      have : ([[45]] : List Bs) = x :: xs := hc
      injection this with e1
      exact b2 e1.symm
    rw [orDash_ne hne, rdNames, if_neg hn5, hc, List.all_eq_true.2 h]
theorem rdNames_is {s : Bs} {l : List Bs} (h : rdNames s = (l, true)) : s = Idn.orDash (Idn.joinL [44] l) ∧ ∀ n ∈ l, Idn.name n = true := by
  unfold rdNames at h
  split at h
  · rename_i hs
    simp only [Prod.mk.injEq, and_true] at h
    subst h
    exact ⟨hs, by simp⟩
  · simp only [Prod.mk.injEq] at h
    obtain ⟨h1, h2⟩ := h
    subst h1
    rw [List.all_eq_true] at h2
    rw [Idn.joinL_cutC]
    refine ⟨(orDash_ne fun e => ?_).symm, h2⟩
    rw [e] at h2
    have := h2 [] (by simp [Idn.cutC])
    simp [Idn.name, Idn.made] at this
theorem rdClass_of {c : Idn.Cl} (h : okN c) : rdClass (clWords c) = (c, true) := by
  obtain ⟨h1, h2, h3, h4⟩ := h
  obtain ⟨n, su, m, y⟩ := c
  dsimp only at h1 h2 h3 h4
  have e3 := rdNames_of h3
  have e4 := rdNames_of h4
  have hb : badCl (clWords ⟨n, su, m, y⟩) = false := by
    unfold badCl clWords
    rcases h2 with e | e
    · subst e; simp [h1, orDash_nil]
    · obtain ⟨_, _, _, b1, b2⟩ := Idn.name_bytes e
      simp [h1, orDash_ne b1, e]
  unfold rdClass
  rw [hb]
  have w1 : (clWords ⟨n, su, m, y⟩).getD 1 [] = n := rfl
  have w2 : (clWords ⟨n, su, m, y⟩).getD 2 [] = Idn.orDash su := rfl
  have w3 : (clWords ⟨n, su, m, y⟩).getD 3 [] = Idn.orDash (Idn.joinL [44] m) := rfl
  have w4 : (clWords ⟨n, su, m, y⟩).getD 4 [] = Idn.orDash (Idn.joinL [44] y) := rfl
  rw [w1, w2, w3, w4, e3, e4]
  have hsu : (if Idn.orDash su = [45] then [] else Idn.orDash su) = su := by
    rcases h2 with e | e
    · subst e; rfl
    · obtain ⟨_, _, _, b1, b2⟩ := Idn.name_bytes e
      rw [orDash_ne b1, if_neg b2]
  rw [hsu]
  rfl
theorem rdClass_is {ws : List Bs} {c : Idn.Cl} (h : rdClass ws = (c, true)) (h0 : ws.headD [] = wClass) : ws = clWords c ∧ okN c := by
  unfold rdClass at h
  split at h
  · simp at h
  · rename_i hb
    simp only [Bool.not_eq_true] at hb
    unfold badCl at hb
    simp only [Bool.or_eq_false_iff, Bool.and_eq_false_iff, decide_eq_false_iff_not, Bool.not_eq_false', decide_eq_true_eq, ne_eq, Decidable.not_not] at hb
    obtain ⟨h5, hn, hs⟩ := hb
    match ws, h5 with
    | [a, b, d, e, f], _ =>
      have e0 : a = wClass := h0
      simp only [Prod.mk.injEq, Bool.and_eq_true] at h
      obtain ⟨hc, h3, h4⟩ := h
      have h3' : rdNames e = ((rdNames e).1, true) := by rw [← h3]; rfl
      have h4' : rdNames f = ((rdNames f).1, true) := by rw [← h4]; rfl
      obtain ⟨i3, j3⟩ := rdNames_is h3'
      obtain ⟨i4, j4⟩ := rdNames_is h4'
      have hn' : Idn.name b = true := hn
      have hs' : d = [45] ∨ Idn.name d = true := hs
      subst hc e0
      refine ⟨?_, hn', ?_, j3, j4⟩
      · show [wClass, b, d, e, f] = [wClass, b, Idn.orDash (if d = [45] then [] else d), Idn.orDash (Idn.joinL [44] (rdNames e).1), Idn.orDash (Idn.joinL [44] (rdNames f).1)]
        rw [← i3, ← i4]
        have hd : Idn.orDash (if d = [45] then [] else d) = d := by
          split
          · rename_i hd; rw [hd]; rfl
          · rename_i hd
            rcases hs' with e | e
            · exact absurd e hd
            · exact orDash_ne (Idn.name_bytes e).2.2.2.1
        rw [hd]
      · show (if d = [45] then [] else d) = [] ∨ Idn.name (if d = [45] then [] else d) = true
        split
        · exact .inl rfl
        · rename_i hd
          rcases hs' with e | e
          · exact absurd e hd
          · exact .inr e
theorem cut_ty {t : Idn.AT} (h : okT t) : Idn.cutC 32 (Idn.tyLine t) = tyWords t := by
  rw [tyLine_words]; exact Idn.cutC_joinL 32 _ (tyWords_ne t) fun w hw => (tyWords_bytes h w hw).1
theorem cut_cl {c : Idn.Cl} (h : okN c) : Idn.cutC 32 (Idn.clLine c) = clWords c := by
  rw [clLine_words]; exact Idn.cutC_joinL 32 _ (by simp [clWords]) fun w hw => (clWords_bytes h w hw).1
theorem tyLine_10 {t : Idn.AT} (h : okT t) : 10 ∉ Idn.tyLine t := by
  rw [tyLine_words]; exact joinL_bytes 32 10 (by decide) _ fun w hw => (tyWords_bytes h w hw).2
theorem clLine_10 {c : Idn.Cl} (h : okN c) : 10 ∉ Idn.clLine c := by
  rw [clLine_words]; exact joinL_bytes 32 10 (by decide) _ fun w hw => (clWords_bytes h w hw).2
theorem tyWords_head (t : Idn.AT) : (tyWords t).headD [] = wType := by unfold tyWords; split <;> rfl
theorem rdLine_ty (s : Idn.Sch) {t : Idn.AT} (h : okT t) : rdLine s (Idn.tyLine t) = (⟨s.types ++ [t], s.classes⟩, s.classes.isEmpty) := by
  unfold rdLine
  rw [cut_ty h, if_pos (show (tyWords t).headD [] = [116, 121, 112, 101] from tyWords_head t), rdType_of h]
  rfl
theorem rdLine_cl (s : Idn.Sch) {c : Idn.Cl} (h : okN c) : rdLine s (Idn.clLine c) = (⟨s.types, s.classes ++ [c]⟩, true) := by
  unfold rdLine
  rw [cut_cl h, if_neg (by show wClass ≠ wType; decide), if_pos (show (clWords c).headD [] = [99, 108, 97, 115, 115] from rfl), rdClass_of h]
theorem rdLine_is {s s' : Idn.Sch} {line : Bs} (h : rdLine s line = (s', true)) :
    (∃ t, okT t ∧ line = Idn.tyLine t ∧ s.classes = [] ∧ s' = ⟨s.types ++ [t], s.classes⟩) ∨ ∃ c, okN c ∧ line = Idn.clLine c ∧ s' = ⟨s.types, s.classes ++ [c]⟩ := by
  have hj := Idn.joinL_cutC 32 line
  unfold rdLine at h
  split at h
  · rename_i h0
    simp only [Prod.mk.injEq, Bool.and_eq_true] at h
    obtain ⟨h1, h2, h3⟩ := h
    have hr : rdType (Idn.cutC 32 line) = ((rdType (Idn.cutC 32 line)).1, true) := by rw [← h2]
    obtain ⟨i1, i2⟩ := rdType_is hr h0
    refine .inl ⟨_, i2, ?_, by simpa using h3, h1.symm⟩
    rw [tyLine_words, ← i1, hj]
  · split at h
    · rename_i h0
      simp only [Prod.mk.injEq] at h
      obtain ⟨h1, h2⟩ := h
      have hr : rdClass (Idn.cutC 32 line) = ((rdClass (Idn.cutC 32 line)).1, true) := by rw [← h2]
      obtain ⟨i1, i2⟩ := rdClass_is hr h0
      refine .inr ⟨_, i2, ?_, h1.symm⟩
      rw [clLine_words, ← i1, hj]
    · simp at h
end Go.Proofs.YtnikolglippfmaaGreatDoor
/- Plain law: Parse of a schema's text is the schema; the text of what Parse read is what it read. -/
namespace Go.Proofs.YtnikolglippfmaaGreatDoor
open Idn (L B Bs okT okC)
theorem lines_ne {a : Bs} {rest : Bs} : a ++ 10 :: rest ≠ [] := by cases a <;> simp
theorem parse_ty (rest : Bs) : ∀ (l : List Idn.AT) (k : Nat) (a : List Idn.AT) (n : Nat), (∀ t ∈ l, okT t) → parseL (k + l.length) ⟨a, []⟩ n (Idn.tyLines l ++ rest) = parseL k ⟨a ++ l, []⟩ (n + l.length) rest
  | [], k, a, n, _ => by simp [Idn.tyLines]
  | t :: l, k, a, n, h => by
    have ht := h t (by simp)
    have ih := parse_ty rest l k (a ++ [t]) (n + 1) (fun x hx => h x (List.mem_cons_of_mem _ hx))
    have e : Idn.tyLines (t :: l) ++ rest = Idn.tyLine t ++ 10 :: (Idn.tyLines l ++ rest) := by simp [Idn.tyLines]
    rw [e, List.length_cons, ← Nat.add_assoc, parseL, if_neg lines_ne, Idn.cut_hit 10 _ _ (tyLine_10 ht), rdLine_ty _ ht, if_pos (by rfl)]
    dsimp only
    rw [ih, List.append_assoc, Nat.add_right_comm, Nat.add_assoc]
    rfl
theorem parse_cl (rest : Bs) : ∀ (l : List Idn.Cl) (k : Nat) (s : Idn.Sch) (n : Nat), (∀ c ∈ l, okN c) → parseL (k + l.length) s n (Idn.clLines l ++ rest) = parseL k ⟨s.types, s.classes ++ l⟩ (n + l.length) rest
  | [], k, s, n, _ => by simp [Idn.clLines]
  | c :: l, k, s, n, h => by
    have hc := h c (by simp)
    have ih := parse_cl rest l k ⟨s.types, s.classes ++ [c]⟩ (n + 1) (fun x hx => h x (List.mem_cons_of_mem _ hx))
    have e : Idn.clLines (c :: l) ++ rest = Idn.clLine c ++ 10 :: (Idn.clLines l ++ rest) := by simp [Idn.clLines]
    rw [e, List.length_cons, ← Nat.add_assoc, parseL, if_neg lines_ne, Idn.cut_hit 10 _ _ (clLine_10 hc), rdLine_cl _ hc, if_pos (by rfl)]
    dsimp only
    rw [ih]
    dsimp only
    rw [List.append_assoc, Nat.add_right_comm, Nat.add_assoc]
    rfl
theorem parse_end (k : Nat) (s : Idn.Sch) (n : Nat) : parseL k s n [] = fin s := by
  cases k with
  | zero => rfl
  | succ k => rw [parseL, if_pos rfl]
theorem lines_len {α : Type} (f : α → Bs) : ∀ l : List α, l.length ≤ (l.flatMap fun t => f t ++ [10]).length
  | [] => by simp
  | x :: l => by
    have := lines_len f l
    simp only [List.flatMap_cons, List.length_append, List.length_cons, List.length_nil]
    omega
theorem sText_ok {s : Idn.Sch} (h : (Idn.sText s).2 = 0) : Idn.sCheck s = 0 ∧ (Idn.sText s).1 = Idn.tyLines s.types ++ Idn.clLines s.classes ∧ (Idn.tyLines s.types ++ Idn.clLines s.classes).length ≤ 4096 := by
  unfold Idn.sText at *
  by_cases h0 : Idn.sCheck s = 0
  · rw [if_neg (by simp [h0])] at h ⊢
    split at h
    · cases h
    · rename_i h1
      rw [if_neg h1]
      exact ⟨h0, rfl, by simpa using h1⟩
  · rw [if_pos (by simpa using h0)] at h
    exact absurd h h0
theorem sText_of {s : Idn.Sch} (h : Idn.sCheck s = 0) (hl : (Idn.tyLines s.types ++ Idn.clLines s.classes).length ≤ 4096) : Idn.sText s = (Idn.tyLines s.types ++ Idn.clLines s.classes, 0) := by
  unfold Idn.sText
  rw [if_neg (by simp [h]), if_neg (by simpa using hl)]
/-- Parse of the text -/
theorem parse_text {s : Idn.Sch} (h : (Idn.sText s).2 = 0) : sParse (Idn.sText s).1 = (s, 0, 0) := by
  obtain ⟨h0, h1, h2⟩ := sText_ok h
  obtain ⟨o1, o2, _, _⟩ := Idn.sCheck_ok h0
  rw [h1]
  unfold sParse
  rw [if_neg (by omega)]
  have l1 : s.types.length ≤ (Idn.tyLines s.types).length := lines_len Idn.tyLine s.types
  have l2 : s.classes.length ≤ (Idn.clLines s.classes).length := lines_len Idn.clLine s.classes
  rw [List.length_append] at h2 ⊢
  obtain ⟨k, hk⟩ : ∃ k, (Idn.tyLines s.types).length + (Idn.clLines s.classes).length + 1 = (k + s.classes.length) + s.types.length := ⟨(Idn.tyLines s.types).length + (Idn.clLines s.classes).length + 1 - s.classes.length - s.types.length, by omega⟩
  rw [hk, parse_ty _ _ _ _ _ o1]
  have := parse_cl [] s.classes k ⟨[] ++ s.types, []⟩ (1 + s.types.length) (fun c hc => okN_of (o2 c hc))
  rw [List.append_nil] at this
  rw [this, parse_end]
  unfold fin
  simp only [List.nil_append]
  rw [if_pos h0]
theorem parse_is : ∀ (k : Nat) (s s' : Idn.Sch) (n : Nat) (rest : Bs) (m : Int), rest.length < k → parseL k s n rest = (s', m, 0) →
    ∃ a b, s' = ⟨s.types ++ a, s.classes ++ b⟩ ∧ (s.classes ≠ [] → a = []) ∧ rest = Idn.tyLines a ++ Idn.clLines b ∧ Idn.sCheck s' = 0
  | 0, _, _, _, _, _, hk, _ => by omega
  | k + 1, s, s', n, rest, m, hk, h => by
    rw [parseL] at h
    split at h
    · rename_i hr
      unfold fin at h
      split at h
      · rename_i h0
        simp only [Prod.mk.injEq] at h
        obtain ⟨rfl, _⟩ := h
        exact ⟨[], [], by simp, fun _ => rfl, by rw [hr]; rfl, h0⟩
      · rename_i h0
        simp only [Prod.mk.injEq] at h
        exact absurd h.2.2 h0
    · split at h
      · rename_i hr hc
        simp only [Bool.and_eq_true] at hc
        obtain ⟨c1, c2⟩ := hc
        have hcut : rest = (Lib.cut rest [10]).1 ++ 10 :: (Lib.cut rest [10]).2.1 := Idn.cut_is (by rw [← c1])
        generalize Lib.cut rest [10] = ct at *
        obtain ⟨line, rest2, en⟩ := ct
        dsimp only at *
        have hlen : rest2.length < k := by rw [hcut] at hk; simp at hk; omega
        obtain ⟨a, b, e1, e2, e3, e4⟩ := parse_is k _ _ _ _ _ hlen h
        have hrd : rdLine s line = ((rdLine s line).1, true) := by rw [← c2]
        rcases rdLine_is hrd with ⟨t, ht, hl, hcl, hs⟩ | ⟨c, hc, hl, hs⟩
        · rw [hs] at e1 e2
          refine ⟨t :: a, b, ?_, fun hx => absurd hcl hx, ?_, e4⟩
          · rw [e1]; simp
          · rw [hcut, hl, e3]; simp [Idn.tyLines]
        · rw [hs] at e1 e2
          have ha : a = [] := e2 (by simp)
          subst ha
          refine ⟨[], c :: b, ?_, fun _ => rfl, ?_, e4⟩
          · rw [e1]; simp
          · rw [hcut, hl, e3]; simp [Idn.tyLines, Idn.clLines]
      · simp at h
/-- the text of what was read -/
theorem text_parse {t : Bs} (h : (sParse t).2.2 = 0) : Idn.sText (sParse t).1 = (t, 0) ∧ Idn.sCheck (sParse t).1 = 0 := by
  unfold sParse at *
  by_cases hl : 4096 < t.length
  · rw [if_pos hl] at h; simp at h
  · rw [if_neg hl] at h ⊢
    generalize hr : parseL (t.length + 1) ⟨[], []⟩ 1 t = r at *
    obtain ⟨s', m, e⟩ := r
    dsimp only at h ⊢
    subst h
    obtain ⟨a, b, e1, _, e3, e4⟩ := parse_is _ _ _ _ _ _ (by omega) hr
    simp only [List.nil_append] at e1
    subst e1
    refine ⟨?_, e4⟩
    rw [sText_of e4 (by rw [← e3]; omega), ← e3]
theorem fin_err {s : Idn.Sch} (h : (fin s).2.2 ≠ 0) : (fin s).1 = ⟨[], []⟩ := by
  unfold fin at *
  split at h
  · exact absurd rfl h
  · rename_i h0; rw [if_neg h0]
theorem parseL_err : ∀ (k : Nat) (s : Idn.Sch) (n : Nat) (rest : Bs), (parseL k s n rest).2.2 ≠ 0 → (parseL k s n rest).1 = ⟨[], []⟩
  | 0, s, n, rest, h => fin_err h
  | k + 1, s, n, rest, h => by
    rw [parseL] at h ⊢
    split
    · rename_i h0; rw [if_pos h0] at h; exact fin_err h
    · rename_i h0
      rw [if_neg h0] at h
      split
      · rename_i h1; rw [if_pos h1] at h; exact parseL_err k _ _ _ h
      · rfl
theorem parse_err {t : Bs} (h : (sParse t).2.2 ≠ 0) : (sParse t).1 = ⟨[], []⟩ := by
  unfold sParse at *
  split
  · rfl
  · rename_i h0; rw [if_neg h0] at h; exact parseL_err _ _ _ _ h
theorem ssm6_of {s : Idn.Sch} (h : Idn.sCheck s = 0) : SSm6 s := by
  obtain ⟨o1, o2, _, _⟩ := Idn.sCheck_ok h
  refine ⟨fun t ht => by have := name_len (o1 t ht).1; omega, fun c hc => ?_⟩
  obtain ⟨a1, a2, a3, a4, a5, a6⟩ := o2 c hc
  refine ⟨by have := name_len a1; omega, ?_, a3, a4, fun x hx => by have := name_len (a5 x hx); omega, fun x hx => by have := name_len (a6 x hx); omega⟩
  rcases a2 with e | e
  · rw [e]; simp
  · have := name_len e; omega
theorem ssm_of {s : Idn.Sch} (h : Idn.sCheck s = 0) : SSm s := by
  obtain ⟨o1, o2, h3, h4⟩ := Idn.sCheck_ok h
  obtain ⟨s1, s2⟩ := ssm6_of h
  refine ⟨⟨by omega, fun t ht => by have := s1 t ht; omega⟩, ⟨by omega, fun c hc => ?_⟩⟩
  obtain ⟨a1, a2, a3, a4, a5, a6⟩ := s2 c hc
  exact ⟨by omega, by omega, ⟨by omega, fun x hx => by have := a5 x hx; omega⟩, ⟨by omega, fun x hx => by have := a6 x hx; omega⟩⟩
end Go.Proofs.YtnikolglippfmaaGreatDoor
/- Plain law: Parse by the reference is the layer's. -/
namespace Go.Proofs.YtnikolglippfmaaGreatDoor
open Go.RowKit Go.Sort
open Idn (L B Bs)
def rNames (s : Bs) : List Bs × Bool := if s = [45] then ([], true) else if (Idn.cutC 44 s).all Idn.name = true then (Idn.cutC 44 s, true) else ([], false)
def tl5 (ws : List Bs) : Idn.AT × Bool := if ws.headD [] = wType then rdType ws else (⟨[], 0, false⟩, false)
def cl5 (ws : List Bs) : Idn.Cl × Bool :=
  if ws.headD [] = wClass ∧ badCl ws = false then (⟨ws.getD 1 [], if ws.getD 2 [] = [45] then [] else ws.getD 2 [], (rNames (ws.getD 3 [])).1, (rNames (ws.getD 4 [])).1⟩, (rNames (ws.getD 3 [])).2 && (rNames (ws.getD 4 [])).2)
  else (⟨[], [], [], []⟩, false)
theorem rNames_eq (s : Bs) : (rNames s).2 = (rdNames s).2 ∧ ((rdNames s).2 = true → (rNames s).1 = (rdNames s).1) := by
  unfold rNames rdNames
  by_cases h : s = [45]
  · rw [if_pos h, if_pos h]; exact ⟨rfl, fun _ => rfl⟩
  · rw [if_neg h, if_neg h]
    cases ha : (Idn.cutC 44 s).all Idn.name
    · exact ⟨rfl, fun h => by simp at h⟩
    · exact ⟨rfl, fun _ => rfl⟩
theorem cl5_eq {ws : List Bs} (h : ws.headD [] = wClass) : (cl5 ws).2 = (rdClass ws).2 ∧ ((rdClass ws).2 = true → (cl5 ws).1 = (rdClass ws).1) := by
  unfold cl5 rdClass
  cases hb : badCl ws
  · rw [if_pos ⟨h, rfl⟩, if_neg (c := (false : Bool) = true) (by decide)]
    obtain ⟨a1, a2⟩ := rNames_eq (ws.getD 3 [])
    obtain ⟨b1, b2⟩ := rNames_eq (ws.getD 4 [])
    dsimp only
    rw [a1, b1]
    refine ⟨rfl, fun hh => ?_⟩
    rw [Bool.and_eq_true] at hh
    rw [a2 hh.1, b2 hh.2]
  · rw [if_neg (c := ws.headD [] = wClass ∧ (true : Bool) = false) (by simp), if_pos (c := (true : Bool) = true) rfl]
    exact ⟨rfl, fun h => by simp at h⟩
/-- the schema of lines, of which the last has no end -/
def rLines : Idn.Sch → Nat → List Bs → Idn.Sch × Int × Int
  | _, n, [] => (⟨[], []⟩, (n : Int), 4)
  | s, n, [x] => if x = [] then fin s else (⟨[], []⟩, (n : Int), 4)
  | s, n, x :: y :: l =>
    if ((tl5 (Idn.cutC 32 x)).2 && s.classes.isEmpty) = true then rLines ⟨s.types ++ [(tl5 (Idn.cutC 32 x)).1], s.classes⟩ (n + 1) (y :: l)
    else if (cl5 (Idn.cutC 32 x)).2 = true then rLines ⟨s.types, s.classes ++ [(cl5 (Idn.cutC 32 x)).1]⟩ (n + 1) (y :: l)
    else (⟨[], []⟩, (n : Int), 4)
def rParse (t : Bs) : Idn.Sch × Int × Int := if 4096 < t.length then (⟨[], []⟩, 0, 3) else rLines ⟨[], []⟩ 1 (Idn.cutC 10 t)
theorem cl5_no {ws : List Bs} (h : ws.headD [] ≠ wClass) : cl5 ws = (⟨[], [], [], []⟩, false) := by
  unfold cl5; rw [if_neg (fun e => h e.1)]
theorem tl5_no {ws : List Bs} (h : ws.headD [] ≠ wType) : tl5 ws = (⟨[], 0, false⟩, false) := by
  unfold tl5; rw [if_neg h]
theorem tl5_yes {ws : List Bs} (h : ws.headD [] = wType) : tl5 ws = rdType ws := by
  unfold tl5; rw [if_pos h]
theorem rStep (s : Idn.Sch) (n : Nat) (x y : Bs) (l : List Bs) : rLines s n (x :: y :: l) = if (rdLine s x).2 = true then rLines (rdLine s x).1 (n + 1) (y :: l) else (⟨[], []⟩, (n : Int), 4) := by
  rw [rLines]
  unfold rdLine
  by_cases h1 : (Idn.cutC 32 x).headD [] = wType
  · have h2 : (Idn.cutC 32 x).headD [] ≠ wClass := by rw [h1]; decide
    rw [if_pos (c := (Idn.cutC 32 x).headD [] = [116, 121, 112, 101]) h1, tl5_yes h1, cl5_no h2]
    simp
  · rw [if_neg (c := (Idn.cutC 32 x).headD [] = [116, 121, 112, 101]) h1, tl5_no h1]
    by_cases h2 : (Idn.cutC 32 x).headD [] = wClass
    · rw [if_pos (c := (Idn.cutC 32 x).headD [] = [99, 108, 97, 115, 115]) h2]
      obtain ⟨e1, e2⟩ := cl5_eq h2
      dsimp only
      rw [Bool.false_and, if_neg (by simp), e1]
      by_cases h3 : (rdClass (Idn.cutC 32 x)).2 = true
      · rw [if_pos h3, if_pos h3, e2 h3]
      · rw [if_neg h3, if_neg h3]
    · rw [if_neg (c := (Idn.cutC 32 x).headD [] = [99, 108, 97, 115, 115]) h2, cl5_no h2]
      simp
theorem rLines_eq : ∀ (k : Nat) (s : Idn.Sch) (n : Nat) (rest : Bs), rest.length < k → rLines s n (Idn.cutC 10 rest) = parseL k s n rest
  | 0, _, _, _, h => by omega
  | k + 1, s, n, rest, h => by
    rw [parseL, Idn.cutC_fst, Idn.cut_fst]
    cases hf : Idn.fstC 10 rest with
    | none =>
      dsimp only
      rw [rLines]
      by_cases h0 : rest = []
      · rw [if_pos h0, if_pos h0]
      · rw [if_neg h0, if_neg h0, Bool.false_and, if_neg (by simp)]
    | some i =>
      dsimp only
      have hi := Idn.fstC_lt hf
      have h0 : rest ≠ [] := by intro e; subst e; simp at hi
      rw [if_neg h0, Bool.true_and]
      obtain ⟨y, l, hyl⟩ : ∃ y l, Idn.cutC 10 (rest.drop (i + 1)) = y :: l := by
        cases hx : Idn.cutC 10 (rest.drop (i + 1)) with
        | nil => exact absurd hx (Idn.cutC_ne _ _)
        | cons y l => exact ⟨y, l, rfl⟩
      have ih := fun s' => rLines_eq k s' (n + 1) (rest.drop (i + 1)) (by rw [List.length_drop]; omega)
      rw [hyl] at ih ⊢
      rw [rStep]
      by_cases hr : (rdLine s (rest.take i)).2 = true
      · rw [if_pos hr, if_pos hr, ih]
      · rw [if_neg hr, if_neg hr]
theorem rParse_eq (t : Bs) : rParse t = sParse t := by
  unfold rParse sParse
  rw [rLines_eq (t.length + 1) _ _ _ (by omega)]
end Go.Proofs.YtnikolglippfmaaGreatDoor
