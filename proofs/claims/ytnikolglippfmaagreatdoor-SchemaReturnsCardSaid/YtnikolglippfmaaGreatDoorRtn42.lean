/- Part 42 of the proof that Parse of the text form of a schema is the schema, and Text of what Parse returns is the string: the package variables hold what the program lays; nothing else is asked. -/
import Derived.Test.YtnikolglippfmaaGreatDoorRtn10
import Derived.Test.YtnikolglippfmaaGreatDoorRtn14
import Derived.Test.YtnikolglippfmaaGreatDoorRtn20
import Derived.Test.YtnikolglippfmaaGreatDoorRtn41
/- schema: Parse, whatever the text. -/
namespace Go.Proofs.YtnikolglippfmaaGreatDoor
open Go.RowKit Go.Sort
open Idn (L B Bs drop_L take_L size_L)
def fin (s : Idn.Sch) : Idn.Sch × Int × Int := if Idn.sCheck s = 0 then (s, 0, 0) else (⟨[], []⟩, 0, Idn.sCheck s)
def parseL : Nat → Idn.Sch → Nat → Bs → Idn.Sch × Int × Int
  | 0, s, _, _ => fin s
  | k + 1, s, n, rest =>
    if rest = [] then fin s
    else if (Lib.cut rest [10]).2.2 && (rdLine s (Lib.cut rest [10]).1).2 then parseL k (rdLine s (Lib.cut rest [10]).1).1 (n + 1) (Lib.cut rest [10]).2.1
    else (⟨[], []⟩, (n : Int), 4)
def sParse (t : Bs) : Idn.Sch × Int × Int := if 4096 < t.length then (⟨[], []⟩, 0, 3) else parseL (t.length + 1) ⟨[], []⟩ 1 t
def RetPS (w : World) (r : Idn.Sch × Int × Int) (e : Ending) (w' : World) : Prop :=
  ∃ vT vC ps, e = .returned (.tuple #[.agg #[vT, vC], .int .i64 r.2.1, .int .i64 r.2.2]) ∧ TyOwn w' w.heap.size vT r.1.types ∧ ClOwn w' w.heap.size vC ps ∧ ps.map (·.1) = r.1.classes ∧ Below w.heap.size w w'
/-- no name is longer than a text of the format -/
def SLim (s : Idn.Sch) : Prop := (∀ t ∈ s.types, t.name.length ≤ 5000) ∧ ∀ c ∈ s.classes, c.name.length ≤ 5000 ∧ c.super.length ≤ 5000 ∧ (c.must.length ≤ 5000 ∧ ∀ x ∈ c.must, x.length ≤ 5000) ∧ c.may.length ≤ 5000 ∧ ∀ x ∈ c.may, x.length ≤ 5000
theorem SLim.ssm {s : Idn.Sch} (h : SLim s) (h2 : s.types.length + s.classes.length ≤ 5000) : SSm s :=
  ⟨⟨by omega, fun t ht => by have := h.1 t ht; omega⟩, ⟨by omega, fun c hc => by
    obtain ⟨a1, a2, ⟨a3, a4⟩, a5, a6⟩ := h.2 c hc
    exact ⟨by omega, by omega, ⟨by omega, fun x hx => by have := a4 x hx; omega⟩, ⟨by omega, fun x hx => by have := a6 x hx; omega⟩⟩⟩⟩
theorem getD_len {ws : List Bs} {m : Nat} (h : ∀ x ∈ ws, x.length ≤ m) (i : Nat) : (ws.getD i []).length ≤ m := by
  rw [List.getD_eq_getElem?_getD]
  cases hx : ws[i]? with
  | none => simp
  | some x => exact h x (List.mem_of_getElem? hx)
theorem rdNames_len (s : Bs) : (rdNames s).1.length ≤ s.length + 1 ∧ ∀ x ∈ (rdNames s).1, x.length ≤ s.length := by
  unfold rdNames
  split
  · simp
  · exact Idn.cutC_len 44 s
theorem rdLine_lim {s : Idn.Sch} (h : SLim s) (line : Bs) (hl : line.length ≤ 4096) : SLim (rdLine s line).1 ∧ (rdLine s line).1.types.length + (rdLine s line).1.classes.length ≤ s.types.length + s.classes.length + 1 := by
  obtain ⟨_, hw0⟩ := Idn.cutC_len 32 line
  have hw : ∀ x ∈ Idn.cutC 32 line, x.length ≤ 4096 := fun x hx => by have := hw0 x hx; omega
  have hg := getD_len hw
  unfold rdLine
  split
  · refine ⟨⟨fun t ht => ?_, h.2⟩, by simp; omega⟩
    rcases List.mem_append.1 ht with ht | ht
    · exact h.1 t ht
    · simp only [List.mem_singleton] at ht
      subst ht
      unfold rdType
      have := hg 1
      split
      · simp
      · split
        · simp
        · dsimp only; omega
  · split
    · refine ⟨⟨h.1, fun c hc => ?_⟩, by simp; omega⟩
      rcases List.mem_append.1 hc with hc | hc
      · exact h.2 c hc
      · simp only [List.mem_singleton] at hc
        subst hc
        unfold rdClass
        have h1 := hg 1
        have h2 := hg 2
        have h3 := hg 3
        have h4 := hg 4
        split
        · simp
        · obtain ⟨n1, n2⟩ := rdNames_len ((Idn.cutC 32 line).getD 3 [])
          obtain ⟨m1, m2⟩ := rdNames_len ((Idn.cutC 32 line).getD 4 [])
          refine ⟨by dsimp only; omega, ?_, ⟨by dsimp only; omega, fun x hx => by have := n2 x hx; omega⟩, by dsimp only; omega, fun x hx => by have := m2 x hx; omega⟩
          dsimp only
          split
          · simp
          · omega
    · exact ⟨h, by dsimp only; omega⟩
theorem cut_lim (y : Bs) : (Lib.cut y [10]).1.length ≤ y.length ∧ ((Lib.cut y [10]).2.2 = true → (Lib.cut y [10]).2.1.length + 1 ≤ y.length) := by
  rw [Idn.cut_fst]
  cases hi : Idn.fstC 10 y with
  | none => simp
  | some i =>
    have := Idn.fstC_lt hi
    dsimp only
    rw [List.length_take, List.length_drop]
    exact ⟨by omega, fun _ => by omega⟩
/-- what every round of Parse finds -/
def PSt (w W wr : World) (R : Idn.Sch × Int × Int) (m : Nat) (s : Idn.Sch) (i : Nat) (y : ByteArray) (AT : Option Addr) (dT : Nat) (AC : Option Addr) (dC : Nat) (ps : List ClP) : Prop :=
  wr.cell? ⟨w.heap.size + 1, 0, none⟩ = some (.slice AT s.types.length dT) ∧ wr.cell? ⟨w.heap.size + 1, 1, none⟩ = some (.slice AC ps.length dC) ∧
  TyOwn wr W.heap.size (.slice AT s.types.length dT) s.types ∧ ClOwn wr W.heap.size (.slice AC ps.length dC) ps ∧ ps.map (·.1) = s.classes ∧
  wr.cell? ⟨w.heap.size, 0, none⟩ = some (.slice none 0 0) ∧ wr.cell? ⟨w.heap.size, 1, none⟩ = some (.slice none 0 0) ∧
  wr.frozen? ⟨w.heap.size, 0, none⟩ = false ∧ wr.frozen? ⟨w.heap.size, 1, none⟩ = false ∧ wr.frozen? ⟨w.heap.size + 1, 0, none⟩ = false ∧ wr.frozen? ⟨w.heap.size + 1, 1, none⟩ = false ∧
  Below w.heap.size w wr ∧ W.heap.size ≤ wr.heap.size ∧ (∃ f, R = parseL (f + 1) s i (L y) ∧ y.size ≤ f) ∧ SLim s ∧ s.types.length + s.classes.length + y.size ≤ 4096 ∧ i + y.size ≤ 4097
theorem TyOwn.low {w : World} {base b : Nat} {v : Value} {l : List Idn.AT} (h : TyOwn w base v l) (hb : b ≤ base) : TyOwn w b v l := own_base h hb
theorem ClOwn.low {w : World} {base b : Nat} {v : Value} {ps : List ClP} (h : ClOwn w base v ps) (hb : b ≤ base) : ClOwn w b v ps := ⟨own_base h.1 hb, fun p hp => ⟨own_base (h.2 p hp).1 hb, own_base (h.2 p hp).2 hb⟩⟩
theorem TyOwn.lt' {w : World} {base : Nat} {v : Value} {l : List Idn.AT} (h : TyOwn w base v l) {g : Nat} (e : v.ownBlock = some g) : base ≤ g := (World.ownsRow.lt h g e).1
theorem cut10_any (y : ByteArray) (w : World) (hE : Env w) (hy : y.size ≤ 4096) :
    Calls Tryz.prog 64 #[.string y, .string ⟨#[10]⟩] w fun e w' => e = .returned (.tuple #[.string (B (Lib.cut (L y) [10]).1), .string (B (Lib.cut (L y) [10]).2.1), .bool (Lib.cut (L y) [10]).2.2]) ∧ Below w.heap.size w w' := by
  obtain ⟨⟨m, h1⟩, _⟩ := hE
  refine (Tryz.strings_Cut y ⟨#[10]⟩ m w (by omega) h1).mono ?_
  rintro e w' ⟨rfl, n, rfl⟩
  exact ⟨rfl, below_drewN (Below.refl _ _) n⟩
set_option maxHeartbeats 4000000 in
set_option maxRecDepth 100000 in
theorem parse_any (x : ByteArray) (w : World) (hE : Env w) :
    Calls Tryz.prog 19 #[.string x] w (RetPS w (sParse (L x))) := by
  generalize hr : sParse (L x) = R
  have HR := Lib.hid hr.symm
  have hxs := size_L x
  clear hr
  by_cases hbig : (4096 : Int) < (x.size : Int)
  · have HF : Hid (R = (⟨[], []⟩, 0, 3)) := by show _ = _; rw [HR.out, sParse, if_pos (by omega)]
    clear HR
    go_enter Tryz.func19, Tryz.ntmps19
    go_wp2
    refine bodyPost_ret (v := .tuple #[.agg #[.slice none 0 0, .slice none 0 0], .int .i64 0, .int .i64 3]) (by simp [results, Tryz.results19, go_sem]) rfl ⟨.slice none 0 0, .slice none 0 0, [], by rw [HF.out], by rw [HF.out]; exact TyOwn.nil _ _, ClOwn.nil _ _, by rw [HF.out]; rfl, ?_⟩
    repeat (first | with_reducible exact Below.refl _ _ | refine Below.setCell ?_ (by simp) _ | refine Below.alloc ?_ (by simp) _)
  · have HF : Hid (R = parseL (x.size + 1) ⟨[], []⟩ 1 (L x)) := by show _ = _; rw [HR.out, sParse, if_neg (by omega), ← hxs]
    clear HR
    have hx4 : x.size ≤ 4096 := by omega
    clear hxs
    have hCut := cut10_any
    have hRd := read_any
    go_enter Tryz.func19, Tryz.ntmps19
    go_wp2
    with_reducible refine gen2g (R := fun W => Code.wp Tryz.prog _ _ _ W) ?_
    intro W hbW hszW hc1 hc2 hf1 hf2
    have q0 : W.cell? ⟨w.heap.size, 0, none⟩ = some (.slice none 0 0) := hc1 0 _ rfl
    have q1 : W.cell? ⟨w.heap.size, 1, none⟩ = some (.slice none 0 0) := hc1 1 _ rfl
    have c0 : W.cell? ⟨w.heap.size + 1, 0, none⟩ = some (.slice none 0 0) := hc2 0 _ rfl
    have c1 : W.cell? ⟨w.heap.size + 1, 1, none⟩ = some (.slice none 0 0) := hc2 1 _ rfl
    have z0 := hf1 0
    have z1 := hf1 1
    have z2 := hf2 0
    have z3 := hf2 1
    have HW := Lib.hid hszW
    clear hc1 hc2 hf1 hf2 hbig
    have HI : PSt w W W R x.size ⟨[], []⟩ 1 x none 0 none 0 [] := ⟨c0, c1, TyOwn.nil _ _, ClOwn.nil _ _, rfl, q0, q1, z0, z1, z2, z3, hbW, Nat.le_refl _, ⟨x.size, HF.out, Nat.le_refl _⟩, ⟨by simp, by simp⟩, by simpa using hx4, by omega⟩
    clear q0 q1 c0 c1 z0 z1 z2 z3 HF
    go_loopw [6, 7] (fun r n wr => ∃ s i y AT dT AC dC ps, r = .string y ∧ n = .int .i64 ((i : Nat) : Int) ∧ PSt w W wr R x.size s i y AT dT AC dC ps) (fun _ n _ => (5000 - intOf n).toNat)
    case atStart => exact ⟨_, 1, x, _, _, _, _, _, rfl, rfl, HI⟩
    case round =>
      obtain ⟨s, i, y, AT, dT, AC, dC, ps, rfl, rfl, c0, c1, hT, hC, hps, q0, q1, z0, z1, z2, z3, hb, hbase, ⟨f, hR, hf⟩, hlim, hsum, hi⟩ := hrel
      have HPS := Lib.hid hps
      have HR := Lib.hid hR
      have HL := Lib.hid hlim
      have HFU := Lib.hid hf
      clear hps hR hlim HI hf
      have hys := size_L y
      have hlt : w.heap.size + 1 < wr.heap.size := by omega
      by_cases hy : L y = []
      · have hne : y.toList.isEmpty = true := by rw [toList_L, hy]; rfl
        have HF : Hid (R = fin s) := by show _ = _; rw [HR.out, parseL, if_pos hy]
        have hCk := schCheck_any (.agg #[.slice AT s.types.length dT, .slice AC ps.length dC]) s wr ⟨_, _, rfl, hT.types, hC.classes HPS.out⟩ (HL.out.ssm (by omega))
        clear hCut hRd HR
        generalize he : Idn.sCheck s = e at *
        have HE := Lib.hid he
        clear he hy hys
        go_wp2_with fail
        with_reducible refine hCk.mono ?_
        rintro e w5 ⟨rfl, hb5⟩
        replace c0 := cell_later hb5 c0
        replace c1 := cell_later hb5 c1
        replace q0 := cell_later hb5 q0
        replace q1 := cell_later hb5 q1
        replace z0 := frozen_later hb5 z0 (by omega)
        replace z1 := frozen_later hb5 z1 (by omega)
        replace z2 := frozen_later hb5 z2 hlt
        replace z3 := frozen_later hb5 z3 hlt
        have hT5 := hT.keep hb5
        have hC5 := hC.keep hb5
        have hb05 := hb.trans (hb5.mono hb.size)
        have sT0 : (Value.slice AT s.types.length dT).ownBlock ≠ some w.heap.size := fun e => by have := (hT5.lt' e); omega
        have sC0 : (Value.slice AC ps.length dC).ownBlock ≠ some w.heap.size := fun e => by have := (hC5.1.lt _ e).1; omega
        have sL0 : ∀ q ∈ ps, q.2.1.ownBlock ≠ some w.heap.size ∧ q.2.2.ownBlock ≠ some w.heap.size := fun q hq => ⟨fun e => by have := ((hC5.2 q hq).1.lt _ e).1; omega, fun e => by have := ((hC5.2 q hq).2.lt _ e).1; omega⟩
        have hTF := TyOwn.low hT5 hbW.size
        have hCF := ClOwn.low hC5 hbW.size
        clear hCk hb hb5 hT hC hT5 hC5 HL
        by_cases he0 : e = 0
        · have HG : Hid (R = (s, 0, 0)) := by show _ = _; rw [HF.out, fin, if_pos (by rw [HE.out]; exact he0)]
          have hpI : (e == 0) = true := by rw [he0]; rfl
          clear HF HE
          go_wp2
          refine bodyPost_ret (v := .tuple #[.agg #[.slice AT s.types.length dT, .slice AC ps.length dC], .int .i64 0, .int .i64 0]) (by simp [results, Tryz.results19, go_sem, q0, q1, z0, z1]) rfl ⟨.slice AT s.types.length dT, .slice AC ps.length dC, ps, by rw [HG.out], ?_, ?_, ?_, ?_⟩
          · rw [HG.out]
            repeat (first | with_reducible exact hTF | with_reducible refine TyOwn.set ?_ _ sT0)
          · repeat (first | with_reducible exact hCF | with_reducible refine ClOwn.set ?_ _ sC0 sL0)
          · rw [HG.out]; exact HPS.out
          · repeat (first | with_reducible exact hb05 | refine Below.setCell ?_ (by simp) _)
        · have HG : Hid (R = (⟨[], []⟩, 0, e)) := by show _ = _; rw [HF.out, fin, if_neg (by rw [HE.out]; exact he0), HE.out]
          have hpI : (e == 0) = false := by rw [beq_eq_false_iff_ne]; exact he0
          clear HF HE
          go_wp2
          refine bodyPost_ret (v := .tuple #[.agg #[.slice none 0 0, .slice none 0 0], .int .i64 0, .int .i64 e]) (by simp [results, Tryz.results19, go_sem, q0, q1, z0, z1]) rfl ⟨.slice none 0 0, .slice none 0 0, [], by rw [HG.out], ?_, ?_, ?_, ?_⟩
          · rw [HG.out]; exact TyOwn.nil _ _
          · exact ClOwn.nil _ _
          · rw [HG.out]; rfl
          · repeat (first | with_reducible exact hb05 | refine Below.setCell ?_ (by simp) _)
      · have hne : y.toList.isEmpty = false := by rw [toList_L]; cases hL : L y with | nil => exact absurd hL hy | cons a b => rfl
        have hne2 : (y.toList == ([] : List UInt8)) = false := by rw [beq_eq_false_iff_ne, toList_L]; exact hy
        have hcl := cut_lim (L y)
        have HF : Hid (R = if (Lib.cut (L y) [10]).2.2 && (rdLine s (Lib.cut (L y) [10]).1).2 then parseL f (rdLine s (Lib.cut (L y) [10]).1).1 (i + 1) (Lib.cut (L y) [10]).2.1 else (⟨[], []⟩, (i : Int), 4)) := by show _ = _; rw [HR.out, parseL, if_neg hy]
        have hyI : y.size ≤ 4096 := by omega
        clear HR hy
        have hCt := hCut y wr (hE.keep hb) hyI
        generalize Lib.cut (L y) [10] = ct at *
        obtain ⟨l1, l2, en⟩ := ct
        dsimp only at hCt hcl HF
        have hbl : (B l1).size ≤ 1000000 := by rw [Idn.size_B]; omega
        have HCL := Lib.hid hcl
        have HSZ := Lib.hid hys
        clear hCut hcl hys
        go_wp2_with fail
        with_reducible refine hCt.mono ?_
        rintro e w1 ⟨rfl, hb1⟩
        replace c0 := cell_later hb1 c0
        replace c1 := cell_later hb1 c1
        replace q0 := cell_later hb1 q0
        replace q1 := cell_later hb1 q1
        replace z0 := frozen_later hb1 z0 (by omega)
        replace z1 := frozen_later hb1 z1 (by omega)
        replace z2 := frozen_later hb1 z2 hlt
        replace z3 := frozen_later hb1 z3 hlt
        have hb01 := hb.trans (hb1.mono hb.size)
        have hT1 := hT.keep hb1
        have hC1 := hC.keep hb1
        have hlt1 : w.heap.size + 1 < w1.heap.size := by have := hb1.size; omega
        have hbase1 : W.heap.size ≤ w1.heap.size := Nat.le_trans hbase hb1.size
        clear hCt hlt hb1 hT hC
        have hR2 := hRd s _ _ ps (B l1) W.heap.size w1 hT1 hC1 HPS.out hbase1 (hE.keep hb01) hbl (by omega) (by omega)
        rw [Idn.L_B] at hR2
        have hrl := rdLine_lim HL.out l1 (by have := HCL.out.1; have := HSZ.out; omega)
        generalize rdLine s l1 = rl at *
        obtain ⟨s2, ok⟩ := rl
        dsimp only at hR2 HF hrl
        have HRL := Lib.hid hrl
        clear hRd hrl HL hbl
        go_wp2_with fail
        with_reducible refine hR2.mono ?_
        rintro e w2 ⟨vT2, vC2, ps2, rfl, hT2, hC2, hps2, hb2⟩
        obtain ⟨AT2, dT2, ht2⟩ := own_shape hT2
        subst ht2
        obtain ⟨AC2, dC2, ht3⟩ := own_shape hC2.1
        subst ht3
        replace c0 := (hb2.cell (p := ⟨w.heap.size + 1, 0, none⟩) (by show w.heap.size + 1 < W.heap.size; have := HW.out; omega)).trans c0
        replace c1 := (hb2.cell (p := ⟨w.heap.size + 1, 1, none⟩) (by show w.heap.size + 1 < W.heap.size; have := HW.out; omega)).trans c1
        replace q0 := (hb2.cell (p := ⟨w.heap.size, 0, none⟩) (by show w.heap.size < W.heap.size; have := HW.out; omega)).trans q0
        replace q1 := (hb2.cell (p := ⟨w.heap.size, 1, none⟩) (by show w.heap.size < W.heap.size; have := HW.out; omega)).trans q1
        replace z0 := (hb2.frozen (p := ⟨w.heap.size, 0, none⟩) (by show w.heap.size < W.heap.size; have := HW.out; omega)).trans z0
        replace z1 := (hb2.frozen (p := ⟨w.heap.size, 1, none⟩) (by show w.heap.size < W.heap.size; have := HW.out; omega)).trans z1
        replace z2 := (hb2.frozen (p := ⟨w.heap.size + 1, 0, none⟩) (by show w.heap.size + 1 < W.heap.size; have := HW.out; omega)).trans z2
        replace z3 := (hb2.frozen (p := ⟨w.heap.size + 1, 1, none⟩) (by show w.heap.size + 1 < W.heap.size; have := HW.out; omega)).trans z3
        have hb02 := hb01.trans (hb2.mono hbW.size)
        have hlt2 : w.heap.size + 1 < w2.heap.size := by have := hb2.size; omega
        have hlt3 : w.heap.size < w2.heap.size := by omega
        have hbase2 : W.heap.size ≤ w2.heap.size := Nat.le_trans hbase1 hb2.size
        have HP2 := Lib.hid hps2
        have HSM := Lib.hid hsum
        have HII := Lib.hid hi
        clear hR2 hT1 hC1 hb01 hbase1 hbase hb2 hb hps2 hsum hlt1 HPS
        go_upto_region 10 with fail
        with_reducible refine gen1 (R := fun W => Code.wp Tryz.prog _ _ _ W) ?_
        intro W4 hbW4 hsz4 hc4 _
        have d0 : W4.cell? ⟨w2.heap.size, 0, none⟩ = some (.slice AT2 s2.types.length dT2) := hc4 0 _ rfl
        have d1 : W4.cell? ⟨w2.heap.size, 1, none⟩ = some (.slice AC2 ps2.length dC2) := hc4 1 _ rfl
        replace c0 := cell_later hbW4 c0
        replace c1 := cell_later hbW4 c1
        replace q0 := cell_later hbW4 q0
        replace q1 := cell_later hbW4 q1
        replace z0 := frozen_later hbW4 z0 (by omega)
        replace z1 := frozen_later hbW4 z1 (by omega)
        replace z2 := frozen_later hbW4 z2 (by omega)
        replace z3 := frozen_later hbW4 z3 (by omega)
        have hb04 := hb02.trans (hbW4.mono hb02.size)
        have hT4 := hT2.keep hbW4
        have hC4 := hC2.keep hbW4
        have hbase4 : W.heap.size ≤ W4.heap.size := Nat.le_trans hbase2 hbW4.size
        clear hc4 hbW4 hsz4 hT2 hC2 hb02 hbase2
        have hres : en = false ∨ (en = true ∧ ok = false) ∨ (en = true ∧ ok = true) := by cases en <;> cases ok <;> simp
        rcases hres with rfl | ⟨rfl, rfl⟩ | ⟨rfl, rfl⟩
        iterate 2
          · have HG : Hid (R = (⟨[], []⟩, (i : Int), 4)) := HF.out
            clear HF
            go_wp2
            refine bodyPost_ret (v := .tuple #[.agg #[.slice none 0 0, .slice none 0 0], .int .i64 (i : Int), .int .i64 4]) (by simp [results, Tryz.results19, go_sem, q0, q1, z0, z1]) rfl ⟨.slice none 0 0, .slice none 0 0, [], by rw [HG.out], ?_, ?_, ?_, ?_⟩
            · rw [HG.out]; exact TyOwn.nil _ _
            · exact ClOwn.nil _ _
            · rw [HG.out]; rfl
            · repeat (first | with_reducible exact hb04 | refine Below.setCell ?_ (by simp) _)
        · have HG : Hid (R = parseL f s2 (i + 1) l2) := HF.out
          clear HF
          go_wp2
          go_roundw
          case rel =>
            have sT1 : (Value.slice AT2 s2.types.length dT2).ownBlock ≠ some (w.heap.size + 1) := fun e => by have := hT4.lt' e; have := HW.out; omega
            have sC1 : (Value.slice AC2 ps2.length dC2).ownBlock ≠ some (w.heap.size + 1) := fun e => by have := (hC4.1.lt _ e).1; have := HW.out; omega
            have sL1 : ∀ q ∈ ps2, q.2.1.ownBlock ≠ some (w.heap.size + 1) ∧ q.2.2.ownBlock ≠ some (w.heap.size + 1) := fun q hq => ⟨fun e => by have := ((hC4.2 q hq).1.lt _ e).1; have := HW.out; omega, fun e => by have := ((hC4.2 q hq).2.lt _ e).1; have := HW.out; omega⟩
            have hne01 : w.heap.size + 1 ≠ w.heap.size := by omega
            obtain ⟨h1, h2⟩ := HCL.out
            have h3 := h2 rfl
            have h4 := HSZ.out
            have h5 := HFU.out
            have h6 := HSM.out
            have h7 := HII.out
            obtain ⟨h8, h9⟩ := HRL.out
            obtain ⟨f, rfl⟩ : ∃ f', f = f' + 1 := ⟨f - 1, by omega⟩
            have h10 := HG.out
            have h11 := HP2.out
            clear HCL HSZ HFU HSM HII HRL HG HP2 h1 h2
            refine ⟨s2, i + 1, B l2, AT2, dT2, AC2, dC2, ps2, rfl, by clear h10 h11; go_num, ?_, ?_, ?_, ?_, h11, ?_, ?_, ?_, ?_, ?_, ?_, ?_, ?_, ⟨f, by rw [Idn.L_B]; exact h10, by rw [Idn.size_B]; omega⟩, h8, by rw [Idn.size_B]; omega, by rw [Idn.size_B]; omega⟩
            all_goals clear h10 h11 h3 h4 h5 h6 h7 h8 h9
            · go_simp
            · go_simp
            · exact (hT4.set _ sT1).set _ sT1
            · exact (hC4.set _ sC1 sL1).set _ sC1 sL1
            · go_simp
            · go_simp
            · go_simp
            · go_simp
            · go_simp
            · go_simp
            · exact (hb04.setCell (by simp) _).setCell (by simp) _
            · simpa using hbase4
          case measure =>
            have := HII.out
            simp [intOf]; omega
end Go.Proofs.YtnikolglippfmaaGreatDoor
/- ref07: Same, of two values that read as one schema. -/
namespace Go.Proofs.YtnikolglippfmaaGreatDoor
open Go.RowKit Go.Sort
open Idn (L B Bs drop_L take_L size_L)
theorem gen2dw {R : World → Prop} {w : World} {C1 C2 : Array Value} {t1 t2 : TypeId}
    (h : ∀ W, Below w.heap.size w W → W.heap.size = w.heap.size + 2 → (∀ (i : Nat) (v : Value), C1[i]? = some v → W.cell? ⟨w.heap.size, i, none⟩ = some v) → (∀ (i : Nat) (v : Value), C2[i]? = some v → W.cell? ⟨w.heap.size + 1, i, none⟩ = some v) → R W) : R ((w.alloc (.cells C1 t1)).alloc (.cells C2 t2)).drew :=
  gen2 (R := fun W => R W.drew) fun W h1 h2 h3 h4 => h W.drew h1.drew h2 h3 h4
set_option maxHeartbeats 2000000 in
set_option maxRecDepth 100000 in
theorem r_Same_one (v u : Value) (s : Idn.Sch) (w : World) (hv : SchV w w.heap.size v s) (hu : SchV w w.heap.size u s) (hs : SSm s) :
    Calls Tryz.prog 21 #[v, u] w fun e w' => e = .returned (.bool true) ∧ Below w.heap.size w w' := by
  obtain ⟨a, b, rfl, hT, hC⟩ := hv
  obtain ⟨A, ca, rfl, hca⟩ := SlV.shape hT
  obtain ⟨A', cb, rfl, hcb⟩ := SlV.shape hC
  obtain ⟨a, b, rfl, hT2, hC2⟩ := hu
  obtain ⟨A2, ca2, rfl, hca2⟩ := SlV.shape hT2
  obtain ⟨A2', cb2, rfl, hcb2⟩ := SlV.shape hC2
  have hl1 : s.types.length ≤ 1000000000 := hs.1.1
  have hl2 : s.classes.length ≤ 1000000000 := hs.2.1
  have HSM := Lib.hid hs
  clear hs
  go_enter Tryz.func21, Tryz.ntmps21
  go_wp2
  with_reducible refine gen2 (R := fun W => Code.wp Tryz.prog _ _ _ W) ?_
  intro W hbW hszW hc1 hc2
  have a0 : W.cell? ⟨w.heap.size, 0, none⟩ = some (.slice A s.types.length ca) := hc1 0 _ rfl
  have a1 : W.cell? ⟨w.heap.size, 1, none⟩ = some (.slice A' s.classes.length cb) := hc1 1 _ rfl
  have b0 : W.cell? ⟨w.heap.size + 1, 0, none⟩ = some (.slice A2 s.types.length ca2) := hc2 0 _ rfl
  have b1 : W.cell? ⟨w.heap.size + 1, 1, none⟩ = some (.slice A2' s.classes.length cb2) := hc2 1 _ rfl
  clear hc1 hc2
  have hT' := SlV.mono (SlV.keep hT hbW) hbW.size
  have hT2' := SlV.mono (SlV.keep hT2 hbW) hbW.size
  have hC' := ClassesV.mono (ClassesV.keep hC hbW) hbW.size
  have hC2' := ClassesV.mono (ClassesV.keep hC2 hbW) hbW.size
  clear hT hT2 hC hC2
  go_loopw [5] (fun i wr => ∃ k : Nat, k ≤ s.types.length ∧ i = .int .i64 k ∧ Below W.heap.size W wr) (fun i _ => s.types.length - (intOf i).toNat)
  case atStart => exact ⟨0, Nat.zero_le _, rfl, Below.refl _ _⟩
  case round =>
    obtain ⟨k, hk, rfl, hb⟩ := hrel
    replace a0 := cell_later hb a0
    replace a1 := cell_later hb a1
    replace b0 := cell_later hb b0
    replace b1 := cell_later hb b1
    by_cases hlt : k < s.types.length
    · obtain ⟨p, off, rfl, hp, c0, c1, c2⟩ := TypesV.cell (SlV.keep hT' hb) hlt
      obtain ⟨p', off', rfl, hp', d0, d1, d2⟩ := TypesV.cell (SlV.keep hT2' hb) hlt
      have hltI : (k : Int) < (s.types.length : Int) := by omega
      go_wp2
      go_quiet (fail)
      go_wp2
      go_roundw
      case rel => exact ⟨k + 1, by omega, by go_num, below_drewN hb _⟩
      case measure => simp [intOf]; omega
    · have hltI : ¬ (k : Int) < (s.types.length : Int) := by omega
      replace hC' := ClassesV.keep hC' hb
      replace hC2' := ClassesV.keep hC2' hb
      have hbs := hb.size
      clear hT' hT2' hlt
      go_wp2
      go_loopw [6] (fun i wr2 => ∃ j : Nat, j ≤ s.classes.length ∧ i = .int .i64 j ∧ Below wr.heap.size wr wr2) (fun i _ => s.classes.length - (intOf i).toNat)
      case atStart => exact ⟨0, Nat.zero_le _, rfl, Below.refl _ _⟩
      case round =>
        obtain ⟨j, hj, rfl, hb2⟩ := hrel
        rename World => wr'
        replace a0 := cell_later hb2 a0
        replace a1 := cell_later hb2 a1
        replace b0 := cell_later hb2 b0
        replace b1 := cell_later hb2 b1
        by_cases hlt : j < s.classes.length
        · obtain ⟨p, off, x1, x2, rfl, hp, c0, c1, c2, c3, hm, hy⟩ := ClassesV.cell (ClassesV.keep hC' (hb2.mono hbs)) hlt
          obtain ⟨p', off', y1, y2, rfl, hp', d0, d1, d2, d3, hm2, hy2⟩ := ClassesV.cell (ClassesV.keep hC2' (hb2.mono hbs)) hlt
          have hltI : (j : Int) < (s.classes.length : Int) := by omega
          have hb2s := hb2.size
          have hp1 := Nat.lt_of_lt_of_le hp (Nat.le_trans hbs hb2s)
          have hp2 := Nat.lt_of_lt_of_le hp' (Nat.le_trans hbs hb2s)
          have hp3 : w.heap.size < wr'.heap.size := by omega
          have hp4 : w.heap.size + 1 < wr'.heap.size := by omega
          obtain ⟨m1, e1, rfl, _⟩ := SlV.shape hm
          obtain ⟨m2, e2, rfl, _⟩ := SlV.shape hy
          obtain ⟨m3, e3, rfl, _⟩ := SlV.shape hm2
          obtain ⟨m4, e4, rfl, _⟩ := SlV.shape hy2
          clear hp hp'
          go_wp2
          go_region
          all_goals
            go_upto_region 12 with fail
            with_reducible refine gen2dw (R := fun W => Code.wp Tryz.prog _ _ _ W) ?_
            intro W2 hbW2 _ hd1 hd2
            have g0 : W2.cell? ⟨wr'.heap.size, 0, none⟩ = some (.string (B s.classes[j].name)) := hd1 0 _ rfl
            have g1 : W2.cell? ⟨wr'.heap.size, 1, none⟩ = some (.string (B s.classes[j].super)) := hd1 1 _ rfl
            have g4 : W2.cell? ⟨wr'.heap.size + 1, 0, none⟩ = some (.string (B s.classes[j].name)) := hd2 0 _ rfl
            have g5 : W2.cell? ⟨wr'.heap.size + 1, 1, none⟩ = some (.string (B s.classes[j].super)) := hd2 1 _ rfl
            first
              | (have g2 : W2.cell? ⟨wr'.heap.size, 2, none⟩ = some (.slice m1 s.classes[j].must.length e1) := hd1 2 _ rfl; have g3 : W2.cell? ⟨wr'.heap.size, 3, none⟩ = some (.slice m2 s.classes[j].may.length e2) := hd1 3 _ rfl; have g6 : W2.cell? ⟨wr'.heap.size + 1, 2, none⟩ = some (.slice m3 s.classes[j].must.length e3) := hd2 2 _ rfl; have g7 : W2.cell? ⟨wr'.heap.size + 1, 3, none⟩ = some (.slice m4 s.classes[j].may.length e4) := hd2 3 _ rfl)
              | (have g2 : W2.cell? ⟨wr'.heap.size, 2, none⟩ = some (.slice m3 s.classes[j].must.length e3) := hd1 2 _ rfl; have g3 : W2.cell? ⟨wr'.heap.size, 3, none⟩ = some (.slice m4 s.classes[j].may.length e4) := hd1 3 _ rfl; have g6 : W2.cell? ⟨wr'.heap.size + 1, 2, none⟩ = some (.slice m1 s.classes[j].must.length e1) := hd2 2 _ rfl; have g7 : W2.cell? ⟨wr'.heap.size + 1, 3, none⟩ = some (.slice m2 s.classes[j].may.length e2) := hd2 3 _ rfl)
            have hm' := SlV.mono (SlV.keep hm (hbW2.mono (Nat.le_trans hbs hb2s))) (Nat.le_trans (Nat.le_trans hbs hb2s) hbW2.size)
            have hm2' := SlV.mono (SlV.keep hm2 (hbW2.mono (Nat.le_trans hbs hb2s))) (Nat.le_trans (Nat.le_trans hbs hb2s) hbW2.size)
            have hy' := SlV.mono (SlV.keep hy (hbW2.mono (Nat.le_trans hbs hb2s))) (Nat.le_trans (Nat.le_trans hbs hb2s) hbW2.size)
            have hy2' := SlV.mono (SlV.keep hy2 (hbW2.mono (Nat.le_trans hbs hb2s))) (Nat.le_trans (Nat.le_trans hbs hb2s) hbW2.size)
            have hb3 := hb2.trans (hbW2.mono hb2s)
            clear hd1 hd2 hbW2 hm hm2 hy hy2
            obtain ⟨l1, l2⟩ := HSM.out.2.2 _ (List.getElem_mem hlt) |>.2.2
            have k1 := r_lists_any _ _ _ _ W2 hm' hm2' (by have := l1.1; omega) (by have := l1.1; omega)
            have k2 := r_lists_any _ _ _ _ W2 hm2' hm' (by have := l1.1; omega) (by have := l1.1; omega)
            rw [decide_eq_true rfl] at k1 k2
            have t1 : ((B s.classes[j].name).toList == (B s.classes[j].name).toList) = true := str_is rfl
            have t2 : ((B s.classes[j].super).toList == (B s.classes[j].super).toList) = true := str_is rfl
            have k3 := fun (W : World) (hW : Below W2.heap.size W2 W) => r_lists_any _ _ _ _ W (SlV.mono (SlV.keep hy' hW) hW.size) (SlV.mono (SlV.keep hy2' hW) hW.size) (by have := l2.1; omega) (by have := l2.1; omega)
            have k4 := fun (W : World) (hW : Below W2.heap.size W2 W) => r_lists_any _ _ _ _ W (SlV.mono (SlV.keep hy2' hW) hW.size) (SlV.mono (SlV.keep hy' hW) hW.size) (by have := l2.1; omega) (by have := l2.1; omega)
            clear hm' hm2' hy' hy2'
            go_wp2_with fail
            first | (with_reducible refine k1.mono ?_) | (with_reducible refine k2.mono ?_)
            rintro e w4 ⟨rfl, hb4⟩
            replace g3 := cell_later hb4 g3
            replace g7 := cell_later hb4 g7
            replace g2 := cell_later hb4 g2
            replace g6 := cell_later hb4 g6
            replace k3 := k3 w4 hb4
            replace k4 := k4 w4 hb4
            clear k1 k2
            go_wp2_with fail
            first | (with_reducible refine k3.mono ?_) | (with_reducible refine k4.mono ?_)
            rintro e w5 ⟨rfl, hb5⟩
            have hb6 := hb3.trans (hb4.mono hb3.size)
            have hb7 := hb6.trans (hb5.mono hb6.size)
            clear k3 k4 hb4 hb5 hb3 hb6
            go_wp2
            go_roundw
            case rel => exact ⟨j + 1, by omega, by go_num, hb7⟩
            case measure => simp [intOf]; omega
        · have hltI : ¬ (j : Int) < (s.classes.length : Int) := by omega
          go_wp2
          go_ret
          exact ⟨rfl, hbW.trans ((hb.trans (hb2.mono hb.size)).mono hbW.size)⟩
end Go.Proofs.YtnikolglippfmaaGreatDoor
