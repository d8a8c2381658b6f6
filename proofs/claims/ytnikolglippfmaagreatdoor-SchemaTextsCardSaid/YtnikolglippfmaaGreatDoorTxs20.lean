/- Part 20 of the proof that what Parse reads of a class's description is what the text says, and what it writes Parse reads back: the package variables hold what the program lays; nothing else is asked. -/
import Derived.Test.YtnikolglippfmaaGreatDoorTxs04
import Derived.Test.YtnikolglippfmaaGreatDoorTxs10
import Derived.Test.YtnikolglippfmaaGreatDoorTxs13
import Derived.Test.YtnikolglippfmaaGreatDoorTxs18
import Derived.Test.YtnikolglippfmaaGreatDoorTxs19
import Derived.Sort.Walk0
/- schema.Lineage. -/
namespace Go.Proofs.YtnikolglippfmaaGreatDoor
open Go.RowKit Go.Sort
open Idn (L B Bs drop_L take_L size_L)

theorem dec_sound (s : Idn.Sch) : Idn.Dec (sound s).classes := by
  unfold sound
  by_cases h : Idn.sCheck s = 0
  · rw [if_pos h]; exact Idn.dec_of s h
  · rw [if_neg h]; exact Idn.dec_nil
theorem ssm_sound {s : Idn.Sch} (h : SSm s) : SSm (sound s) := by
  unfold sound
  by_cases h' : Idn.sCheck s = 0
  · rw [if_pos h']; exact h
  · rw [if_neg h']; exact ⟨⟨by simp, by simp⟩, ⟨by simp, by simp⟩⟩
/-- the classes of a lineage -/
def linC (s : Idn.Sch) (n : Bs) : List Idn.Cl := (Idn.lin s n).filterMap (s.classes[·]?)
theorem linK_len (l : List Idn.Cl) : ∀ (f : Nat) (o : Option Nat), (Idn.linK l f o).length ≤ f
  | 0, _ => Nat.le_refl _
  | f + 1, none => by simp [Idn.linK]
  | f + 1, some k => by rw [Idn.linK_some]; have := linK_len l f (Idn.up1 l k); simp; omega
theorem linC_len (s : Idn.Sch) (n : Bs) : (linC s n).length ≤ s.classes.length :=
  Nat.le_trans (List.length_filterMap_le _ _) (linK_len _ _ _)

set_option maxHeartbeats 1000000 in
set_option maxRecDepth 100000 in
theorem schLineage_any (v : Value) (s : Idn.Sch) (n : ByteArray) (w : World) (hv : SchV w w.heap.size v s) (hs : SSm s) (hn : n.size ≤ 1000000000) :
    Calls Tryz.prog 28 #[v, .string n] w (RetS w ((linC (sound s) (L n)).map (·.name))) := by
  have hE := fun W (hW : Below w.heap.size w W) => look_any v s W (SchV.mono (SchV.keep hv hW) hW.size) hs
  obtain ⟨a, b, rfl, hT, hC⟩ := hv
  obtain ⟨A, ca, rfl, hca⟩ := SlV.shape hT
  obtain ⟨A', cb, rfl, hcb⟩ := SlV.shape hC
  clear hT hC
  have hLn := linC_len (sound s) (L n)
  have hsl := (ssm_sound hs).2.1
  generalize hgl : linC (sound s) (L n) = l at *
  have Hgl := Lib.hid hgl
  clear hgl
  go_enter Tryz.func28, Tryz.ntmps28
  go_wp2_with fail
  with_reducible refine gen1 (R := fun W => Calls Tryz.prog 35 _ W _) ?_
  intro W hbW hszW _ _
  refine (hE W hbW).mono ?_
  rintro e w1 ⟨m1, m2, rfl, hb1, hk⟩
  clear hE
  have hLin := lineage_any m1 m2 (sound s) W.heap.size n w1 hk hb1.size (dec_sound s) (ssm_sound hs) hn
  have hbw1 := hbW.trans (hb1.mono hbW.size)
  go_wp2_with fail
  refine hLin.mono ?_
  rintro e w2 ⟨vc, rfl, hb2, hcl⟩
  have hbw2 := hbw1.trans (hb2.mono hbw1.size)
  change ClassesV w2 w2.heap.size vc (linC (sound s) (L n)) at hcl
  rw [Hgl.out] at hcl
  clear hLin hk
  obtain ⟨AA, cc, rfl, hcc⟩ := SlV.shape hcl
  go_wp2
  go_loopw [5, 13] (fun v i wr => ∃ k : Nat, k ≤ l.length ∧ i = .int .i64 k ∧ wr.ownsRow w2.heap.size 9 1 v k (((l.take k).map (·.name)).map sv) ∧ Below w2.heap.size w2 wr) (fun _ i _ => l.length - (intOf i).toNat)
  case atStart => exact ⟨0, Nat.zero_le _, rfl, World.ownsRow_nil _ _ _ _, Below.refl _ _⟩
  case round =>
    obtain ⟨k, hk, rfl, hown, hb⟩ := hrel
    by_cases hlt : k < l.length
    · obtain ⟨b, off, vm, vn, rfl, hbl, c0, c1, c2, c3, hm, hn'⟩ := ClassesV.cell (ClassesV.keep hcl hb) hlt
      obtain ⟨Am, cm, rfl, hcm⟩ := SlV.shape hm
      obtain ⟨An, cn, rfl, hcn⟩ := SlV.shape hn'
      have hltI : (k : Int) < (l.length : Int) := by omega
      have hbs := hb.size
      have ba := (Below.refl wr.heap.size wr).alloc (Nat.le_refl _) (.cells #[.string (B l[k].name), .string (B l[k].super), .slice Am l[k].must.length cm, .slice An l[k].may.length cn] 50)
      have hown1 := own_below hown ba
      have hbw := hb.trans (ba.mono hb.size)
      have hbs1 := hbw.size
      have hsza : (wr.alloc (.cells #[.string (B l[k].name), .string (B l[k].super), .slice Am l[k].must.length cm, .slice An l[k].may.length cn] 50)).heap.size = wr.heap.size + 1 := by simp
      have Hsza := Lib.hid hsza
      clear hm hn' hown ba hsza
      go_wp2_with (at_builtin; refine wpList_push (wr.alloc (.cells #[.string (B l[k].name), .string (B l[k].super), .slice Am l[k].must.length cm, .slice An l[k].may.length cn] 50)) rfl _ _ 48 rfl w2.heap.size 9 (.string ⟨#[]⟩) 1 16 Tryz.underlying48 info_str rfl (by decide) _ k _ hown1 rfl [.string (B l[k].name)] (by rw [Hsza.out]; rfl) rfl (by intro u hu; simp at hu; subst hu; rfl) (by omega) hbs1 ?_ rfl)
      intro v' w1' hown' _ _ hb' _
      clear hown1
      go_wp2
      go_roundw
      case rel =>
        refine ⟨k + 1, by omega, by go_num, ?_, hbw.trans hb'⟩
        rw [List.take_succ_eq_append_getElem hlt, List.map_append, List.map_append]
        simpa [sv] using hown'
      case measure => simp [intOf]; omega
    · have hkl : k = l.length := by omega
      have hltI : ¬ (k : Int) < (l.length : Int) := by omega
      subst hkl
      rw [List.take_length] at hown
      go_wp2
      go_ret
      have hfin := own_base hown hbw2.size
      refine ⟨u5, rfl, ?_, hbw2.trans (hb.mono hbw2.size)⟩
      rw [List.length_map]
      exact hfin
end Go.Proofs.YtnikolglippfmaaGreatDoor
/- identityref07: lower. -/
namespace Go.Proofs.YtnikolglippfmaaGreatDoor
open Go.RowKit Go.Sort
open Idn (L B Bs drop_L take_L size_L)
theorem SlV.cutFrom {α : Type} {E : α → List Value → Prop} {w : World} {hi size n c : Nat} {l : List α} {A : Option Addr} (h : SlV E w hi size (.slice A n c) l) (k : Nat) (hk : k ≤ l.length) :
    SlV E w hi size (.slice (if c = k then A else A.map (·.add (k * size))) (n - k) (c - k)) (l.drop k) := by
  obtain ⟨A', c', hv, hc, h⟩ := h
  injection hv with hA hn hcc
  subst hA hcc hn
  refine ⟨_, _, by rw [List.length_drop], by rw [List.length_drop]; omega, fun hp => ?_⟩
  rw [List.length_drop] at hp
  obtain ⟨b, off, hA, hb, hx⟩ := h (by omega)
  subst hA
  refine ⟨b, off + k * size, ?_, hb, fun i x hix => ?_⟩
  · rw [if_neg (by omega)]
    simp only [Option.map_some, Addr.add]
    split
    · rename_i e; rw [e]; rfl
    · rfl
  · rw [List.getElem?_drop] at hix
    obtain ⟨cs, h1, h2, h3⟩ := hx (k + i) x hix
    refine ⟨cs, h1, h2, fun j u hj => ?_⟩
    have := h3 j u hj
    rw [show off + k * size + (i * size + j) = off + ((k + i) * size + j) by rw [Nat.add_mul]; omega]
    exact this
theorem run_size_str (W : World) : (sizeOf (Tryz.prog.elem 48)).run Tryz.prog W = .ok 1 W := by
  obtain ⟨i, hi, _, h1, _⟩ := info_parts info_str
  have e : Tryz.prog.elem 48 = 9 := by kernel_rfl
  rw [e]
  simp [sizeOf, typeInfo, hi, h1]
theorem take_run {w : World} {hi n c : Nat} {l : List Bs} {A : Option Addr} (h : StrsV w hi (.slice A n c) l) {j : Nat} (hj : j ≤ l.length) :
    ∃ A' c', (∀ W : World, (Instr.slice 48 (.slice A n c) none (some (.int .i64 (j : Int))) none).run Tryz.prog W = .ok (.slice A' j c') W) ∧ StrsV w hi (.slice A' j c') (l.take j) := by
  obtain ⟨A0, c0, hv, hc⟩ := SlV.shape h
  injection hv with _ hn hcc
  subst hcc
  refine ⟨A, c, fun W => ?_, SlV.take h j hj⟩
  rw [run_slice_h W 48 A n c (by kernel_rfl) .i64 (j : Int) (by omega) (by omega), run_size_str]
  simp only [Result.andThen_ok, sliced, Int.toNat_natCast, Nat.sub_zero]
  congr 2
  split
  · rfl
  · cases A with
    | none => rfl
    | some a => simp [Addr.add]
theorem drop_run {w : World} {hi n c : Nat} {l : List Bs} {A : Option Addr} (h : StrsV w hi (.slice A n c) l) {j : Nat} (hj : j ≤ l.length) :
    ∃ A' c', (∀ W : World, (Instr.slice 48 (.slice A n c) (some (.int .i64 (j : Int))) none none).run Tryz.prog W = .ok (.slice A' (n - j) c') W) ∧ StrsV w hi (.slice A' (n - j) c') (l.drop j) := by
  have hn := SlV.len h
  refine ⟨_, _, fun W => ?_, SlV.cutFrom h j hj⟩
  rw [run_slice_l W 48 A n c (by kernel_rfl) .i64 (j : Int) (by omega) (by omega), run_size_str]
  simp only [Result.andThen_ok, sliced, Int.toNat_natCast]
theorem own_cast {w : World} {base : Nat} {e : TypeId} {size : Nat} {v : Value} {n m : Nat} {xs ys : List Value} (h : w.ownsRow base e size v n xs) (hn : m = n) (hx : ys = xs) : w.ownsRow base e size v m ys := by subst hn hx; exact h
def insK (l : List Bs) (acc : List Bs) : List Bs := l.foldl (fun a n => Idn.insS n a) acc
theorem insK_step (l : List Bs) (k : Nat) (hk : k < l.length) (acc : List Bs) : insK ((l.drop k).map Idn.lower) acc = insK ((l.drop (k + 1)).map Idn.lower) (Idn.insS (Idn.lower l[k]) acc) := by
  rw [List.drop_eq_getElem_cons hk]; rfl
theorem merged_ins (l : List Bs) : merged l = insK (l.map Idn.lower) [] := Idn.law (l.map Idn.lower)
theorem insS_len (n : Bs) : ∀ l, (Idn.insS n l).length ≤ l.length + 1
  | [] => by simp [Idn.insS]
  | y :: l => by
    have := insS_len n l
    unfold Idn.insS
    split
    · simp; omega
    · split <;> simp
set_option maxHeartbeats 1000000 in
set_option maxRecDepth 100000 in
theorem r_low_any (v : Value) (l : List Bs) (w : World) (hv : StrsV w w.heap.size v l) (hs : l.length ≤ 1000000) (hx : ∀ x ∈ l, x.length ≤ 1000000000) :
    Calls Tryz.prog 105 #[v] w (RetS w (merged l)) := by
  obtain ⟨A, c, rfl, hc⟩ := hv.shape
  have HR : Hid (merged l = insK (l.map Idn.lower) []) := merged_ins l
  generalize merged l = res at *
  go_enter Tryz.func105, Tryz.ntmps105
  go_wp2
  go_loopw [3, 4] (fun u i wr => ∃ (k : Nat) (acc : List Bs), k ≤ l.length ∧ i = .int .i64 k ∧ wr.ownsRow w.heap.size 9 1 u acc.length (acc.map sv) ∧ Below w.heap.size w wr ∧ Hid (res = insK ((l.drop k).map Idn.lower) acc) ∧ acc.length ≤ k) (fun _ i _ => l.length - (intOf i).toNat)
  case atStart => exact ⟨0, [], Nat.zero_le _, rfl, World.ownsRow_nil _ _ _ _, Below.refl _ _, by show _ = _; rw [HR.out]; simp, Nat.le_refl _⟩
  case round =>
    obtain ⟨k, acc, hk, rfl, hown, hb, hinv, hal⟩ := hrel
    by_cases hlt : k < l.length
    · obtain ⟨b, off, rfl, hbl, c0⟩ := StrsV.cell (SlV.keep hv hb) hlt
      have hltI : (k : Int) < (l.length : Int) := by omega
      have hsz := hx l[k] (List.getElem_mem hlt)
      have hL := r_lower_any (B l[k]) wr (by rw [Idn.size_B]; omega)
      rw [Idn.L_B] at hL
      have hst := insK_step l k hlt acc
      generalize Idn.lower l[k] = n at *
      have HST : Hid (res = insK ((l.drop (k + 1)).map Idn.lower) (Idn.insS n acc)) := by show _ = _; rw [hinv.out, hst]
      clear hst hinv
      obtain ⟨Au, cu, hu⟩ := own_shape hown
      subst hu
      go_wp2_with fail
      refine hL.mono ?_
      rintro e w1 ⟨rfl, hb1⟩
      have hown1 := own_below hown hb1
      have hbw1 := hb.trans (hb1.mono hb.size)
      have hS := StrsV.of_own hown1
      clear hL hown c0
      go_upto_block 2 with fail
      go_cut [6] (fun t wx => ∃ j : Nat, t = .int .i64 j ∧ j ≤ acc.length ∧ Below w1.heap.size w1 wx ∧ Hid (∀ (i : Nat) (x : Bs), i < j → acc[i]? = some x → x < n) ∧ Hid (∀ x, acc[j]? = some x → ¬ x < n))
      case first =>
        go_wp2_with fail
        go_loopw [6] (fun t wx => ∃ j : Nat, j ≤ acc.length ∧ t = .int .i64 j ∧ Below w1.heap.size w1 wx ∧ Hid (∀ (i : Nat) (x : Bs), i < j → acc[i]? = some x → x < n)) (fun t _ => acc.length - (intOf t).toNat)
        case atStart => exact ⟨0, Nat.zero_le _, rfl, Below.refl _ _, fun i x h => absurd h (by omega)⟩
        case round =>
          obtain ⟨j, hj, rfl, hbj, hbef⟩ := hrel
          by_cases hjl : j < acc.length
          · obtain ⟨g, o, rfl, hgl, d0⟩ := StrsV.cell (SlV.keep hS hbj) hjl
            have hjI : (j : Int) < (acc.length : Int) := by omega
            have hcmp : Op.bytesLess (B acc[j]).toList (B n).toList = decide (acc[j] < n) := by rw [bytesLess_eq, toList_L, toList_L, Idn.L_B, Idn.L_B]
            by_cases hlt2 : acc[j] < n
            · have HB : Hid (∀ (i : Nat) (x : Bs), i < j + 1 → acc[i]? = some x → x < n) := by
                intro i x hi hxi
                by_cases e : i = j
                · subst e
                  rw [List.getElem?_eq_getElem hjl] at hxi
                  injection hxi with hxi
                  exact hxi ▸ hlt2
                · exact hbef.out i x (by omega) hxi
              rw [decide_eq_true hlt2] at hcmp
              clear hbef hlt2
              go_wp2
              go_roundw
              case rel => exact ⟨j + 1, by omega, by go_num, hbj, HB⟩
              case measure => simp [intOf]; omega
            · have HA : Hid (∀ x, acc[j]? = some x → ¬ x < n) := by
                intro x hxj
                rw [List.getElem?_eq_getElem hjl] at hxj
                injection hxj with hxj
                exact hxj ▸ hlt2
              rw [decide_eq_false hlt2] at hcmp
              clear hlt2
              go_wp2
              go_meet
              exact ⟨j, rfl, hj, hbj, hbef, HA⟩
          · have hjI : ¬ (j : Int) < (acc.length : Int) := by omega
            have HA : Hid (∀ x, acc[j]? = some x → ¬ x < n) := by
              intro x hxj
              rw [List.getElem?_eq_none (by omega)] at hxj
              cases hxj
            go_wp2
            go_meet
            exact ⟨j, rfl, hj, hbj, hbef, HA⟩
      case rest =>
        obtain ⟨j, rfl, hj, hbc, hbef, hat⟩ := hcut
        have hownc := own_below hown1 hbc
        have hSc := StrsV.of_own hownc
        have hbwc := hbw1.trans (hbc.mono hbw1.size)
        clear hS hown1 hbw1
        obtain ⟨A1, c1, hT, hT1⟩ := take_run hSc hj
        obtain ⟨A2, c2, hD, hD1⟩ := drop_run hSc hj
        have hwc := hbwc.size
        have htl : (acc.take j).length = j := by rw [List.length_take]; omega
        have hdl : (acc.drop j).length = acc.length - j := List.length_drop
        have hil := insS_len n acc
        have hcase : (∃ h : j < acc.length, acc[j] = n) ∨ (∃ h : j < acc.length, ¬ acc[j] = n) ∨ ¬ j < acc.length := by
          by_cases h : j < acc.length
          · by_cases e : acc[j] = n
            · exact .inl ⟨h, e⟩
            · exact .inr (.inl ⟨h, e⟩)
          · exact .inr (.inr h)
        rcases hcase with ⟨hjl, e⟩ | hcase
        · obtain ⟨g, o, hA, hgl, d0⟩ := StrsV.cell hSc hjl
          have hjI : (j : Int) < (acc.length : Int) := by omega
          have heq : ((B acc[j]).toList == (B n).toList) = true := str_is (by rw [Idn.L_B, Idn.L_B, e])
          have hI : Hid (Idn.insS n acc = acc) := Idn.insS_here n acc j hbef.out (by rw [List.getElem?_eq_getElem hjl, e])
          subst hA
          clear e hbef hat hT hD hT1 hD1 htl hdl
          go_wp2
          go_roundw
          case rel => exact ⟨k + 1, acc, by omega, by go_num, hownc, hbwc, by show _ = _; rw [HST.out, hI.out], by omega⟩
          case measure => simp [intOf]; omega
        · have hI : Hid (Idn.insS n acc = acc.take j ++ n :: acc.drop j) := Idn.insS_at n acc j hj hbef.out (fun x hx => by
            rcases hcase with ⟨hjl, e⟩ | hjl
            · exact ⟨hat.out x hx, fun ex => e (by rw [List.getElem?_eq_getElem hjl] at hx; injection hx with hx; rw [hx, ex])⟩
            · rw [List.getElem?_eq_none (by omega)] at hx; cases hx)
          have HTL := Lib.hid htl
          have HDL := Lib.hid hdl
          clear htl hdl
          clear hbef hat
          rcases hcase with ⟨hjl, e⟩ | hjl
          · obtain ⟨g, o, hA, hgl, d0⟩ := StrsV.cell hSc hjl
            have hjI : (j : Int) < (acc.length : Int) := by omega
            have heq : ((B acc[j]).toList == (B n).toList) = false := str_not (by rw [Idn.L_B, Idn.L_B]; exact e)
            subst hA
            clear e
            go_upto_region 10 with fail
            clear hjI
            go_wp2_with (at_builtin; refine wpList_appendS rfl _ _ 48 rfl wc.heap.size 9 Tryz.underlying48 info_str _ 0 [] (World.ownsRow_nil _ _ _ _) rfl _ (acc.take j) _ hT1 (by first | rfl | simp) (by rw [HTL.out]; omega) (Nat.le_refl _) ?_)
            intro v1 x1 ho1 hx1 _ _
            replace ho1 : x1.ownsRow wc.heap.size 9 1 v1 j ((acc.take j).map sv) := by rw [List.map_take]; exact ho1
            have hD2 := SlV.keep hD1 hx1
            have hs1 := hx1.size
            go_wp2_with (at_builtin; refine wpList_push x1 rfl _ _ 48 rfl wc.heap.size 9 (.string ⟨#[]⟩) 1 16 Tryz.underlying48 info_str rfl (by decide) _ _ _ ho1 rfl [.string (B n)] rfl rfl (by intro u hu; simp at hu; subst hu; rfl) (by omega) hs1 ?_ rfl)
            intro v2 x2 ho2 _ _ hx2 _
            replace ho2 : x2.ownsRow wc.heap.size 9 1 v2 (j + 1) ((acc.take j).map sv ++ [.string (B n)]) := by rw [List.map_take]; exact ho2
            have hD3 := SlV.keep hD2 hx2
            have hx12 := hx1.trans hx2
            have hs2 := hx12.size
            go_wp2_with (at_builtin; refine wpList_appendS rfl _ _ 48 rfl wc.heap.size 9 Tryz.underlying48 info_str _ _ _ ho2 rfl _ (acc.drop j) _ hD3 (by first | rfl | simp) (by rw [HDL.out]; omega) hs2 ?_)
            intro v3 x3 ho3 hx3 _ _
            have hx13 := hx12.trans hx3
            go_wp2
            go_roundw
            case rel =>
              refine ⟨k + 1, Idn.insS n acc, by omega, by go_num, own_base (own_cast ho3 ?_ ?_) hwc, hbwc.trans (hx13.mono hwc), HST, by omega⟩
              · rw [hI.out, List.length_append, List.length_cons, HTL.out, HDL.out]; omega
              · rw [hI.out]; simp [sv]
            case measure => simp [intOf]; omega
          · have hjI : ¬ (j : Int) < (acc.length : Int) := by omega
            go_upto_region 10 with fail
            clear hjI
            go_wp2_with (at_builtin; refine wpList_appendS rfl _ _ 48 rfl wc.heap.size 9 Tryz.underlying48 info_str _ 0 [] (World.ownsRow_nil _ _ _ _) rfl _ (acc.take j) _ hT1 (by first | rfl | simp) (by rw [HTL.out]; omega) (Nat.le_refl _) ?_)
            intro v1 x1 ho1 hx1 _ _
            replace ho1 : x1.ownsRow wc.heap.size 9 1 v1 j ((acc.take j).map sv) := by rw [List.map_take]; exact ho1
            have hD2 := SlV.keep hD1 hx1
            have hs1 := hx1.size
            go_wp2_with (at_builtin; refine wpList_push x1 rfl _ _ 48 rfl wc.heap.size 9 (.string ⟨#[]⟩) 1 16 Tryz.underlying48 info_str rfl (by decide) _ _ _ ho1 rfl [.string (B n)] rfl rfl (by intro u hu; simp at hu; subst hu; rfl) (by omega) hs1 ?_ rfl)
            intro v2 x2 ho2 _ _ hx2 _
            replace ho2 : x2.ownsRow wc.heap.size 9 1 v2 (j + 1) ((acc.take j).map sv ++ [.string (B n)]) := by rw [List.map_take]; exact ho2
            have hD3 := SlV.keep hD2 hx2
            have hx12 := hx1.trans hx2
            have hs2 := hx12.size
            go_wp2_with (at_builtin; refine wpList_appendS rfl _ _ 48 rfl wc.heap.size 9 Tryz.underlying48 info_str _ _ _ ho2 rfl _ (acc.drop j) _ hD3 (by first | rfl | simp) (by rw [HDL.out]; omega) hs2 ?_)
            intro v3 x3 ho3 hx3 _ _
            have hx13 := hx12.trans hx3
            go_wp2
            go_roundw
            case rel =>
              refine ⟨k + 1, Idn.insS n acc, by omega, by go_num, own_base (own_cast ho3 ?_ ?_) hwc, hbwc.trans (hx13.mono hwc), HST, by omega⟩
              · rw [hI.out, List.length_append, List.length_cons, HTL.out, HDL.out]; omega
              · rw [hI.out]; simp [sv]
            case measure => simp [intOf]; omega
    · have hltI : ¬ (k : Int) < (l.length : Int) := by omega
      have HF : Hid (res = acc) := by show _ = _; rw [hinv.out, List.drop_eq_nil_of_le (by omega)]; rfl
      clear hinv
      go_wp2
      go_ret
      exact ⟨_, rfl, by rw [HF.out]; exact hown, hb⟩
end Go.Proofs.YtnikolglippfmaaGreatDoor
