/- Part 40 of the proof that SchemaChecks returns true for every schema: the package variables hold what the program lays; nothing else is asked. -/
import Derived.Test.YtoelhiccofpgfaaGreatDoorChk21
import Derived.Test.YtoelhiccofpgfaaGreatDoorChk24
import Derived.Test.YtoelhiccofpgfaaGreatDoorChk33
import Derived.Test.YtoelhiccofpgfaaGreatDoorChk35
import Derived.Test.YtoelhiccofpgfaaGreatDoorChk37
import Derived.Test.YtoelhiccofpgfaaGreatDoorChk39
import Derived.KernelRfl
/- law07: small. -/
namespace Go.Proofs.YtoelhiccofpgfaaGreatDoor
open Go.RowKit Go.Sort
open Idn (L B Bs drop_L take_L size_L)

def personN : Bs := [112, 101, 114, 115, 111, 110]
def staffN : Bs := [115, 116, 97, 102, 102]
def cnN : Bs := [99, 110]
def ageN : Bs := [97, 103, 101]
def activeN : Bs := [97, 99, 116, 105, 118, 101]
def smallS : Idn.Sch := ⟨[⟨Idn.mainN, 1, false⟩, ⟨cnN, 1, false⟩, ⟨ageN, 3, true⟩, ⟨activeN, 5, false⟩], [⟨personN, [], [cnN], [ageN]⟩, ⟨staffN, personN, [], [activeN]⟩]⟩
theorem litR (w : World) (cs : Array Value) (n size : Nat) (e : TypeId) (p : Nat) (hp : w.heap.size = p) (hm : n ≤ maxLen) (hs : cs.size = n * size) : (w.alloc (.cells cs e)).ownsRow 0 e size (.slice (some ⟨p, 0, none⟩) n n) n cs.toList := by
  subst hp
  exact World.ownsRow_lit w cs n (Nat.zero_le _) hm hs
theorem genW {R Q : World → Prop} {W : World} (hQ : Q W) (h : ∀ W, Q W → R W) : R W := h W hQ
theorem oneS {W : World} {v : Value} {x : Bs} {e : TypeId} (h : W.ownsRow 0 e 1 v 1 [sv x]) : StrsV W W.heap.size v [x] := StrsV.of_own (l := [x]) h
set_option maxHeartbeats 1000000 in
set_option maxRecDepth 100000 in
theorem small_any (w : World) :
    Calls Tryz.prog 19 #[] w fun e w' => ∃ v, e = .returned v ∧ SchV w' w'.heap.size v smallS ∧ Below w.heap.size w w' := by
  go_enter Tryz.func19, Tryz.ntmps19
  go_wp2
  with_reducible refine genW (R := fun W => bodyPost _ _ _ _ _ W) (Q := fun W => (W.cell? ⟨w.heap.size, 0, none⟩ = some (.slice (some ⟨w.heap.size + 1, 0, none⟩) 4 4) ∧ W.cell? ⟨w.heap.size, 1, none⟩ = some (.slice (some ⟨w.heap.size + 1 + 1 + 1 + 1 + 1, 0, none⟩) 2 2)) ∧
    SchV W W.heap.size (.agg #[.slice (some ⟨w.heap.size + 1, 0, none⟩) 4 4, .slice (some ⟨w.heap.size + 1 + 1 + 1 + 1 + 1, 0, none⟩) 2 2]) smallS ∧ Below w.heap.size w W) ?_ ?_
  · refine ⟨⟨?_, ?_⟩, ⟨_, _, rfl, ?_, ?_⟩, ?_⟩
    · refine Eq.trans (World.ownsRow.cellAt (n := 1) (size := 2) (((((((litR w _ 1 2 _ _ rfl (by decide) rfl).alloc _).alloc _).alloc _).alloc _).alloc _)) 0 (by decide)) ?_
      rfl
    · refine Eq.trans (World.ownsRow.cellAt (n := 1) (size := 2) (((((((litR w _ 1 2 _ _ rfl (by decide) rfl).alloc _).alloc _).alloc _).alloc _).alloc _)) 1 (by decide)) ?_
      rfl
    · refine SlV.own (((((litR _ _ 4 3 _ _ (by simp) (by decide) rfl).alloc _).alloc _).alloc _).alloc _) fun i x hx => ?_
      match i, hx with
      | 0, hx => injection hx with hx; subst hx; exact ⟨_, rfl, rfl, fun j u hj => by match j, hj with | 0, hj => exact hj | 1, hj => exact hj | 2, hj => exact hj⟩
      | 1, hx => injection hx with hx; subst hx; exact ⟨_, rfl, rfl, fun j u hj => by match j, hj with | 0, hj => exact hj | 1, hj => exact hj | 2, hj => exact hj⟩
      | 2, hx => injection hx with hx; subst hx; exact ⟨_, rfl, rfl, fun j u hj => by match j, hj with | 0, hj => exact hj | 1, hj => exact hj | 2, hj => exact hj⟩
      | 3, hx => injection hx with hx; subst hx; exact ⟨_, rfl, rfl, fun j u hj => by match j, hj with | 0, hj => exact hj | 1, hj => exact hj | 2, hj => exact hj⟩
    · refine SlV.own (litR _ _ 2 4 _ _ (by simp) (by decide) rfl) fun i x hx => ?_
      match i, hx with
      | 0, hx =>
        injection hx with hx; subst hx
        exact ⟨[sv personN, sv [], .slice (some ⟨w.heap.size + 1 + 1, 0, none⟩) 1 1, .slice (some ⟨w.heap.size + 1 + 1 + 1, 0, none⟩) 1 1], rfl, ⟨_, _, rfl, oneS ((((litR _ _ 1 1 _ _ (by simp) (by decide) rfl).alloc _).alloc _).alloc _), oneS (((litR _ _ 1 1 _ _ (by simp) (by decide) rfl).alloc _).alloc _)⟩, fun j u hj => by match j, hj with | 0, hj => exact hj | 1, hj => exact hj | 2, hj => exact hj | 3, hj => exact hj⟩
      | 1, hx =>
        injection hx with hx; subst hx
        exact ⟨[sv staffN, sv personN, .slice none 0 0, .slice (some ⟨w.heap.size + 1 + 1 + 1 + 1, 0, none⟩) 1 1], rfl, ⟨_, _, rfl, SlV.nil _ _ _ _, oneS ((litR _ _ 1 1 _ _ (by simp) (by decide) rfl).alloc _)⟩, fun j u hj => by match j, hj with | 0, hj => exact hj | 1, hj => exact hj | 2, hj => exact hj | 3, hj => exact hj⟩
    · repeat (first | with_reducible exact Below.refl _ _ | with_reducible refine Below.lay ?_ _)
  · rintro W ⟨⟨k0, k1⟩, hS, hb⟩
    exact bodyPost_ret (by simp [results, Tryz.results19, go_sem, k0, k1]) rfl ⟨_, rfl, hS, hb⟩
end Go.Proofs.YtoelhiccofpgfaaGreatDoor
/- The values of the small case, reckoned. -/
namespace Go.Proofs.YtoelhiccofpgfaaGreatDoor
open Go.RowKit Go.Sort
open Idn (L B Bs)
theorem ev_check : Idn.sCheck smallS = 0 := by kernel_rfl
theorem ev_sound : sound smallS = smallS := by rw [sound, if_pos ev_check]
theorem ev_type : tyLook smallS [65, 71, 69] = (⟨ageN, 3, true⟩, true) := by kernel_rfl
theorem ev_n1 : kNorm smallS cnN [65, 110, 110, 32, 32, 76, 69, 69] = (⟨cnN, 1, false⟩, [97, 110, 110, 32, 108, 101, 101], 0) := by kernel_rfl
theorem ev_n2 : kNorm smallS ageN [48, 48, 55] = (⟨ageN, 3, true⟩, [55], 0) := by kernel_rfl
theorem ev_n3 : kNorm smallS activeN [84, 114, 117, 101] = (⟨activeN, 5, false⟩, [84, 82, 85, 69], 0) := by kernel_rfl
theorem ev_n4 : kNorm smallS cnN [32, 97] = (⟨cnN, 1, false⟩, [], 8) := by kernel_rfl
theorem ev_c : sComp smallS ageN [57] [49, 48] = (-1, 0) := by kernel_rfl
def textB : Bs := [116, 121, 112, 101, 32, 99, 108, 97, 115, 115, 32, 116, 101, 120, 116, 10, 116, 121, 112, 101, 32, 99, 110, 32, 116, 101, 120, 116, 10, 116, 121, 112, 101, 32, 97, 103, 101, 32, 105, 110, 116, 32, 115, 105, 110, 103, 108, 101, 10, 116, 121, 112, 101, 32, 97, 99, 116, 105, 118, 101, 32, 98, 111, 111, 108, 10, 99, 108, 97, 115, 115, 32, 112, 101, 114, 115, 111, 110, 32, 45, 32, 99, 110, 32, 97, 103, 101, 10, 99, 108, 97, 115, 115, 32, 115, 116, 97, 102, 102, 32, 112, 101, 114, 115, 111, 110, 32, 45, 32, 97, 99, 116, 105, 118, 101, 10]
theorem ev_text : Idn.sText smallS = (textB, 0) := by kernel_rfl
theorem ev_lin : (linC smallS [83, 84, 65, 70, 70]).map (·.name) = [staffN, personN] := by kernel_rfl
theorem ev_must : mustL smallS staffN = [cnN] := by kernel_rfl
theorem srt3 : sorted [cnN, activeN, ageN] = [activeN, ageN, cnN] := by
  unfold sorted
  have e1 : decide (cnN ≤ activeN) = false := by decide
  have e2 : decide (activeN ≤ ageN) = true := by decide
  have e3 : decide (cnN ≤ ageN) = false := by decide
  simp [List.mergeSort, List.MergeSort.Internal.splitInTwo, List.merge, e1, e2, e3, -decide_eq_true_eq, -decide_eq_false_iff_not]
theorem may3 : (mustL smallS staffN ++ ((Idn.lin smallS staffN).filterMap (smallS.classes[·]?)).flatMap (·.may)).map Idn.lower = [cnN, activeN, ageN] := by kernel_rfl
theorem cmp3 : Lib.compact [activeN, ageN, cnN] = [activeN, ageN, cnN] := by kernel_rfl
theorem ev_may : mayL smallS staffN = [activeN, ageN, cnN] := by
  unfold mayL merged
  rw [may3, srt3, cmp3]
def annA : List Idn.Att := [⟨Idn.mainN, [personN]⟩, ⟨cnN, [[65, 110, 110]]⟩]
def twoL : List Idn.Att := ⟨ageN, [[55], [56]]⟩ :: annA
theorem grpA : (Idn.grp [] annA).map Idn.normA = annA := by kernel_rfl
theorem aSrt : Idn.aSorted annA = annA := by
  unfold Idn.aSorted
  rw [grpA]
  have e1 : decide (Idn.mainN ≤ cnN) = true := by decide
  simp [List.mergeSort, List.MergeSort.Internal.splitInTwo, List.merge, annA, e1, -decide_eq_true_eq]
theorem ev_names : namesL annA = [Idn.mainN, cnN] := by
  unfold namesL
  rw [aSrt]; rfl
theorem ev_get : getL annA Idn.mainN = [personN] := by
  unfold getL
  rw [aSrt]; kernel_rfl
theorem may2 : (mustL smallS personN ++ ((Idn.lin smallS personN).filterMap (smallS.classes[·]?)).flatMap (·.may)).map Idn.lower = [cnN, ageN] := by kernel_rfl
theorem srt2 : sorted [cnN, ageN] = [ageN, cnN] := by
  unfold sorted
  have e1 : decide (cnN ≤ ageN) = false := by decide
  simp [List.mergeSort, List.MergeSort.Internal.splitInTwo, List.merge, e1, -decide_eq_true_eq, -decide_eq_false_iff_not]
theorem ev_may2 : mayL smallS personN = [ageN, cnN] := by
  unfold mayL merged
  rw [may2, srt2]
  kernel_rfl
theorem ev_cl : classedB smallS [Idn.mainN, cnN] [personN] = true := by
  have h0 : Idn.fold personN = personN := by kernel_rfl
  have h1 : clKey smallS personN = true := by kernel_rfl
  have h2 : mustL smallS personN = [cnN] := by kernel_rfl
  unfold classedB clsGo clsGo
  rw [h0, h1, h2, ev_may2]
  decide
theorem ev_a1 : Idn.aCheck annA = 0 := by kernel_rfl
theorem ev_g1 : vGo smallS annA = 0 := by kernel_rfl
theorem ev_v1 : sValid smallS annA = 0 := by
  unfold sValid
  rw [ev_a1, ev_sound, ev_g1, ev_names, ev_get, ev_cl]
  rfl
theorem ev_a2 : Idn.aCheck twoL = 0 := by kernel_rfl
theorem ev_g2 : vGo smallS twoL = 9 := by kernel_rfl
theorem ev_v2 : sValid smallS twoL = 9 := by
  unfold sValid
  rw [ev_a2, ev_sound, ev_g2]
  rfl
theorem small_ssm : SSm smallS := by unfold SSm TSm CSm Sm smallS; decide
theorem small_ssm6 : SSm6 smallS := by unfold SSm6 smallS; decide
theorem ev_sn (n v : Bs) : sNorm smallS n v = ((kNorm smallS n v).2.1, (kNorm smallS n v).2.2) := by unfold sNorm; rw [ev_sound]
theorem ev_t1 : (tyLook smallS cnN).1.syn = 1 := by kernel_rfl
theorem ev_t2 : (tyLook smallS ageN).1.syn = 3 := by kernel_rfl
theorem ev_t3 : (tyLook smallS activeN).1.syn = 5 := by kernel_rfl
theorem ev_t4 : (tyLook smallS Idn.mainN).1.syn = 1 := by kernel_rfl
end Go.Proofs.YtoelhiccofpgfaaGreatDoor
/- law07: alive. -/
namespace Go.Proofs.YtoelhiccofpgfaaGreatDoor
open Go.RowKit Go.Sort
open Idn (L B Bs drop_L take_L size_L)

/-- the small schema in memory, and what the calls on it return -/
def Sm7 (w : World) (u : Value) : Prop := SchV w w.heap.size u smallS ∧ Env w ∧ EnvU w
theorem Sm7.keep {w w' : World} {u : Value} (h : Sm7 w u) (hb : Below w.heap.size w w') : Sm7 w' u := ⟨SchV.mono (SchV.keep h.1 hb) hb.size, h.2.1.keep hb, h.2.2.keep hb⟩
theorem sm_type {u : Value} {w : World} (h : Sm7 w u) : Calls Tryz.prog 9 #[u, .string ⟨#[65, 71, 69]⟩] w fun e w' => e = .returned (.tuple #[.agg #[.string ⟨#[97, 103, 101]⟩, .int .i64 3, .bool true], .bool true]) ∧ Below w.heap.size w w' := by
  have := type_any u smallS ⟨#[65, 71, 69]⟩ w h.1 small_ssm (by decide)
  rw [show L (⟨#[65, 71, 69]⟩ : ByteArray) = [65, 71, 69] from rfl, ev_sound, ev_type] at this
  exact this
theorem sm_n1 {u : Value} {w : World} (h : Sm7 w u) : Calls Tryz.prog 20 #[u, .string ⟨#[99, 110]⟩, .string ⟨#[65, 110, 110, 32, 32, 76, 69, 69]⟩] w fun e w' => e = .returned (.tuple #[.string ⟨#[97, 110, 110, 32, 108, 101, 101]⟩, .int .i64 0]) ∧ Below w.heap.size w w' := by
  have := schNormal_any u smallS ⟨#[99, 110]⟩ ⟨#[65, 110, 110, 32, 32, 76, 69, 69]⟩ w h.1 small_ssm h.2.1 h.2.2 (by rw [ev_sound]; show (tyLook smallS cnN).1.syn ≠ 4; rw [ev_t1]; decide) (by decide) (by decide)
  rw [show L (⟨#[99, 110]⟩ : ByteArray) = cnN from rfl, show L (⟨#[65, 110, 110, 32, 32, 76, 69, 69]⟩ : ByteArray) = [65, 110, 110, 32, 32, 76, 69, 69] from rfl, ev_sn, ev_n1] at this
  exact this
theorem sm_n2 {u : Value} {w : World} (h : Sm7 w u) : Calls Tryz.prog 20 #[u, .string ⟨#[97, 103, 101]⟩, .string ⟨#[48, 48, 55]⟩] w fun e w' => e = .returned (.tuple #[.string ⟨#[55]⟩, .int .i64 0]) ∧ Below w.heap.size w w' := by
  have := schNormal_any u smallS ⟨#[97, 103, 101]⟩ ⟨#[48, 48, 55]⟩ w h.1 small_ssm h.2.1 h.2.2 (by rw [ev_sound]; show (tyLook smallS ageN).1.syn ≠ 4; rw [ev_t2]; decide) (by decide) (by decide)
  rw [show L (⟨#[97, 103, 101]⟩ : ByteArray) = ageN from rfl, show L (⟨#[48, 48, 55]⟩ : ByteArray) = [48, 48, 55] from rfl, ev_sn, ev_n2] at this
  exact this
theorem sm_n3 {u : Value} {w : World} (h : Sm7 w u) : Calls Tryz.prog 20 #[u, .string ⟨#[97, 99, 116, 105, 118, 101]⟩, .string ⟨#[84, 114, 117, 101]⟩] w fun e w' => e = .returned (.tuple #[.string ⟨#[84, 82, 85, 69]⟩, .int .i64 0]) ∧ Below w.heap.size w w' := by
  have := schNormal_any u smallS ⟨#[97, 99, 116, 105, 118, 101]⟩ ⟨#[84, 114, 117, 101]⟩ w h.1 small_ssm h.2.1 h.2.2 (by rw [ev_sound]; show (tyLook smallS activeN).1.syn ≠ 4; rw [ev_t3]; decide) (by decide) (by decide)
  rw [show L (⟨#[97, 99, 116, 105, 118, 101]⟩ : ByteArray) = activeN from rfl, show L (⟨#[84, 114, 117, 101]⟩ : ByteArray) = [84, 114, 117, 101] from rfl, ev_sn, ev_n3] at this
  exact this
theorem sm_n4 {u : Value} {w : World} (h : Sm7 w u) : Calls Tryz.prog 20 #[u, .string ⟨#[99, 110]⟩, .string ⟨#[32, 97]⟩] w fun e w' => e = .returned (.tuple #[.string ⟨#[]⟩, .int .i64 8]) ∧ Below w.heap.size w w' := by
  have := schNormal_any u smallS ⟨#[99, 110]⟩ ⟨#[32, 97]⟩ w h.1 small_ssm h.2.1 h.2.2 (by rw [ev_sound]; show (tyLook smallS cnN).1.syn ≠ 4; rw [ev_t1]; decide) (by decide) (by decide)
  rw [show L (⟨#[99, 110]⟩ : ByteArray) = cnN from rfl, show L (⟨#[32, 97]⟩ : ByteArray) = [32, 97] from rfl, ev_sn, ev_n4] at this
  exact this
theorem sm_c {u : Value} {w : World} (h : Sm7 w u) : Calls Tryz.prog 21 #[u, .string ⟨#[97, 103, 101]⟩, .string ⟨#[57]⟩, .string ⟨#[49, 48]⟩] w fun e w' => e = .returned (.tuple #[.int .i64 (-1), .int .i64 0]) ∧ Below w.heap.size w w' := by
  have := schCompare_any u smallS ⟨#[97, 103, 101]⟩ ⟨#[57]⟩ ⟨#[49, 48]⟩ w h.1 small_ssm h.2.1 h.2.2 (by rw [ev_sound]; show (tyLook smallS ageN).1.syn ≠ 4; rw [ev_t2]; decide) (by decide) (by decide) (by decide)
  rw [show L (⟨#[97, 103, 101]⟩ : ByteArray) = ageN from rfl, show L (⟨#[57]⟩ : ByteArray) = [57] from rfl, show L (⟨#[49, 48]⟩ : ByteArray) = [49, 48] from rfl, ev_c] at this
  exact this
theorem sm_t {u : Value} {w : World} (h : Sm7 w u) : Calls Tryz.prog 22 #[u] w fun e w' => e = .returned (.tuple #[.string (B textB), .int .i64 0]) ∧ Below w.heap.size w w' := by
  have := schText_any u smallS w h.1 small_ssm small_ssm6
  rw [ev_text] at this
  exact this
theorem sm_ck {u : Value} {w : World} (h : Sm7 w u) : Calls Tryz.prog 7 #[u] w fun e w' => e = .returned (.int .i64 0) ∧ Below w.heap.size w w' := by
  have := schCheck_any u smallS w h.1 small_ssm
  rw [ev_check] at this
  exact this
theorem sm_lin {u : Value} {w : World} (h : Sm7 w u) : Calls Tryz.prog 12 #[u, .string ⟨#[83, 84, 65, 70, 70]⟩] w (RetS w [staffN, personN]) := by
  have := schLineage_any u smallS ⟨#[83, 84, 65, 70, 70]⟩ w h.1 small_ssm (by decide)
  rw [ev_sound, show L (⟨#[83, 84, 65, 70, 70]⟩ : ByteArray) = [83, 84, 65, 70, 70] from rfl, ev_lin] at this
  exact this
theorem sm_must {u : Value} {w : World} (h : Sm7 w u) : Calls Tryz.prog 14 #[u, .string ⟨#[115, 116, 97, 102, 102]⟩] w (RetS w [cnN]) := by
  have := schMust_any u smallS ⟨#[115, 116, 97, 102, 102]⟩ w h.1 small_ssm (by decide)
  rw [ev_sound, show L (⟨#[115, 116, 97, 102, 102]⟩ : ByteArray) = staffN from rfl, ev_must] at this
  exact this
theorem sm_may {u : Value} {w : World} (h : Sm7 w u) : Calls Tryz.prog 16 #[u, .string ⟨#[115, 116, 97, 102, 102]⟩] w (RetS w [activeN, ageN, cnN]) := by
  have := schMay_any u smallS ⟨#[115, 116, 97, 102, 102]⟩ w h.1 small_ssm (by decide)
  rw [ev_sound, show L (⟨#[115, 116, 97, 102, 102]⟩ : ByteArray) = staffN from rfl, ev_may] at this
  exact this
theorem look_age : (tyLook smallS ageN).1.syn ≠ 4 := by rw [ev_t2]; decide
theorem look_all : ∀ a ∈ twoL, (tyLook (sound smallS) a.name).1.syn ≠ 4 := by
  rw [ev_sound]
  intro a ha
  simp only [twoL, annA, List.mem_cons, List.not_mem_nil, or_false] at ha
  rcases ha with rfl | rfl | rfl
  · rw [ev_t2]; decide
  · rw [ev_t4]; decide
  · rw [ev_t1]; decide
theorem sm_v1 {u : Value} {w : World} (h : Sm7 w u) (nm : ByteArray) (va : Value) (hv : AttsV w w.heap.size va annA) : Calls Tryz.prog 24 #[u, .agg #[.string nm, va]] w fun e w' => e = .returned (.int .i64 0) ∧ Below w.heap.size w w' := by
  have := valid_any u smallS nm va annA w h.1 small_ssm h.2.1 h.2.2 hv (by unfold ASm Sm annA; decide) (by unfold ASm5 annA; decide) (fun a ha => look_all a (List.mem_cons_of_mem _ ha))
  rw [ev_v1] at this
  exact this
theorem sm_v2 {u : Value} {w : World} (h : Sm7 w u) (nm : ByteArray) (va : Value) (hv : AttsV w w.heap.size va twoL) : Calls Tryz.prog 24 #[u, .agg #[.string nm, va]] w fun e w' => e = .returned (.int .i64 9) ∧ Below w.heap.size w w' := by
  have := valid_any u smallS nm va twoL w h.1 small_ssm h.2.1 h.2.2 hv (by unfold ASm Sm twoL annA; decide) (by unfold ASm5 twoL annA; decide) look_all
  rw [ev_v2] at this
  exact this
end Go.Proofs.YtoelhiccofpgfaaGreatDoor
