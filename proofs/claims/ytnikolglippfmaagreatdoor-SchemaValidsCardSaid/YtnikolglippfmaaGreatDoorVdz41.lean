/- Part 41 of the proof that Valid returns the specified error: the package variables hold what the program lays; nothing else is asked. -/
import Derived.Test.YtnikolglippfmaaGreatDoorVdz07
import Derived.Test.YtnikolglippfmaaGreatDoorVdz19
import Derived.Test.YtnikolglippfmaaGreatDoorVdz25
import Derived.Test.YtnikolglippfmaaGreatDoorVdz39
import Derived.Test.YtnikolglippfmaaGreatDoorVdz40
import Derived.KernelRfl
/- law07: small. -/
namespace Go.Proofs.YtnikolglippfmaaGreatDoor
open Go.RowKit Go.Sort
open Idn (L B Bs drop_L take_L size_L)

def personN : Bs := [112, 101, 114, 115, 111, 110]
def staffN : Bs := [115, 116, 97, 102, 102]
def cnN : Bs := [99, 110]
def ageN : Bs := [97, 103, 101]
def activeN : Bs := [97, 99, 116, 105, 118, 101]
def smallS : Idn.Sch := ⟨[⟨Idn.mainN, 1, false⟩, ⟨cnN, 1, false⟩, ⟨ageN, 3, true⟩, ⟨activeN, 5, false⟩], [⟨personN, [], [cnN], [ageN]⟩, ⟨staffN, personN, [], [activeN]⟩]⟩
theorem litR (w : World) (cs : Array Value) (n size : Nat) (e : TypeId) (p : Nat) (hp : w.heap.size = p) (hm : n ≤ maxLen) (hs : cs.size = n * size) : (w.alloc (.cells cs e)).ownsRow 0 e size (.slice (some ⟨p, 0, none⟩) n n) n cs.toList := by
  subst hp
  exact World.ownsRow_lit w cs n (Nat.zero_le _) hm hs
theorem genW {R Q : World → Prop} {W : World} (hQ : Q W) (h : ∀ W, Q W → R W) : R W := h W hQ
theorem oneS {W : World} {v : Value} {x : Bs} {e : TypeId} (h : W.ownsRow 0 e 1 v 1 [sv x]) : StrsV W W.heap.size v [x] := StrsV.of_own (l := [x]) h
set_option maxHeartbeats 1000000 in
set_option maxRecDepth 100000 in
theorem small_any (w : World) :
    Calls Tryz.prog 32 #[] w fun e w' => ∃ v, e = .returned v ∧ SchV w' w'.heap.size v smallS ∧ Below w.heap.size w w' := by
  go_enter Tryz.func32, Tryz.ntmps32
  go_wp2
  with_reducible refine genW (R := fun W => bodyPost _ _ _ _ _ W) (Q := fun W => (W.cell? ⟨w.heap.size, 0, none⟩ = some (.slice (some ⟨w.heap.size + 1, 0, none⟩) 4 4) ∧ W.cell? ⟨w.heap.size, 1, none⟩ = some (.slice (some ⟨w.heap.size + 1 + 1 + 1 + 1 + 1, 0, none⟩) 2 2)) ∧
    SchV W W.heap.size (.agg #[.slice (some ⟨w.heap.size + 1, 0, none⟩) 4 4, .slice (some ⟨w.heap.size + 1 + 1 + 1 + 1 + 1, 0, none⟩) 2 2]) smallS ∧ Below w.heap.size w W) ?_ ?_
  · refine ⟨⟨?_, ?_⟩, ⟨_, _, rfl, ?_, ?_⟩, ?_⟩
    · refine Eq.trans (World.ownsRow.cellAt (n := 1) (size := 2) (((((((litR w _ 1 2 _ _ rfl (by decide) rfl).alloc _).alloc _).alloc _).alloc _).alloc _)) 0 (by decide)) ?_
      rfl
    · refine Eq.trans (World.ownsRow.cellAt (n := 1) (size := 2) (((((((litR w _ 1 2 _ _ rfl (by decide) rfl).alloc _).alloc _).alloc _).alloc _).alloc _)) 1 (by decide)) ?_
      rfl
    · refine SlV.own (((((litR _ _ 4 3 _ _ (by simp) (by decide) rfl).alloc _).alloc _).alloc _).alloc _) fun i x hx => ?_
      match i, hx with
      | 0, hx => injection hx with hx; subst hx; exact ⟨_, rfl, rfl, fun j u hj => by match j, hj with | 0, hj => exact hj | 1, hj => exact hj | 2, hj => exact hj⟩
      | 1, hx => injection hx with hx; subst hx; exact ⟨_, rfl, rfl, fun j u hj => by match j, hj with | 0, hj => exact hj | 1, hj => exact hj | 2, hj => exact hj⟩
      | 2, hx => injection hx with hx; subst hx; exact ⟨_, rfl, rfl, fun j u hj => by match j, hj with | 0, hj => exact hj | 1, hj => exact hj | 2, hj => exact hj⟩
      | 3, hx => injection hx with hx; subst hx; exact ⟨_, rfl, rfl, fun j u hj => by match j, hj with | 0, hj => exact hj | 1, hj => exact hj | 2, hj => exact hj⟩
    · refine SlV.own (litR _ _ 2 4 _ _ (by simp) (by decide) rfl) fun i x hx => ?_
      match i, hx with
      | 0, hx =>
        injection hx with hx; subst hx
        exact ⟨[sv personN, sv [], .slice (some ⟨w.heap.size + 1 + 1, 0, none⟩) 1 1, .slice (some ⟨w.heap.size + 1 + 1 + 1, 0, none⟩) 1 1], rfl, ⟨_, _, rfl, oneS ((((litR _ _ 1 1 _ _ (by simp) (by decide) rfl).alloc _).alloc _).alloc _), oneS (((litR _ _ 1 1 _ _ (by simp) (by decide) rfl).alloc _).alloc _)⟩, fun j u hj => by match j, hj with | 0, hj => exact hj | 1, hj => exact hj | 2, hj => exact hj | 3, hj => exact hj⟩
      | 1, hx =>
        injection hx with hx; subst hx
        exact ⟨[sv staffN, sv personN, .slice none 0 0, .slice (some ⟨w.heap.size + 1 + 1 + 1 + 1, 0, none⟩) 1 1], rfl, ⟨_, _, rfl, SlV.nil _ _ _ _, oneS ((litR _ _ 1 1 _ _ (by simp) (by decide) rfl).alloc _)⟩, fun j u hj => by match j, hj with | 0, hj => exact hj | 1, hj => exact hj | 2, hj => exact hj | 3, hj => exact hj⟩
    · repeat (first | with_reducible exact Below.refl _ _ | with_reducible refine Below.lay ?_ _)
  · rintro W ⟨⟨k0, k1⟩, hS, hb⟩
    exact bodyPost_ret (by simp [results, Tryz.results32, go_sem, k0, k1]) rfl ⟨_, rfl, hS, hb⟩
end Go.Proofs.YtnikolglippfmaaGreatDoor
/- The values of the small case, reckoned. -/
namespace Go.Proofs.YtnikolglippfmaaGreatDoor
open Go.RowKit Go.Sort
open Idn (L B Bs)
theorem ev_check : Idn.sCheck smallS = 0 := by kernel_rfl
theorem ev_sound : sound smallS = smallS := by rw [sound, if_pos ev_check]
theorem ev_type : tyLook smallS [65, 71, 69] = (⟨ageN, 3, true⟩, true) := by kernel_rfl
theorem ev_n1 : kNorm smallS cnN [65, 110, 110, 32, 32, 76, 69, 69] = (⟨cnN, 1, false⟩, [97, 110, 110, 32, 108, 101, 101], 0) := by kernel_rfl
theorem ev_n2 : kNorm smallS ageN [48, 48, 55] = (⟨ageN, 3, true⟩, [55], 0) := by kernel_rfl
theorem ev_n3 : kNorm smallS activeN [84, 114, 117, 101] = (⟨activeN, 5, false⟩, [84, 82, 85, 69], 0) := by kernel_rfl
theorem ev_n4 : kNorm smallS cnN [32, 97] = (⟨cnN, 1, false⟩, [], 8) := by kernel_rfl
theorem ev_c : sComp smallS ageN [57] [49, 48] = (-1, 0) := by kernel_rfl
def textB : Bs := [116, 121, 112, 101, 32, 99, 108, 97, 115, 115, 32, 116, 101, 120, 116, 10, 116, 121, 112, 101, 32, 99, 110, 32, 116, 101, 120, 116, 10, 116, 121, 112, 101, 32, 97, 103, 101, 32, 105, 110, 116, 32, 115, 105, 110, 103, 108, 101, 10, 116, 121, 112, 101, 32, 97, 99, 116, 105, 118, 101, 32, 98, 111, 111, 108, 10, 99, 108, 97, 115, 115, 32, 112, 101, 114, 115, 111, 110, 32, 45, 32, 99, 110, 32, 97, 103, 101, 10, 99, 108, 97, 115, 115, 32, 115, 116, 97, 102, 102, 32, 112, 101, 114, 115, 111, 110, 32, 45, 32, 97, 99, 116, 105, 118, 101, 10]
theorem ev_text : Idn.sText smallS = (textB, 0) := by kernel_rfl
theorem ev_lin : (linC smallS [83, 84, 65, 70, 70]).map (·.name) = [staffN, personN] := by kernel_rfl
theorem ev_must : mustL smallS staffN = [cnN] := by kernel_rfl
theorem srt3 : sorted [cnN, activeN, ageN] = [activeN, ageN, cnN] := by
  unfold sorted
  have e1 : decide (cnN ≤ activeN) = false := by decide
  have e2 : decide (activeN ≤ ageN) = true := by decide
  have e3 : decide (cnN ≤ ageN) = false := by decide
  simp [List.mergeSort, List.MergeSort.Internal.splitInTwo, List.merge, e1, e2, e3, -decide_eq_true_eq, -decide_eq_false_iff_not]
theorem may3 : (mustL smallS staffN ++ ((Idn.lin smallS staffN).filterMap (smallS.classes[·]?)).flatMap (·.may)).map Idn.lower = [cnN, activeN, ageN] := by kernel_rfl
theorem cmp3 : Lib.compact [activeN, ageN, cnN] = [activeN, ageN, cnN] := by kernel_rfl
theorem ev_may : mayL smallS staffN = [activeN, ageN, cnN] := by
  unfold mayL merged
  rw [may3, srt3, cmp3]
def annA : List Idn.Att := [⟨Idn.mainN, [personN]⟩, ⟨cnN, [[65, 110, 110]]⟩]
def twoL : List Idn.Att := ⟨ageN, [[55], [56]]⟩ :: annA
theorem grpA : (Idn.grp [] annA).map Idn.normA = annA := by kernel_rfl
theorem aSrt : Idn.aSorted annA = annA := by
  unfold Idn.aSorted
  rw [grpA]
  have e1 : decide (Idn.mainN ≤ cnN) = true := by decide
  simp [List.mergeSort, List.MergeSort.Internal.splitInTwo, List.merge, annA, e1, -decide_eq_true_eq]
theorem ev_names : namesL annA = [Idn.mainN, cnN] := by
  unfold namesL
  rw [aSrt]; rfl
theorem ev_get : getL annA Idn.mainN = [personN] := by
  unfold getL
  rw [aSrt]; kernel_rfl
theorem may2 : (mustL smallS personN ++ ((Idn.lin smallS personN).filterMap (smallS.classes[·]?)).flatMap (·.may)).map Idn.lower = [cnN, ageN] := by kernel_rfl
theorem srt2 : sorted [cnN, ageN] = [ageN, cnN] := by
  unfold sorted
  have e1 : decide (cnN ≤ ageN) = false := by decide
  simp [List.mergeSort, List.MergeSort.Internal.splitInTwo, List.merge, e1, -decide_eq_true_eq, -decide_eq_false_iff_not]
theorem ev_may2 : mayL smallS personN = [ageN, cnN] := by
  unfold mayL merged
  rw [may2, srt2]
  kernel_rfl
theorem ev_cl : classedB smallS [Idn.mainN, cnN] [personN] = true := by
  have h0 : Idn.fold personN = personN := by kernel_rfl
  have h1 : clKey smallS personN = true := by kernel_rfl
  have h2 : mustL smallS personN = [cnN] := by kernel_rfl
  unfold classedB clsGo clsGo
  rw [h0, h1, h2, ev_may2]
  decide
theorem ev_a1 : Idn.aCheck annA = 0 := by kernel_rfl
theorem ev_g1 : vGo smallS annA = 0 := by kernel_rfl
theorem ev_v1 : sValid smallS annA = 0 := by
  unfold sValid
  rw [ev_a1, ev_sound, ev_g1, ev_names, ev_get, ev_cl]
  rfl
theorem ev_a2 : Idn.aCheck twoL = 0 := by kernel_rfl
theorem ev_g2 : vGo smallS twoL = 9 := by kernel_rfl
theorem ev_v2 : sValid smallS twoL = 9 := by
  unfold sValid
  rw [ev_a2, ev_sound, ev_g2]
  rfl
theorem small_ssm : SSm smallS := by unfold SSm TSm CSm Sm smallS; decide
theorem small_ssm6 : SSm6 smallS := by unfold SSm6 smallS; decide
theorem ev_sn (n v : Bs) : sNorm smallS n v = ((kNorm smallS n v).2.1, (kNorm smallS n v).2.2) := by unfold sNorm; rw [ev_sound]
theorem ev_t1 : (tyLook smallS cnN).1.syn = 1 := by kernel_rfl
theorem ev_t2 : (tyLook smallS ageN).1.syn = 3 := by kernel_rfl
theorem ev_t3 : (tyLook smallS activeN).1.syn = 5 := by kernel_rfl
theorem ev_t4 : (tyLook smallS Idn.mainN).1.syn = 1 := by kernel_rfl
end Go.Proofs.YtnikolglippfmaaGreatDoor
/- law07: alive. -/
namespace Go.Proofs.YtnikolglippfmaaGreatDoor
open Go.RowKit Go.Sort
open Idn (L B Bs drop_L take_L size_L)

/-- the small schema in memory, and what the calls on it return -/
def Sm7 (w : World) (u : Value) : Prop := SchV w w.heap.size u smallS ∧ Env w ∧ EnvU w
theorem Sm7.keep {w w' : World} {u : Value} (h : Sm7 w u) (hb : Below w.heap.size w w') : Sm7 w' u := ⟨SchV.mono (SchV.keep h.1 hb) hb.size, h.2.1.keep hb, h.2.2.keep hb⟩
theorem sm_type {u : Value} {w : World} (h : Sm7 w u) : Calls Tryz.prog 33 #[u, .string ⟨#[65, 71, 69]⟩] w fun e w' => e = .returned (.tuple #[.agg #[.string ⟨#[97, 103, 101]⟩, .int .i64 3, .bool true], .bool true]) ∧ Below w.heap.size w w' := by
  have := type_any u smallS ⟨#[65, 71, 69]⟩ w h.1 small_ssm (by decide)
  rw [show L (⟨#[65, 71, 69]⟩ : ByteArray) = [65, 71, 69] from rfl, ev_sound, ev_type] at this
  exact this
theorem sm_n1 {u : Value} {w : World} (h : Sm7 w u) : Calls Tryz.prog 10 #[u, .string ⟨#[99, 110]⟩, .string ⟨#[65, 110, 110, 32, 32, 76, 69, 69]⟩] w fun e w' => e = .returned (.tuple #[.string ⟨#[97, 110, 110, 32, 108, 101, 101]⟩, .int .i64 0]) ∧ Below w.heap.size w w' := by
  have := schNormal_any u smallS ⟨#[99, 110]⟩ ⟨#[65, 110, 110, 32, 32, 76, 69, 69]⟩ w h.1 small_ssm h.2.1 h.2.2 (by decide) (by decide)
  rw [show L (⟨#[99, 110]⟩ : ByteArray) = cnN from rfl, show L (⟨#[65, 110, 110, 32, 32, 76, 69, 69]⟩ : ByteArray) = [65, 110, 110, 32, 32, 76, 69, 69] from rfl, ev_sn, ev_n1] at this
  exact this
theorem sm_n2 {u : Value} {w : World} (h : Sm7 w u) : Calls Tryz.prog 10 #[u, .string ⟨#[97, 103, 101]⟩, .string ⟨#[48, 48, 55]⟩] w fun e w' => e = .returned (.tuple #[.string ⟨#[55]⟩, .int .i64 0]) ∧ Below w.heap.size w w' := by
  have := schNormal_any u smallS ⟨#[97, 103, 101]⟩ ⟨#[48, 48, 55]⟩ w h.1 small_ssm h.2.1 h.2.2 (by decide) (by decide)
  rw [show L (⟨#[97, 103, 101]⟩ : ByteArray) = ageN from rfl, show L (⟨#[48, 48, 55]⟩ : ByteArray) = [48, 48, 55] from rfl, ev_sn, ev_n2] at this
  exact this
theorem sm_n3 {u : Value} {w : World} (h : Sm7 w u) : Calls Tryz.prog 10 #[u, .string ⟨#[97, 99, 116, 105, 118, 101]⟩, .string ⟨#[84, 114, 117, 101]⟩] w fun e w' => e = .returned (.tuple #[.string ⟨#[84, 82, 85, 69]⟩, .int .i64 0]) ∧ Below w.heap.size w w' := by
  have := schNormal_any u smallS ⟨#[97, 99, 116, 105, 118, 101]⟩ ⟨#[84, 114, 117, 101]⟩ w h.1 small_ssm h.2.1 h.2.2 (by decide) (by decide)
  rw [show L (⟨#[97, 99, 116, 105, 118, 101]⟩ : ByteArray) = activeN from rfl, show L (⟨#[84, 114, 117, 101]⟩ : ByteArray) = [84, 114, 117, 101] from rfl, ev_sn, ev_n3] at this
  exact this
theorem sm_n4 {u : Value} {w : World} (h : Sm7 w u) : Calls Tryz.prog 10 #[u, .string ⟨#[99, 110]⟩, .string ⟨#[32, 97]⟩] w fun e w' => e = .returned (.tuple #[.string ⟨#[]⟩, .int .i64 8]) ∧ Below w.heap.size w w' := by
  have := schNormal_any u smallS ⟨#[99, 110]⟩ ⟨#[32, 97]⟩ w h.1 small_ssm h.2.1 h.2.2 (by decide) (by decide)
  rw [show L (⟨#[99, 110]⟩ : ByteArray) = cnN from rfl, show L (⟨#[32, 97]⟩ : ByteArray) = [32, 97] from rfl, ev_sn, ev_n4] at this
  exact this
theorem sm_c {u : Value} {w : World} (h : Sm7 w u) : Calls Tryz.prog 12 #[u, .string ⟨#[97, 103, 101]⟩, .string ⟨#[57]⟩, .string ⟨#[49, 48]⟩] w fun e w' => e = .returned (.tuple #[.int .i64 (-1), .int .i64 0]) ∧ Below w.heap.size w w' := by
  have := schCompare_any u smallS ⟨#[97, 103, 101]⟩ ⟨#[57]⟩ ⟨#[49, 48]⟩ w h.1 small_ssm h.2.1 h.2.2 (by decide) (by decide) (by decide)
  rw [show L (⟨#[97, 103, 101]⟩ : ByteArray) = ageN from rfl, show L (⟨#[57]⟩ : ByteArray) = [57] from rfl, show L (⟨#[49, 48]⟩ : ByteArray) = [49, 48] from rfl, ev_c] at this
  exact this
theorem sm_t {u : Value} {w : World} (h : Sm7 w u) : Calls Tryz.prog 17 #[u] w fun e w' => e = .returned (.tuple #[.string (B textB), .int .i64 0]) ∧ Below w.heap.size w w' := by
  have := schText_any u smallS w h.1 small_ssm small_ssm6
  rw [ev_text] at this
  exact this
theorem sm_ck {u : Value} {w : World} (h : Sm7 w u) : Calls Tryz.prog 22 #[u] w fun e w' => e = .returned (.int .i64 0) ∧ Below w.heap.size w w' := by
  have := schCheck_any u smallS w h.1 small_ssm
  rw [ev_check] at this
  exact this
theorem sm_lin {u : Value} {w : World} (h : Sm7 w u) : Calls Tryz.prog 28 #[u, .string ⟨#[83, 84, 65, 70, 70]⟩] w (RetS w [staffN, personN]) := by
  have := schLineage_any u smallS ⟨#[83, 84, 65, 70, 70]⟩ w h.1 small_ssm (by decide)
  rw [ev_sound, show L (⟨#[83, 84, 65, 70, 70]⟩ : ByteArray) = [83, 84, 65, 70, 70] from rfl, ev_lin] at this
  exact this
theorem sm_must {u : Value} {w : World} (h : Sm7 w u) : Calls Tryz.prog 24 #[u, .string ⟨#[115, 116, 97, 102, 102]⟩] w (RetS w [cnN]) := by
  have := schMust_any u smallS ⟨#[115, 116, 97, 102, 102]⟩ w h.1 small_ssm (by decide)
  rw [ev_sound, show L (⟨#[115, 116, 97, 102, 102]⟩ : ByteArray) = staffN from rfl, ev_must] at this
  exact this
theorem sm_may {u : Value} {w : World} (h : Sm7 w u) : Calls Tryz.prog 25 #[u, .string ⟨#[115, 116, 97, 102, 102]⟩] w (RetS w [activeN, ageN, cnN]) := by
  have := schMay_any u smallS ⟨#[115, 116, 97, 102, 102]⟩ w h.1 small_ssm (by decide)
  rw [ev_sound, show L (⟨#[115, 116, 97, 102, 102]⟩ : ByteArray) = staffN from rfl, ev_may] at this
  exact this
theorem sm_v1 {u : Value} {w : World} (h : Sm7 w u) (nm : ByteArray) (va : Value) (hv : AttsV w w.heap.size va annA) : Calls Tryz.prog 15 #[u, .agg #[.string nm, va]] w fun e w' => e = .returned (.int .i64 0) ∧ Below w.heap.size w w' := by
  have := valid_any u smallS nm va annA w h.1 small_ssm h.2.1 h.2.2 hv (by unfold ASm Sm annA; decide) (by unfold ASm5 annA; decide)
  rw [ev_v1] at this
  exact this
theorem sm_v2 {u : Value} {w : World} (h : Sm7 w u) (nm : ByteArray) (va : Value) (hv : AttsV w w.heap.size va twoL) : Calls Tryz.prog 15 #[u, .agg #[.string nm, va]] w fun e w' => e = .returned (.int .i64 9) ∧ Below w.heap.size w w' := by
  have := valid_any u smallS nm va twoL w h.1 small_ssm h.2.1 h.2.2 hv (by unfold ASm Sm twoL annA; decide) (by unfold ASm5 twoL annA; decide)
  rw [ev_v2] at this
  exact this
end Go.Proofs.YtnikolglippfmaaGreatDoor
/- law07: alive, walked. -/
namespace Go.Proofs.YtnikolglippfmaaGreatDoor
open Go.RowKit Go.Sort
open Idn (L B Bs drop_L take_L size_L)
theorem heapN (w : World) (o : Obj) (p : Nat) (hp : w.heap.size = p) : (w.alloc o).heap[p]? = some o := by subst hp; exact heap_alloc_new w o
theorem heapO {w : World} {o o' : Obj} {p : Nat} (h : w.heap[p]? = some o') : (w.alloc o).heap[p]? = some o' := by
  rw [Below.heap_alloc _ _ _ (Array.getElem?_eq_some_iff.1 h).1]; exact h
theorem strsAt {W : World} {p n c : Nat} {C : Array Value} {t : TypeId} {l : List Bs} (h : W.heap[p]? = some (.cells C t)) (hn : n = l.length) (hl : l.length ≤ c) (hc : ∀ (i : Nat) (x : Bs), l[i]? = some x → C[i]? = some (sv x)) : StrsV W W.heap.size (.slice (some ⟨p, 0, none⟩) n c) l := by
  subst hn
  refine ⟨_, _, rfl, hl, fun _ => ⟨p, 0, rfl, (Array.getElem?_eq_some_iff.1 h).1, fun i x hx => ⟨[sv x], rfl, rfl, fun j u hj => ?_⟩⟩⟩
  match j, hj with
  | 0, hj =>
    simp at hj; subst hj
    rw [Nat.zero_add, Nat.add_zero, Nat.mul_one, cell_of_row _ p i _ _ (0, 0) h]
    exact hc i x hx
theorem attsAt {W : World} {p n c : Nat} {C : Array Value} {t : TypeId} {l : List Idn.Att} (h : W.heap[p]? = some (.cells C t)) (hn : n = l.length) (hl : l.length ≤ c) (hc : ∀ (i : Nat) (x : Idn.Att), l[i]? = some x → ∃ v, C[i * 2]? = some (sv x.name) ∧ C[i * 2 + 1]? = some v ∧ StrsV W W.heap.size v x.vals) : AttsV W W.heap.size (.slice (some ⟨p, 0, none⟩) n c) l := by
  subst hn
  refine ⟨_, _, rfl, hl, fun _ => ⟨p, 0, rfl, (Array.getElem?_eq_some_iff.1 h).1, fun i x hx => ?_⟩⟩
  obtain ⟨v, h1, h2, h3⟩ := hc i x hx
  refine ⟨[sv x.name, v], rfl, ⟨v, rfl, h3⟩, fun j u hj => ?_⟩
  match j, hj with
  | 0, hj =>
    simp at hj; subst hj
    rw [Nat.zero_add, Nat.add_zero, cell_of_row _ p _ _ _ (0, 0) h]
    exact h1
  | 1, hj =>
    simp at hj; subst hj
    rw [Nat.zero_add, cell_of_row _ p _ _ _ (0, 0) h]
    exact h2
theorem genL {R : World → Prop} {w : World} {C : Array Value} {t : TypeId} (l : List Bs) (hC : C = (l.map sv).toArray)
    (h : ∀ W, Below w.heap.size w W → StrsV W W.heap.size (.slice (some ⟨w.heap.size, 0, none⟩) l.length l.length) l → R W) : R (w.alloc (.cells C t)) := by
  subst hC
  exact h _ ((Below.refl _ _).alloc (Nat.le_refl _) _) (strsAt (heapN w _ _ rfl) rfl (Nat.le_refl _) fun i x hx => by simp [hx])
set_option maxHeartbeats 4000000 in
set_option maxRecDepth 100000 in
theorem alive_any (w : World) (hE : Env w) (hU : EnvU w) : Calls Tryz.prog 9 #[] w fun e w' => e = .returned (.bool true) ∧ Below w.heap.size w w' := by
  have hSm := small_any w
  go_enter Tryz.func9, Tryz.ntmps9
  go_wp2_with fail
  refine hSm.mono ?_
  rintro e w1 ⟨v, rfl, hS1, hb1⟩
  have h1 : Sm7 w1 v := ⟨hS1, hE.keep hb1, hU.keep hb1⟩
  obtain ⟨a, b, rfl, hT, hC⟩ := hS1
  obtain ⟨A, ca, rfl, hca⟩ := SlV.shape hT
  obtain ⟨A', cb, rfl, hcb⟩ := SlV.shape hC
  clear hT hC hSm
  go_wp2_with fail
  with_reducible refine gen1 (R := fun W => Calls Tryz.prog 33 _ W _) ?_
  intro W2 hbW2 hszW2 hc2 _
  have q0 : W2.cell? ⟨w1.heap.size, 0, none⟩ = some (.slice A smallS.types.length ca) := hc2 0 _ rfl
  have q1 : W2.cell? ⟨w1.heap.size, 1, none⟩ = some (.slice A' smallS.classes.length cb) := hc2 1 _ rfl
  have h2 := h1.keep hbW2
  have hb2 := hb1.trans (hbW2.mono hb1.size)
  clear hc2 hszW2 hbW2 h1 hb1 hca hcb
  refine (sm_type h2).mono ?_
  rintro e w3 ⟨rfl, hb3⟩
  have h3 := h2.keep hb3
  have hb13 := hb2.trans (hb3.mono hb2.size)
  replace q0 := cell_later hb3 q0
  replace q1 := cell_later hb3 q1
  have ba := (Below.refl w3.heap.size w3).alloc (Nat.le_refl _) (.cells #[.string ⟨#[97, 103, 101]⟩, .int .i64 3, .bool true] 58)
  have q0a := cell_later ba q0
  have q1a := cell_later ba q1
  clear hb3 h2 hb2 ba
  go_wp2_with fail
  with_reducible refine gen1 (R := fun W => Calls Tryz.prog 10 _ W _) ?_
  intro W4 hbW4 hszW4 hc4 _
  have g2 : W4.cell? ⟨w3.heap.size, 2, none⟩ = some (.bool true) := hc4 2 _ rfl
  have h4 := h3.keep hbW4
  have hb4 := hb13.trans (hbW4.mono hb13.size)
  replace q0 := cell_later hbW4 q0
  replace q1 := cell_later hbW4 q1
  clear hc4 hszW4 hbW4 h3 hb13 q0a q1a
  refine (sm_n1 h4).mono ?_
  rintro e w5 ⟨rfl, hb⟩
  have h5 := h4.keep hb
  have hb5 := hb4.trans (hb.mono hb4.size)
  replace q0 := cell_later hb q0
  replace q1 := cell_later hb q1
  replace g2 := cell_later hb g2
  clear hb h4 hb4
  go_wp2_with fail
  refine (sm_n2 h5).mono ?_
  rintro e w6 ⟨rfl, hb⟩
  have h6 := h5.keep hb
  have hb6 := hb5.trans (hb.mono hb5.size)
  replace q0 := cell_later hb q0
  replace q1 := cell_later hb q1
  replace g2 := cell_later hb g2
  clear hb h5 hb5
  go_wp2_with fail
  refine (sm_n3 h6).mono ?_
  rintro e w7 ⟨rfl, hb⟩
  have h7 := h6.keep hb
  have hb7 := hb6.trans (hb.mono hb6.size)
  replace q0 := cell_later hb q0
  replace q1 := cell_later hb q1
  replace g2 := cell_later hb g2
  clear hb h6 hb6
  go_wp2_with fail
  refine (sm_c h7).mono ?_
  rintro e w8 ⟨rfl, hb⟩
  have h8 := h7.keep hb
  have hb8 := hb7.trans (hb.mono hb7.size)
  replace q0 := cell_later hb q0
  replace q1 := cell_later hb q1
  replace g2 := cell_later hb g2
  clear hb h7 hb7
  go_wp2_with fail
  refine (sm_n4 h8).mono ?_
  rintro e w9 ⟨rfl, hb⟩
  have h9 := h8.keep hb
  have hb9 := hb8.trans (hb.mono hb8.size)
  replace q0 := cell_later hb q0
  replace q1 := cell_later hb q1
  replace g2 := cell_later hb g2
  clear hb h8 hb8
  go_wp2_with fail
  refine (sm_t h9).mono ?_
  rintro e w10 ⟨rfl, hb⟩
  have h10 := h9.keep hb
  have hb10 := hb9.trans (hb.mono hb9.size)
  replace q0 := cell_later hb q0
  replace q1 := cell_later hb q1
  clear hb h9 hb9 g2
  have htx : (B textB).toList = [116, 121, 112, 101, 32, 99, 108, 97, 115, 115, 32, 116, 101, 120, 116, 10, 116, 121, 112, 101, 32, 99, 110, 32, 116, 101, 120, 116, 10, 116, 121, 112, 101, 32, 97, 103, 101, 32, 105, 110, 116, 32, 115, 105, 110, 103, 108, 101, 10, 116, 121, 112, 101, 32, 97, 99, 116, 105, 118, 101, 32, 98, 111, 111, 108, 10, 99, 108, 97, 115, 115, 32, 112, 101, 114, 115, 111, 110, 32, 45, 32, 99, 110, 32, 97, 103, 101, 10, 99, 108, 97, 115, 115, 32, 115, 116, 97, 102, 102, 32, 112, 101, 114, 115, 111, 110, 32, 45, 32, 97, 99, 116, 105, 118, 101, 10] := by rw [toList_L, Idn.L_B]; rfl
  have hfit : ¬ (281474976710656 < Builtin.nextslicecap 3 1 * Tryz.t64.bytes) := by decide
  generalize B textB = tx at *
  go_wp2_with fail
  refine (parse_age w10 h10.2.1).mono ?_
  rintro e w11 ⟨rfl, hb⟩
  have h11 := h10.keep hb
  have hb11 := hb10.trans (hb.mono hb10.size)
  replace q0 := cell_later hb q0
  replace q1 := cell_later hb q1
  clear hb h10 hb10
  go_upto_region 16 with fail
  with_reducible refine genW (R := fun W => Code.wp Tryz.prog _ _ _ W) (Q := fun W => Below w11.heap.size w11 W ∧ W.heap[w11.heap.size + 1]? = some (.cells #[.string ⟨#[112, 101, 114, 115, 111, 110]⟩] 9) ∧ W.heap[w11.heap.size + 1 + 1]? = some (.cells #[.string ⟨#[65, 110, 110]⟩] 9) ∧
    W.heap[w11.heap.size + 1 + 1 + 1]? = some (.cells #[.string ⟨#[99, 108, 97, 115, 115]⟩, .slice (some ⟨w11.heap.size + 1, 0, none⟩) 1 1, .string ⟨#[99, 110]⟩, .slice (some ⟨w11.heap.size + 1 + 1, 0, none⟩) 1 1] 64) ∧
    W.heap[w11.heap.size + 1 + 1 + 1 + 1]? = some (.cells #[.string ⟨#[99, 110, 61, 97, 110, 110]⟩, .slice (some ⟨w11.heap.size + 1 + 1 + 1, 0, none⟩) 2 2] 38) ∧
    W.heap[w11.heap.size + 1 + 1 + 1 + 1 + 1]? = some (.cells #[.string ⟨#[55]⟩, .string ⟨#[56]⟩] 9) ∧
    (∃ z, W.heap[w11.heap.size + 1 + 1 + 1 + 1 + 1 + 1 + 1]? = some (.cells (#[.string ⟨#[97, 103, 101]⟩, .slice (some ⟨w11.heap.size + 1 + 1 + 1 + 1 + 1, 0, none⟩) 2 2] ++ (#[.string ⟨#[99, 108, 97, 115, 115]⟩, .slice (some ⟨w11.heap.size + 1, 0, none⟩) 1 1, .string ⟨#[99, 110]⟩, .slice (some ⟨w11.heap.size + 1 + 1, 0, none⟩) 1 1] ++ z)) 64)) ∧
    (∃ cap, 3 ≤ cap ∧ W.heap[w11.heap.size + 1 + 1 + 1 + 1 + 1 + 1 + 1 + 1]? = some (.cells #[.string ⟨#[]⟩, .slice (some ⟨w11.heap.size + 1 + 1 + 1 + 1 + 1 + 1 + 1, 0, none⟩) 3 cap] 38))) ?_ ?_
  · refine ⟨?_, ?_, ?_, ?_, ?_, ?_, ⟨Builtin.zeroCells #[.string ⟨#[]⟩, .slice none 0 0] (grownCap w11 3 1 64 - 3), ?_⟩, ⟨grownCap w11 3 1 64, grownCap_ge w11 3 1 64, ?_⟩⟩
    · repeat (first | with_reducible exact Below.refl _ _ | with_reducible apply Below.drew | with_reducible refine Below.lay ?_ _)
    all_goals
      show (World.heap (World.alloc _ _))[_]? = _
      repeat (first | exact heapN _ _ _ (by simp) | refine heapO ?_)
  · rintro W12 ⟨hb, e1, e2, e3, e4, e5, ⟨z, e7⟩, ⟨cap, hcap, e8⟩⟩
    have sB := fun (p : Nat) (C : Array Value) (t : TypeId) (i : Nat) (h : W12.heap[p]? = some (.cells C t)) => cell_of_row W12 p i C t (0, 0) h
    have hP := strsAt (l := [personN]) (n := 1) (c := 1) e1 rfl (Nat.le_refl _) (fun i x hx => by match i, hx with | 0, hx => (injection hx with hx; subst hx; rfl))
    have hA := strsAt (l := [[65, 110, 110]]) (n := 1) (c := 1) e2 rfl (Nat.le_refl _) (fun i x hx => by match i, hx with | 0, hx => (injection hx with hx; subst hx; rfl))
    have h78 := strsAt (l := [[55], [56]]) (n := 2) (c := 2) e5 rfl (Nat.le_refl _) (fun i x hx => by match i, hx with | 0, hx => (injection hx with hx; subst hx; rfl) | 1, hx => (injection hx with hx; subst hx; rfl))
    have hAnn : AttsV W12 W12.heap.size (.slice (some ⟨w11.heap.size + 1 + 1 + 1, 0, none⟩) 2 2) annA := attsAt e3 rfl (Nat.le_refl _) (fun i x hx => by
      match i, hx with
      | 0, hx => injection hx with hx; subst hx; exact ⟨_, rfl, rfl, hP⟩
      | 1, hx => injection hx with hx; subst hx; exact ⟨_, rfl, rfl, hA⟩)
    have hTwo : AttsV W12 W12.heap.size (.slice (some ⟨w11.heap.size + 1 + 1 + 1 + 1 + 1 + 1 + 1, 0, none⟩) 3 cap) twoL := attsAt e7 rfl hcap (fun i x hx => by
      match i, hx with
      | 0, hx => injection hx with hx; subst hx; exact ⟨_, by simp [Array.getElem?_append]; rfl, by simp [Array.getElem?_append], h78⟩
      | 1, hx => injection hx with hx; subst hx; exact ⟨_, by simp [Array.getElem?_append]; rfl, by simp [Array.getElem?_append], hP⟩
      | 2, hx => injection hx with hx; subst hx; exact ⟨_, by simp [Array.getElem?_append]; rfl, by simp [Array.getElem?_append], hA⟩)
    have a0 : W12.cell? ⟨w11.heap.size + 1 + 1 + 1 + 1, 0, none⟩ = some (.string ⟨#[99, 110, 61, 97, 110, 110]⟩) := sB _ _ _ 0 e4
    have a1 : W12.cell? ⟨w11.heap.size + 1 + 1 + 1 + 1, 1, none⟩ = some (.slice (some ⟨w11.heap.size + 1 + 1 + 1, 0, none⟩) 2 2) := sB _ _ _ 1 e4
    have b0 : W12.cell? ⟨w11.heap.size + 1 + 1 + 1 + 1 + 1 + 1 + 1 + 1, 0, none⟩ = some (.string ⟨#[]⟩) := sB _ _ _ 0 e8
    have b1 : W12.cell? ⟨w11.heap.size + 1 + 1 + 1 + 1 + 1 + 1 + 1 + 1, 1, none⟩ = some (.slice (some ⟨w11.heap.size + 1 + 1 + 1 + 1 + 1 + 1 + 1, 0, none⟩) 3 cap) := sB _ _ _ 1 e8
    have h12 := h11.keep hb
    have hb12 := hb11.trans (hb.mono hb11.size)
    replace q0 := cell_later hb q0
    replace q1 := cell_later hb q1
    clear sB hP hA h78 e1 e2 e3 e4 e5 e7 e8 hb h11 hb11 htx hfit
    go_wp2_with fail
    refine (sm_ck h12).mono ?_
    rintro e w13 ⟨rfl, hb⟩
    have h13 := h12.keep hb
    have hb13 := hb12.trans (hb.mono hb12.size)
    replace q0 := cell_later hb q0
    replace q1 := cell_later hb q1
    replace a0 := cell_later hb a0
    replace a1 := cell_later hb a1
    replace b0 := cell_later hb b0
    replace b1 := cell_later hb b1
    replace hAnn := AttsV.mono (AttsV.keep hAnn hb) hb.size
    replace hTwo := AttsV.mono (AttsV.keep hTwo hb) hb.size
    clear h12 hb12 hb
    go_wp2_with fail
    refine (sm_v1 h13 _ _ hAnn).mono ?_
    rintro e w14 ⟨rfl, hb⟩
    have h14 := h13.keep hb
    have hb14 := hb13.trans (hb.mono hb13.size)
    replace q0 := cell_later hb q0
    replace q1 := cell_later hb q1
    replace b0 := cell_later hb b0
    replace b1 := cell_later hb b1
    replace hTwo := AttsV.mono (AttsV.keep hTwo hb) hb.size
    clear h13 hb13 hb hAnn a0 a1
    go_wp2_with fail
    refine (sm_v2 h14 _ _ hTwo).mono ?_
    rintro e w15 ⟨rfl, hb⟩
    have h15 := h14.keep hb
    have hb15 := hb14.trans (hb.mono hb14.size)
    replace q0 := cell_later hb q0
    replace q1 := cell_later hb q1
    clear h14 hb14 hb hTwo b0 b1
    go_wp2_with fail
    refine (sm_lin h15).mono ?_
    rintro e w16 ⟨v16, rfl, hown, hb⟩
    have h16 := h15.keep hb
    have hb16 := hb15.trans (hb.mono hb15.size)
    replace q0 := cell_later hb q0
    replace q1 := cell_later hb q1
    have hr := StrsV.of_own (l := [staffN, personN]) hown
    obtain ⟨A16, c16, hv16⟩ := own_shape hown
    subst hv16
    clear h15 hb15 hb hown
    go_wp2_with fail
    have hcc : (#[.string ⟨#[115, 116, 97, 102, 102]⟩, .string ⟨#[112, 101, 114, 115, 111, 110]⟩] : Array Value) = ([staffN, personN].map sv).toArray := rfl
    with_reducible refine genL (R := fun W => Calls Tryz.prog 34 _ W _) [staffN, personN] hcc ?_
    clear hcc
    intro W17 hb hl
    have h17 := h16.keep hb
    have hb17 := hb16.trans (hb.mono hb16.size)
    replace q0 := cell_later hb q0
    replace q1 := cell_later hb q1
    refine (r_lists_any _ _ _ _ W17 (SlV.mono (SlV.keep hr hb) hb.size) hl (by decide) (by decide)).mono ?_
    clear h16 hb16 hb hr hl
    rw [show decide ([staffN, personN] = [staffN, personN]) = true from by decide]
    rintro e w18 ⟨rfl, hb⟩
    have h18 := h17.keep hb
    have hb18 := hb17.trans (hb.mono hb17.size)
    replace q0 := cell_later hb q0
    replace q1 := cell_later hb q1
    clear h17 hb17 hb
    go_wp2_with fail
    refine (sm_must h18).mono ?_
    rintro e w19 ⟨v19, rfl, hown, hb⟩
    have h19 := h18.keep hb
    have hb19 := hb18.trans (hb.mono hb18.size)
    replace q0 := cell_later hb q0
    replace q1 := cell_later hb q1
    have hr := StrsV.of_own (l := [cnN]) hown
    obtain ⟨A19, c19, hv19⟩ := own_shape hown
    subst hv19
    clear h18 hb18 hb hown
    go_wp2_with fail
    have hcc : (#[.string ⟨#[99, 110]⟩] : Array Value) = ([cnN].map sv).toArray := rfl
    with_reducible refine genL (R := fun W => Calls Tryz.prog 34 _ W _) [cnN] hcc ?_
    clear hcc
    intro W20 hb hl
    have h20 := h19.keep hb
    have hb20 := hb19.trans (hb.mono hb19.size)
    replace q0 := cell_later hb q0
    replace q1 := cell_later hb q1
    refine (r_lists_any _ _ _ _ W20 (SlV.mono (SlV.keep hr hb) hb.size) hl (by decide) (by decide)).mono ?_
    clear h19 hb19 hb hr hl
    rw [show decide ([cnN] = [cnN]) = true from by decide]
    rintro e w21 ⟨rfl, hb⟩
    have h21 := h20.keep hb
    have hb21 := hb20.trans (hb.mono hb20.size)
    replace q0 := cell_later hb q0
    replace q1 := cell_later hb q1
    clear h20 hb20 hb
    go_wp2_with fail
    refine (sm_may h21).mono ?_
    rintro e w22 ⟨v22, rfl, hown, hb⟩
    have h22 := h21.keep hb
    have hb22 := hb21.trans (hb.mono hb21.size)
    have hr := StrsV.of_own (l := [activeN, ageN, cnN]) hown
    obtain ⟨A22, c22, hv22⟩ := own_shape hown
    subst hv22
    clear h21 hb21 hb hown q0 q1 h22
    go_wp2_with fail
    have hcc : (#[.string ⟨#[97, 99, 116, 105, 118, 101]⟩, .string ⟨#[97, 103, 101]⟩, .string ⟨#[99, 110]⟩] : Array Value) = ([activeN, ageN, cnN].map sv).toArray := rfl
    with_reducible refine genL (R := fun W => Calls Tryz.prog 34 _ W _) [activeN, ageN, cnN] hcc ?_
    clear hcc
    intro W23 hb hl
    have hb23 := hb22.trans (hb.mono hb22.size)
    refine (r_lists_any _ _ _ _ W23 (SlV.mono (SlV.keep hr hb) hb.size) hl (by decide) (by decide)).mono ?_
    clear hb22 hb hr hl
    rw [show decide ([activeN, ageN, cnN] = [activeN, ageN, cnN]) = true from by decide]
    rintro e w24 ⟨rfl, hb⟩
    go_wp2_with fail
    go_ret
    exact ⟨rfl, hb23.trans (hb.mono hb23.size)⟩
end Go.Proofs.YtnikolglippfmaaGreatDoor
