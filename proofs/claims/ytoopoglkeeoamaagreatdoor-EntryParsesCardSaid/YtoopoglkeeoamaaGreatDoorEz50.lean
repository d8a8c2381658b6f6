/- Part 50 of the proof that identitylaw08.EntryParses and EntryReturns return true: the package variables hold what the program lays; nothing else is asked. -/
import Derived.Test.YtoopoglkeeoamaaGreatDoorEz43
import Derived.Test.YtoopoglkeeoamaaGreatDoorEz49
import Derived.ChangeMaps5
set_option linter.unusedVariables false
set_option linter.unusedSimpArgs false
/- EntryParses: the contract as the row asks it, the statement, the card. -/
namespace Go.Proofs.YtoopoglkeeoamaaGreatDoor
open Go.RowKit Go.Sort Go.Shelf Go.ChangeShapes Go.WideShapes Go.ChangeAt Go.ChangeMaps
theorem laid_eqEP : Rows.entryParsesRow.laid = laidL := by
  unfold laidL
  rw [← pow_eq, ← acc_eq, ← first_eq, ← case_eq]
  rfl
set_option maxRecDepth 100000 in
theorem cEP_contract (F : Stop.Interp) (H : Type) (enc : TypeId × Value → H) (W : World) (base : Nat) (args : Array Value) (ds gs : List (DataW H)) (before : List MemPlace)
    (hval : ∀ (j : Nat) t v, Tryz.f10.params[j]? = some t → args[j]? = some v → Value.okWide Tryz.prog W .any base t v)
    (hW : DataW.Whole enc Tryz.prog Tryz.f10.params.toList Rows.entryParsesSpec.vars false W args.toList ds gs before) (hL : laidMet Tryz.prog laidL W) (hsh : W.ShapedOpen Tryz.prog) :
    Calls Tryz.prog 10 args W fun e W' => ∃ v, e = .returned v ∧ ((OpenSpec.ofChange Rows.entryParsesSpec).at F).post enc Tryz.prog Tryz.f10 false true false false W args v W' := by
  have hW' := hW
  obtain ⟨p, q, hA0, hV0, rfl, _, _⟩ := hW
  have hA : DataW.TrodAll enc Tryz.prog W 0 (fun _ => true) true Tryz.f10.params.toList args.toList ds p := hA0
  rw [Tryz.params10] at hA hval
  obtain ⟨v0, d0, rfl, rfl, h0⟩ := trodAll_one hA
  obtain ⟨rfl, rfl⟩ := trodVars_none hV0
  obtain ⟨s0, rfl, _, _, hn0⟩ := open_string Tryz.underlying9 (hval 0 9 v0 rfl rfl) h0
  clear hA0 hV0 hval
  simp only [List.append_nil] at hW'
  have hlt : ∀ x ∈ p, x.block < W.heap.size := fun x hx => by simpa using hW'.lt x (by simpa using hx)
  obtain ⟨hE, hU⟩ := env_of hL hsh
  refine (entryParses_any s0 W (by unfold maxLen at hn0; omega) hE hU).mono ?_
  rintro e W' ⟨rfl, bel⟩
  have e1 : ((OpenSpec.ofChange Rows.entryParsesSpec).at F).fn H ([d0] ++ []) = { results := [.lit (.bool true)], args := [d0] } := rfl
  refine ⟨_, rfl, _, _, _, [], p, [], hW', ?_, ?_, ?_, bel.frame _, fun h => by cases h⟩
  · rw [e1]; exact trodAll_mk1 (shut_bool Tryz.underlying4 _)
  · rw [e1]; exact trodAll_mk1 (Below.trod laidOut (by kernel_rfl) (of_decide_eq_true (by kernel_rfl)) h0 bel hlt)
  · rw [e1]; rfl
theorem noHandleEP {W : World} (h : laidMetH Tryz.prog Rows.entryParsesRow.laid W) : laidMet Tryz.prog laidL W := by
  have e : (Rows.entryParsesRow.laid.filter fun x => x.2.handleName?.isSome) = [] := by kernel_rfl
  unfold laidMetH at h
  rw [e] at h
  rw [← laid_eqEP]
  exact h
theorem laid_metEP (os : Os) (args : Array Value) : laidMet Tryz.prog Rows.entryParsesRow.laid ((laidWorld os).forCall (fun _ _ => 0) ⟨#[], args, []⟩).memory := by
  rw [laid_eqEP]
  exact laid_metW os args
theorem witness_rowEP (os : Os) {H : Type} (enc : TypeId × Value → H) :
    (OpenSpec.ofChange Rows.entryParsesSpec).preRow enc Tryz.prog Tryz.f10 Rows.entryParsesRow.domain false Rows.entryParsesRow.laid ((laidWorld os).forCall (fun _ _ => 0) ⟨#[], #[.string ⟨#[]⟩], []⟩).memory #[.string ⟨#[]⟩] := by
  have hw : (DataW.whole enc Tryz.prog ((laidWorld os).forCall (fun _ _ => 0) ⟨#[], #[.string ⟨#[]⟩], []⟩).memory Tryz.f10.params.toList (OpenSpec.ofChange Rows.entryParsesSpec).vars false #[Value.string ⟨#[]⟩].toList 8).map (fun x => (x.1, x.2.1)) =
      some ([.lit (.string [])], []) := by kernel_rfl
  obtain ⟨⟨x1, x2, x3⟩, hx, hx1⟩ := Option.map_eq_some_iff.1 hw
  simp only [Prod.mk.injEq] at hx1
  obtain ⟨rfl, rfl⟩ := hx1
  exact OpenSpec.preRow_of_cond 8 hx (by kernel_rfl) (fun k hk => by cases hk) (by kernel_rfl) (laid_metEP os _)
set_option maxRecDepth 100000 in
theorem liftedEP (os : Os) (started : os.Started) (H : Type) (enc : TypeId × Value → H) (F : Stop.Interp) :
    ReturnsInHanded {} Tryz.checked os 10 .any ((OpenSpec.ofChange Rows.entryParsesSpec).preRow enc Tryz.prog Tryz.f10 Rows.entryParsesRow.domain false Rows.entryParsesRow.laid) (((OpenSpec.ofChange Rows.entryParsesSpec).at F).post enc Tryz.prog Tryz.f10 false true false false) := by
  refine returnsInHanded_of_row (C := Tryz.checked) (s := (OpenSpec.ofChange Rows.entryParsesSpec)) own started (by kernel_rfl) Tryz.func10
    (witness_row_atRef (enc := enc) (C := Tryz.checked) false (laidWorld os) #[.string ⟨#[]⟩] rfl (by kernel_rfl) (by kernel_rfl) (by kernel_rfl) (witness_rowEP os enc)) ?_
  intro W base args ds gs before hval hW _ _ _ hL hsh _
  exact cEP_contract F H enc W base args ds gs before hval hW (noHandleEP hL) hsh
end Go.Proofs.YtoopoglkeeoamaaGreatDoor
/- EntryParses: the statement. -/
namespace Go.Proofs.YtoopoglkeeoamaaGreatDoor
open Go.RowKit Go.Sort Go.Shelf Go.ChangeShapes Go.WideShapes Go.ChangeAt Go.ChangeMaps
set_option maxHeartbeats 8000000 in
theorem closedEP : joinedFacts Tryz.pinned.checked.prog 10 Tryz.f10 (OpenSpec.ofChange Rows.entryParsesSpec).bare Rows.entryParsesRow = true := by
  unfold joinedFacts
  simp only [Bool.and_eq_true]
  repeat' with_reducible apply And.intro
  all_goals (as_aux_lemma => kernel_rfl)
theorem saidEP : Rows.EntryParsesSaid :=
  OpenClaim.holds_of_cond 10 Tryz.f10 rfl rfl rfl rfl rfl rfl rfl ⟨rfl, rfl, rfl, rfl, rfl⟩ rfl rfl rfl rfl rfl (by kernel_rfl) Tryz.func10 closedEP
    (of_decide_eq_true (by kernel_rfl)) (by unfold Func.isWrapper; first | (rw [if_pos (by decide +kernel)]; kernel_rfl) | (rw [if_neg (by decide +kernel)]; exact ⟨rfl, rfl⟩))
    (fun os started H enc _ F => by rw [OpenClaim.pre_eq_preRow]; exact liftedEP os started H enc F)
end Go.Proofs.YtoopoglkeeoamaaGreatDoor
/- EntryParses: the card. -/
namespace Go.Proofs.YtoopoglkeeoamaaGreatDoor
open Go.RowKit Go.Sort Go.Shelf Go.ChangeShapes Go.WideShapes Go.ChangeAt Go.ChangeMaps
theorem plainEP (f : FuncId) (fn : Func) (hf : Tryz.pinned.checked.prog.funcNamed "identity/identitylaw08.EntryParses" = some f) (hfn : Tryz.pinned.checked.prog.funcs[f]? = some fn) :
    true = Tryz.pinned.checked.prog.looks [] ∧ ∀ (j : Nat) t, fn.params[j]? = some t → Tryz.pinned.checked.prog.wantsStandIn t = false := by
  obtain rfl : f = 10 := Option.some.inj ((show Tryz.prog.funcNamed "identity/identitylaw08.EntryParses" = some 10 by kernel_rfl).symm.trans hf) |>.symm
  obtain rfl : fn = Tryz.f10 := (Option.some.inj (Tryz.func10.symm.trans hfn)).symm
  refine ⟨by kernel_rfl, fun j t ht => ?_⟩
  rw [Tryz.params10] at ht
  have hm := Array.mem_of_getElem? ht
  simp at hm
  subst hm
  exact (show Tryz.prog.wantsStandIn 9 = false by kernel_rfl)
theorem entryParses_card : Rows.EntryParsesCardSaid :=
  Claim7.holds_tied_plain_at .later [] _ _ _ _ saidEP (fun _ h => by cases h) (by kernel_rfl) (fun _ h => by cases h) entryParses_row_tie rfl ⟨rfl, rfl⟩ (by kernel_rfl) rfl plainEP (by kernel_rfl)
#print axioms entryParses_card
end Go.Proofs.YtoopoglkeeoamaaGreatDoor
