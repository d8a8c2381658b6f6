/- Part 50 of the proof that identitylaw11.IndexNil returns true at every entry, name and filter: the package variables hold what the program lays; nothing else is asked. -/
import Derived.Test.YtgjllfonmgfhgaaGreatDoorInl42
import Derived.Test.YtgjllfonmgfhgaaGreatDoorInl49
import Derived.ChangeMaps5
set_option linter.unusedVariables false
set_option linter.unusedSimpArgs false
/- IndexNil: the contract as the row asks it, the statement, the card. -/
namespace Go.Proofs.YtgjllfonmgfhgaaGreatDoor
open Go.RowKit Go.Sort Go.Shelf Go.ChangeShapes Go.WideShapes Go.ChangeAt Go.ChangeMaps
theorem laid_eqIN : Rows.indexNilRow.laid = laidL := by
  unfold laidL
  rw [← pow_eq, ← acc_eq, ← first_eq, ← case_eq]
  rfl
set_option maxRecDepth 100000 in
theorem cIN_contract (F : Stop.Interp) (H : Type) (enc : TypeId × Value → H) (W : World) (base : Nat) (args : Array Value) (ds gs : List (DataW H)) (before : List MemPlace)
    (hval : ∀ (j : Nat) t v, Tryz.f7.params[j]? = some t → args[j]? = some v → Value.okWide Tryz.prog W .any base t v)
    (hW : DataW.Whole enc Tryz.prog Tryz.f7.params.toList Rows.indexNilSpec.vars false W args.toList ds gs before) (hL : laidMet Tryz.prog laidL W) (hsh : W.ShapedOpen Tryz.prog) :
    Calls Tryz.prog 7 args W fun e W' => ∃ v, e = .returned v ∧ ((OpenSpec.ofChange Rows.indexNilSpec).at F).post enc Tryz.prog Tryz.f7 false true false false W args v W' := by
  have hW' := hW
  obtain ⟨p, q, hA0, hV0, rfl, _, _⟩ := hW
  have hA : DataW.TrodAll enc Tryz.prog W 0 (fun _ => true) true Tryz.f7.params.toList args.toList ds p := hA0
  rw [Tryz.params7] at hA hval
  obtain ⟨v0, v1, v2, d0, d1, d2, p0, p1, p2, rfl, rfl, rfl, h0, h1, h2⟩ := trodAll_three hA
  obtain ⟨rfl, rfl⟩ := trodVars_none hV0
  obtain ⟨n0, a0, l0, rfl, hA1, hl0, hn0⟩ := entry_open8 (hval 0 41 v0 rfl rfl) h0
  obtain ⟨s1, rfl, _, _, hn1⟩ := open_string Tryz.underlying9 (hval 1 9 v1 rfl rfl) h1
  obtain ⟨d2f, f2, hF2, hl2⟩ := filter_open (hval 2 56 v2 rfl rfl) h2
  clear hA0 hV0 hval
  simp only [List.append_nil, List.append_assoc] at hW'
  have hlt : ∀ x ∈ p0 ++ (p1 ++ p2), x.block < W.heap.size := fun x hx => by simpa using hW'.lt x (by simpa using hx)
  obtain ⟨hE, hU⟩ := env_of hL hsh
  refine (indexNil_any n0 a0 l0 s1 d2f v2 f2 W hA1 hl0 hn0 (by unfold maxLen at hn1; omega) hF2 hl2 hE hU).mono ?_
  rintro e W' ⟨rfl, bel⟩
  have e1 : ((OpenSpec.ofChange Rows.indexNilSpec).at F).fn H ([d0, d1, d2] ++ []) = { results := [.lit (.bool true)], args := [d0, d1, d2] } := rfl
  refine ⟨_, rfl, _, _, _, [], (p0 ++ (p1 ++ p2)), [], hW', ?_, ?_, ?_, bel.frame _, fun h => by cases h⟩
  · rw [e1]; exact trodAll_mk1 (shut_bool Tryz.underlying4 _)
  · rw [e1]; exact trodAll_mk3 (Below.trod laidOut (by kernel_rfl) (of_decide_eq_true (by kernel_rfl)) h0 bel (fun x hx => hlt x (List.mem_append_left _ hx))) (Below.trod laidOut (by kernel_rfl) (of_decide_eq_true (by kernel_rfl)) h1 bel (fun x hx => hlt x (List.mem_append_right _ (List.mem_append_left _ hx)))) (Below.trod laidOut (by kernel_rfl) (of_decide_eq_true (by kernel_rfl)) h2 bel (fun x hx => hlt x (List.mem_append_right _ (List.mem_append_right _ hx))))
  · rw [e1]; rfl
theorem noHandleIN {W : World} (h : laidMetH Tryz.prog Rows.indexNilRow.laid W) : laidMet Tryz.prog laidL W := by
  have e : (Rows.indexNilRow.laid.filter fun x => x.2.handleName?.isSome) = [] := by kernel_rfl
  unfold laidMetH at h
  rw [e] at h
  rw [← laid_eqIN]
  exact h
theorem laid_metIN (os : Os) (args : Array Value) : laidMet Tryz.prog Rows.indexNilRow.laid ((laidWorld os).forCall (fun _ _ => 0) ⟨#[], args, []⟩).memory := by
  rw [laid_eqIN]
  exact laid_metW os args
theorem witness_rowIN (os : Os) {H : Type} (enc : TypeId × Value → H) :
    (OpenSpec.ofChange Rows.indexNilSpec).preRow enc Tryz.prog Tryz.f7 Rows.indexNilRow.domain false Rows.indexNilRow.laid ((laidWorld os).forCall (fun _ _ => 0) ⟨#[], #[.agg #[.string ⟨#[]⟩, .slice none 0 0], .string ⟨#[]⟩, .agg #[.int .i64 0, .string ⟨#[]⟩, .string ⟨#[]⟩, .slice none 0 0, .slice none 0 0]], []⟩).memory #[.agg #[.string ⟨#[]⟩, .slice none 0 0], .string ⟨#[]⟩, .agg #[.int .i64 0, .string ⟨#[]⟩, .string ⟨#[]⟩, .slice none 0 0, .slice none 0 0]] := by
  have hw : (DataW.whole enc Tryz.prog ((laidWorld os).forCall (fun _ _ => 0) ⟨#[], #[.agg #[.string ⟨#[]⟩, .slice none 0 0], .string ⟨#[]⟩, .agg #[.int .i64 0, .string ⟨#[]⟩, .string ⟨#[]⟩, .slice none 0 0, .slice none 0 0]], []⟩).memory Tryz.f7.params.toList (OpenSpec.ofChange Rows.indexNilSpec).vars false #[Value.agg #[.string ⟨#[]⟩, .slice none 0 0], .string ⟨#[]⟩, .agg #[.int .i64 0, .string ⟨#[]⟩, .string ⟨#[]⟩, .slice none 0 0, .slice none 0 0]].toList 8).map (fun x => (x.1, x.2.1)) =
      some ([.agg [.lit (.string []), .nil], .lit (.string []), .agg [.lit (.int .i64 0), .lit (.string []), .lit (.string []), .nil, .nil]], []) := by kernel_rfl
  obtain ⟨⟨x1, x2, x3⟩, hx, hx1⟩ := Option.map_eq_some_iff.1 hw
  simp only [Prod.mk.injEq] at hx1
  obtain ⟨rfl, rfl⟩ := hx1
  exact OpenSpec.preRow_of_cond 8 hx (by kernel_rfl) (fun k hk => by cases hk) (by kernel_rfl) (laid_metIN os _)
set_option maxRecDepth 100000 in
theorem liftedIN (os : Os) (started : os.Started) (H : Type) (enc : TypeId × Value → H) (F : Stop.Interp) :
    ReturnsInHanded {} Tryz.checked os 7 .any ((OpenSpec.ofChange Rows.indexNilSpec).preRow enc Tryz.prog Tryz.f7 Rows.indexNilRow.domain false Rows.indexNilRow.laid) (((OpenSpec.ofChange Rows.indexNilSpec).at F).post enc Tryz.prog Tryz.f7 false true false false) := by
  refine returnsInHanded_of_row (C := Tryz.checked) (s := (OpenSpec.ofChange Rows.indexNilSpec)) own started (by kernel_rfl) Tryz.func7
    (witness_row_atRef (enc := enc) (C := Tryz.checked) false (laidWorld os) #[.agg #[.string ⟨#[]⟩, .slice none 0 0], .string ⟨#[]⟩, .agg #[.int .i64 0, .string ⟨#[]⟩, .string ⟨#[]⟩, .slice none 0 0, .slice none 0 0]] rfl (by kernel_rfl) (by kernel_rfl) (by kernel_rfl) (witness_rowIN os enc)) ?_
  intro W base args ds gs before hval hW _ _ _ hL hsh _
  exact cIN_contract F H enc W base args ds gs before hval hW (noHandleIN hL) hsh
end Go.Proofs.YtgjllfonmgfhgaaGreatDoor
/- IndexNil: the statement. -/
namespace Go.Proofs.YtgjllfonmgfhgaaGreatDoor
open Go.RowKit Go.Sort Go.Shelf Go.ChangeShapes Go.WideShapes Go.ChangeAt Go.ChangeMaps
set_option maxHeartbeats 8000000 in
theorem closedIN : joinedFacts Tryz.pinned.checked.prog 7 Tryz.f7 (OpenSpec.ofChange Rows.indexNilSpec).bare Rows.indexNilRow = true := by
  unfold joinedFacts
  simp only [Bool.and_eq_true]
  repeat' with_reducible apply And.intro
  all_goals (as_aux_lemma => kernel_rfl)
theorem saidIN : Rows.IndexNilSaid :=
  OpenClaim.holds_of_cond 7 Tryz.f7 rfl rfl rfl rfl rfl rfl rfl ⟨rfl, rfl, rfl, rfl, rfl⟩ rfl rfl rfl rfl rfl (by kernel_rfl) Tryz.func7 closedIN
    (of_decide_eq_true (by kernel_rfl)) (by unfold Func.isWrapper; first | (rw [if_pos (by decide +kernel)]; kernel_rfl) | (rw [if_neg (by decide +kernel)]; exact ⟨rfl, rfl⟩))
    (fun os started H enc _ F => by rw [OpenClaim.pre_eq_preRow]; exact liftedIN os started H enc F)
end Go.Proofs.YtgjllfonmgfhgaaGreatDoor
/- IndexNil: the card. -/
namespace Go.Proofs.YtgjllfonmgfhgaaGreatDoor
open Go.RowKit Go.Sort Go.Shelf Go.ChangeShapes Go.WideShapes Go.ChangeAt Go.ChangeMaps
theorem plainIN (f : FuncId) (fn : Func) (hf : Tryz.pinned.checked.prog.funcNamed "identity/identitylaw11.IndexNil" = some f) (hfn : Tryz.pinned.checked.prog.funcs[f]? = some fn) :
    true = Tryz.pinned.checked.prog.looks [] ∧ ∀ (j : Nat) t, fn.params[j]? = some t → Tryz.pinned.checked.prog.wantsStandIn t = false := by
  obtain rfl : f = 7 := Option.some.inj ((show Tryz.prog.funcNamed "identity/identitylaw11.IndexNil" = some 7 by kernel_rfl).symm.trans hf) |>.symm
  obtain rfl : fn = Tryz.f7 := (Option.some.inj (Tryz.func7.symm.trans hfn)).symm
  refine ⟨by kernel_rfl, fun j t ht => ?_⟩
  rw [Tryz.params7] at ht
  have hm := Array.mem_of_getElem? ht
  simp at hm
  rcases hm with rfl | rfl | rfl
  · exact (show Tryz.prog.wantsStandIn 41 = false by kernel_rfl)
  · exact (show Tryz.prog.wantsStandIn 9 = false by kernel_rfl)
  · exact (show Tryz.prog.wantsStandIn 56 = false by kernel_rfl)
theorem indexNil_card : Rows.IndexNilCardSaid :=
  Claim7.holds_tied_plain_at .later [] _ _ _ _ saidIN (fun _ h => by cases h) (by kernel_rfl) (fun _ h => by cases h) indexNil_row_tie rfl ⟨rfl, rfl⟩ (by kernel_rfl) rfl plainIN (by kernel_rfl)
#print axioms indexNil_card
end Go.Proofs.YtgjllfonmgfhgaaGreatDoor
