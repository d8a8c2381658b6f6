/- Part 50 of the proof that the statements of identitylaw09 on matching hold at all arguments: the package variables hold what the program lays; nothing else is asked. -/
import Derived.Test.YtmamnmjfbadiiaaGreatDoorFz44
import Derived.Test.YtmamnmjfbadiiaaGreatDoorFz49
set_option linter.unusedVariables false
set_option linter.unusedSimpArgs false
set_option maxRecDepth 100000
set_option maxHeartbeats 16000000
/- law09: FilterMatches. -/
namespace Go.Proofs.YtmamnmjfbadiiaaGreatDoor
open Go.RowKit Go.Sort
open Idn (L B Bs drop_L take_L size_L)
theorem filterMatches_any (u : Value) (s : Idn.Sch) (d : Nat) (v : Value) (f : Flt) (nm : ByteArray) (av : Value) (A : List Idn.Att) (w : World) (hu : SchV w w.heap.size u s) (hsl : SLen s) (hv : FltV w w.heap.size d v f) (hl : fLen f) (ha : AttsV w w.heap.size av A) (hal : ALen8 A) (hn : nm.size ≤ 9223372036854775807) (hE : Env w) (hU : EnvU w) :
  Calls Tryz.prog 5 #[u, v, .agg #[.string nm, av]] w fun e w' => e = .returned (.bool true) ∧ Below w.heap.size w w' := by
 have kW := fun W (hW : Below w.heap.size w W) => wide_any u s W (SchV.mono (SchV.keep hu hW) hW.size) hsl
 have kR := fun W (hW : Below w.heap.size w W) => rich_any nm av A W (AttsV.mono (AttsV.keep ha hW) hW.size) hal hn
 have kG := fun W (hW : Below w.heap.size w W) => r9_Great_any d v f 80 W (hv.on hW) hl (by decide)
 have kL := fun W (hW : Below w.heap.size w W) => live9_any W (hE.keep hW) (hU.keep hW)
 have k1 := fun (hs : SSm s) (hA : AGet A) (hf : FSm 1000 f) W (hW : Below w.heap.size w W) => fMatch_any d u s v f nm av A W (SchV.mono (SchV.keep hu hW) hW.size) hs (hE.keep hW) (hU.keep hW) (AttsV.mono (AttsV.keep ha hW) hW.size) hA (hv.on hW) hf
 have k2 := fun (hs : SSm s) (hA : AGet A) (hf : FSm 1000 f) W (hW : Below w.heap.size w W) => r9_Match_any d u s v f nm av A W (SchV.mono (SchV.keep hu hW) hW.size) hs (AttsV.mono (AttsV.keep ha hW) hW.size) hA (hv.on hW) hf
 obtain ⟨Ap, cp, Ak, ck, rfl, hp, hk⟩ := hv.shape
 obtain ⟨sa, sb, rfl, hT, hC⟩ := hu
 obtain ⟨A1, c1, rfl, _⟩ := SlV.shape hT
 obtain ⟨A2, c2, rfl, _⟩ := SlV.shape hC
 obtain ⟨A3, c3, rfl, _⟩ := SlV.shape ha
 clear hp hk hv hT hC ha hE hU hl hsl hal
 go_enter Tryz.func5, Tryz.ntmps5
 go_upto_region 1 with fail
 with_reducible refine gen3 (R := fun W => Code.wp Tryz.prog _ _ _ W) ?_
 intro W hbW hszW hc1 hc2 hc3 _
 have s0 : W.cell? ⟨w.heap.size, 0, none⟩ = some (.slice A1 s.types.length c1) := hc1 0 _ rfl
 have s1 : W.cell? ⟨w.heap.size, 1, none⟩ = some (.slice A2 s.classes.length c2) := hc1 1 _ rfl
 have b0 : W.cell? ⟨w.heap.size + 1, 0, none⟩ = some (.int .i64 f.kind) := hc2 0 _ rfl
 have b1 : W.cell? ⟨w.heap.size + 1, 1, none⟩ = some (.string (B f.name)) := hc2 1 _ rfl
 have b2 : W.cell? ⟨w.heap.size + 1, 2, none⟩ = some (.string (B f.value)) := hc2 2 _ rfl
 have b3 : W.cell? ⟨w.heap.size + 1, 3, none⟩ = some (.slice Ap f.parts.length cp) := hc2 3 _ rfl
 have b4 : W.cell? ⟨w.heap.size + 1, 4, none⟩ = some (.slice Ak f.kids.length ck) := hc2 4 _ rfl
 have e0 : W.cell? ⟨w.heap.size + 1 + 1, 0, none⟩ = some (.string nm) := hc3 0 _ rfl
 have e1 : W.cell? ⟨w.heap.size + 1 + 1, 1, none⟩ = some (.slice A3 A.length c3) := hc3 1 _ rfl
 clear hc1 hc2 hc3 hszW
 go_wp2_with fail
 refine (kW W hbW).mono ?_
 rintro e w1 ⟨r1, rfl, hr1, hb1⟩
 replace s0 := cell_later hb1 s0
 replace s1 := cell_later hb1 s1
 replace b0 := cell_later hb1 b0
 replace b1 := cell_later hb1 b1
 replace b2 := cell_later hb1 b2
 replace b3 := cell_later hb1 b3
 replace b4 := cell_later hb1 b4
 replace e0 := cell_later hb1 e0
 replace e1 := cell_later hb1 e1
 have hbw1 := hbW.trans (hb1.mono hbW.size)
 have H1 := Lib.hid hr1
 clear kW hb1 hr1 hbW
 cases r1
 case true =>
  clear kR kG k1 k2 H1 s0 s1 b0 b1 b2 b3 b4 e0 e1
  go_wp2_with fail
  refine (kL w1 hbw1).mono ?_
  rintro e w2 ⟨rfl, hb2⟩
  go_wp2_with fail
  go_ret
  exact ⟨rfl, hbw1.trans (hb2.mono hbw1.size)⟩
 have G1 := Lib.hid (H1.out rfl)
 clear H1
 go_wp2_with fail
 refine (kR w1 hbw1).mono ?_
 rintro e w2 ⟨r2, rfl, hr2, hb2⟩
 replace s0 := cell_later hb2 s0
 replace s1 := cell_later hb2 s1
 replace b0 := cell_later hb2 b0
 replace b1 := cell_later hb2 b1
 replace b2 := cell_later hb2 b2
 replace b3 := cell_later hb2 b3
 replace b4 := cell_later hb2 b4
 replace e0 := cell_later hb2 e0
 replace e1 := cell_later hb2 e1
 have hbw2 := hbw1.trans (hb2.mono hbw1.size)
 have H2 := Lib.hid hr2
 clear kR hb2 hr2 hbw1
 cases r2
 case true =>
  clear kG k1 k2 H2 G1 s0 s1 b0 b1 b2 b3 b4 e0 e1
  go_wp2_with fail
  refine (kL w2 hbw2).mono ?_
  rintro e w3 ⟨rfl, hb3⟩
  go_wp2_with fail
  go_ret
  exact ⟨rfl, hbw2.trans (hb3.mono hbw2.size)⟩
 have G2 := Lib.hid (H2.out rfl)
 clear H2
 go_wp2_with fail
 refine (kG w2 hbw2).mono ?_
 rintro e w3 ⟨r3, rfl, hr3, hb3⟩
 replace s0 := cell_later hb3 s0
 replace s1 := cell_later hb3 s1
 replace b0 := cell_later hb3 b0
 replace b1 := cell_later hb3 b1
 replace b2 := cell_later hb3 b2
 replace b3 := cell_later hb3 b3
 replace b4 := cell_later hb3 b4
 replace e0 := cell_later hb3 e0
 replace e1 := cell_later hb3 e1
 have hb := hbw2.trans (hb3.mono hbw2.size)
 have H3 := Lib.hid hr3
 clear kG hb3 hr3 hbw2
 cases r3
 case true =>
  clear k1 k2 H3 G1 G2 s0 s1 b0 b1 b2 b3 b4 e0 e1
  go_wp2_with fail
  refine (kL w3 hb).mono ?_
  rintro e w4 ⟨rfl, hb4⟩
  go_wp2_with fail
  go_ret
  exact ⟨rfl, hb.trans (hb4.mono hb.size)⟩
 have hf : FSm 1000 f := (H3.out rfl).up (by decide)
 replace k1 := k1 G1.out G2.out hf
 replace k2 := k2 G1.out G2.out hf
 clear hf G1 G2 H3
 generalize fMatch s A f = m at *
 have t1 : (m == m) = true := beq_self_eq_true m
 have q1 := cq (W := w3) fun V hV => k1 V (hb.trans (hV.mono hb.size))
 have q2 := cq (W := w3) fun V hV => k2 V (hb.trans (hV.mono hb.size))
 have q3 := cq (W := w3) fun V hV => kL V (hb.trans (hV.mono hb.size))
 have i0 := cell_regrown s0
 have i1 := cell_regrown s1
 have i2 := cell_regrown b0
 have i3 := cell_regrown b1
 have i4 := cell_regrown b2
 have i5 := cell_regrown b3
 have i6 := cell_regrown b4
 have i7 := cell_regrown e0
 have i8 := cell_regrown e1
 clear k1 k2 kL s0 s1 b0 b1 b2 b3 b4 e0 e1
 go_wp2_with fail
 refine wp_region_quiet_below (by kernel_rfl) (by kernel_rfl) ?_
 repeat (first | go_big_quiet_step ((first | (go_at_call 22; exact q1 _ _) | (go_at_call 23; exact q2 _ _) | (go_at_call 11; exact q3 _ _))) | quiet_step ((first | (go_at_call 22; exact q1 _ _) | (go_at_call 23; exact q2 _ _) | (go_at_call 11; exact q3 _ _))))
 refine wpQuiet_nil ?_
 intro _ hw'
 obtain ⟨⟨dq, osq⟩, hw''⟩ := hw'
 subst hw''
 have hb4 := below_regrown w3 dq osq
 generalize grow (redrawn w3 dq) osq = W4 at hb4 ⊢
 go_wp2_with fail
 go_ret
 exact ⟨rfl, hb.trans (hb4.mono hb.size)⟩
end Go.Proofs.YtmamnmjfbadiiaaGreatDoor
/- FilterMatches: the contract as the row asks it, the statement, the card. -/
namespace Go.Proofs.YtmamnmjfbadiiaaGreatDoor
open Go.RowKit Go.Sort Go.Shelf Go.ChangeShapes Go.WideShapes Go.ChangeAt Go.ChangeMaps
theorem laid_eqFM : Rows.filterMatchesRow.laid = laidL := by
 unfold laidL
 rw [← pow_eq, ← acc_eq, ← first_eq, ← case_eq]
 rfl
theorem cFM_contract (F : Stop.Interp) (H : Type) (enc : TypeId × Value → H) (W : World) (base : Nat) (args : Array Value) (ds gs : List (DataW H)) (before : List MemPlace)
  (hval : ∀ (j : Nat) t v, Tryz.f5.params[j]? = some t → args[j]? = some v → Value.okWide Tryz.prog W .any base t v)
  (hW : DataW.Whole enc Tryz.prog Tryz.f5.params.toList Rows.filterMatchesSpec.vars false W args.toList ds gs before) (hL : laidMet Tryz.prog laidL W) (hsh : W.ShapedOpen Tryz.prog) :
  Calls Tryz.prog 5 args W fun e W' => ∃ v, e = .returned v ∧ ((OpenSpec.ofChange Rows.filterMatchesSpec).at F).post enc Tryz.prog Tryz.f5 false true false false W args v W' := by
 have hW' := hW
 obtain ⟨p, q, hA0, hV0, rfl, _, _⟩ := hW
 have hA : DataW.TrodAll enc Tryz.prog W 0 (fun _ => true) true Tryz.f5.params.toList args.toList ds p := hA0
 rw [Tryz.params5] at hA hval
 obtain ⟨v0, v1, v2, d0, d1, d2, p0, p1, p2, rfl, rfl, rfl, h0, h1, h2⟩ := trodAll_three hA
 obtain ⟨rfl, rfl⟩ := trodVars_none hV0
 obtain ⟨n2, a2, l2, rfl, hA3, hl2, hn2⟩ := entry_open8 (hval 2 44 v2 rfl rfl) h2
 obtain ⟨s0, hS0, hl0⟩ := schema_open (hval 0 41 v0 rfl rfl) h0
 obtain ⟨d1f, f1, hF1, hl1⟩ := filter_open (hval 1 26 v1 rfl rfl) h1
 clear hA0 hV0 hval
 simp only [List.append_nil, List.append_assoc] at hW'
 have hlt : ∀ x ∈ p0 ++ (p1 ++ p2), x.block < W.heap.size := fun x hx => by simpa using hW'.lt x (by simpa using hx)
 obtain ⟨hE, hU⟩ := env_of hL hsh
 refine (filterMatches_any v0 s0 d1f v1 f1 n2 a2 l2 W hS0 hl0 hF1 hl1 hA3 hl2 hn2 hE hU).mono ?_
 rintro e W' ⟨rfl, bel⟩
 have e1 : ((OpenSpec.ofChange Rows.filterMatchesSpec).at F).fn H ([d0, d1, d2] ++ []) = { results := [.lit (.bool true)], args := [d0, d1, d2] } := rfl
 refine ⟨_, rfl, _, _, _, [], (p0 ++ (p1 ++ p2)), [], hW', ?_, ?_, ?_, bel.frame _, fun h => by cases h⟩
 ·rw [e1]; exact trodAll_mk1 (shut_bool Tryz.underlying4 _)
 ·rw [e1]; exact trodAll_mk3 (Below.trod laidOut (by kernel_rfl) (of_decide_eq_true (by kernel_rfl)) h0 bel (fun x hx => hlt x (List.mem_append_left _ hx))) (Below.trod laidOut (by kernel_rfl) (of_decide_eq_true (by kernel_rfl)) h1 bel (fun x hx => hlt x (List.mem_append_right _ (List.mem_append_left _ hx)))) (Below.trod laidOut (by kernel_rfl) (of_decide_eq_true (by kernel_rfl)) h2 bel (fun x hx => hlt x (List.mem_append_right _ (List.mem_append_right _ hx))))
 ·rw [e1]; rfl
theorem noHandleFM {W : World} (h : laidMetH Tryz.prog Rows.filterMatchesRow.laid W) : laidMet Tryz.prog laidL W := by
 have e : (Rows.filterMatchesRow.laid.filter fun x => x.2.handleName?.isSome) = [] := by kernel_rfl
 unfold laidMetH at h
 rw [e] at h
 rw [← laid_eqFM]
 exact h
theorem laid_metFM (os : Os) (args : Array Value) : laidMet Tryz.prog Rows.filterMatchesRow.laid ((laidWorld os).forCall (fun _ _ => 0) ⟨#[], args, []⟩).memory := by
 rw [laid_eqFM]
 exact laid_metW os args
theorem witness_rowFM (os : Os) {H : Type} (enc : TypeId × Value → H) :
  (OpenSpec.ofChange Rows.filterMatchesSpec).preRow enc Tryz.prog Tryz.f5 Rows.filterMatchesRow.domain false Rows.filterMatchesRow.laid ((laidWorld os).forCall (fun _ _ => 0) ⟨#[], #[.agg #[.slice none 0 0, .slice none 0 0], .agg #[.int .i64 0, .string ⟨#[]⟩, .string ⟨#[]⟩, .slice none 0 0, .slice none 0 0], .agg #[.string ⟨#[]⟩, .slice none 0 0]], []⟩).memory #[.agg #[.slice none 0 0, .slice none 0 0], .agg #[.int .i64 0, .string ⟨#[]⟩, .string ⟨#[]⟩, .slice none 0 0, .slice none 0 0], .agg #[.string ⟨#[]⟩, .slice none 0 0]] := by
 have hw : (DataW.whole enc Tryz.prog ((laidWorld os).forCall (fun _ _ => 0) ⟨#[], #[.agg #[.slice none 0 0, .slice none 0 0], .agg #[.int .i64 0, .string ⟨#[]⟩, .string ⟨#[]⟩, .slice none 0 0, .slice none 0 0], .agg #[.string ⟨#[]⟩, .slice none 0 0]], []⟩).memory Tryz.f5.params.toList (OpenSpec.ofChange Rows.filterMatchesSpec).vars false #[Value.agg #[.slice none 0 0, .slice none 0 0], .agg #[.int .i64 0, .string ⟨#[]⟩, .string ⟨#[]⟩, .slice none 0 0, .slice none 0 0], .agg #[.string ⟨#[]⟩, .slice none 0 0]].toList 8).map (fun x => (x.1, x.2.1)) =
   some ([.agg [.nil, .nil], .agg [.lit (.int .i64 0), .lit (.string []), .lit (.string []), .nil, .nil], .agg [.lit (.string []), .nil]], []) := by kernel_rfl
 obtain ⟨⟨x1, x2, x3⟩, hx, hx1⟩ := Option.map_eq_some_iff.1 hw
 simp only [Prod.mk.injEq] at hx1
 obtain ⟨rfl, rfl⟩ := hx1
 exact OpenSpec.preRow_of_cond 8 hx (by kernel_rfl) (fun k hk => by cases hk) (by kernel_rfl) (laid_metFM os _)
theorem liftedFM (os : Os) (started : os.Started) (H : Type) (enc : TypeId × Value → H) (F : Stop.Interp) :
  ReturnsInHanded {} Tryz.checked os 5 .any ((OpenSpec.ofChange Rows.filterMatchesSpec).preRow enc Tryz.prog Tryz.f5 Rows.filterMatchesRow.domain false Rows.filterMatchesRow.laid) (((OpenSpec.ofChange Rows.filterMatchesSpec).at F).post enc Tryz.prog Tryz.f5 false true false false) := by
 refine returnsInHanded_of_row (C := Tryz.checked) (s := (OpenSpec.ofChange Rows.filterMatchesSpec)) own started (by kernel_rfl) Tryz.func5
  (witness_row_atRef (enc := enc) (C := Tryz.checked) false (laidWorld os) #[.agg #[.slice none 0 0, .slice none 0 0], .agg #[.int .i64 0, .string ⟨#[]⟩, .string ⟨#[]⟩, .slice none 0 0, .slice none 0 0], .agg #[.string ⟨#[]⟩, .slice none 0 0]] rfl (by kernel_rfl) (by kernel_rfl) (by kernel_rfl) (witness_rowFM os enc)) ?_
 intro W base args ds gs before hval hW _ _ _ hL hsh _
 exact cFM_contract F H enc W base args ds gs before hval hW (noHandleFM hL) hsh
end Go.Proofs.YtmamnmjfbadiiaaGreatDoor
/- FilterMatches: the statement. -/
namespace Go.Proofs.YtmamnmjfbadiiaaGreatDoor
open Go.RowKit Go.Sort Go.Shelf Go.ChangeShapes Go.WideShapes Go.ChangeAt Go.ChangeMaps
theorem closedFM : joinedFacts Tryz.pinned.checked.prog 5 Tryz.f5 (OpenSpec.ofChange Rows.filterMatchesSpec).bare Rows.filterMatchesRow = true := by
 unfold joinedFacts
 simp only [Bool.and_eq_true]
 repeat' with_reducible apply And.intro
 all_goals (as_aux_lemma => kernel_rfl)
theorem saidFM : Rows.FilterMatchesSaid :=
 OpenClaim.holds_of_cond 5 Tryz.f5 rfl rfl rfl rfl rfl rfl rfl ⟨rfl, rfl, rfl, rfl, rfl⟩ rfl rfl rfl rfl rfl (by kernel_rfl) Tryz.func5 closedFM
  (of_decide_eq_true (by kernel_rfl)) (by unfold Func.isWrapper; first | (rw [if_pos (by decide +kernel)]; kernel_rfl) | (rw [if_neg (by decide +kernel)]; exact ⟨rfl, rfl⟩))
  (fun os started H enc _ F => by rw [OpenClaim.pre_eq_preRow]; exact liftedFM os started H enc F)
end Go.Proofs.YtmamnmjfbadiiaaGreatDoor
/- FilterMatches: the card. -/
namespace Go.Proofs.YtmamnmjfbadiiaaGreatDoor
open Go.RowKit Go.Sort Go.Shelf Go.ChangeShapes Go.WideShapes Go.ChangeAt Go.ChangeMaps
theorem plainFM (f : FuncId) (fn : Func) (hf : Tryz.pinned.checked.prog.funcNamed "identity/identitylaw09.FilterMatches" = some f) (hfn : Tryz.pinned.checked.prog.funcs[f]? = some fn) :
  true = Tryz.pinned.checked.prog.looks [] ∧ ∀ (j : Nat) t, fn.params[j]? = some t → Tryz.pinned.checked.prog.wantsStandIn t = false := by
 obtain rfl : f = 5 := Option.some.inj ((show Tryz.prog.funcNamed "identity/identitylaw09.FilterMatches" = some 5 by kernel_rfl).symm.trans hf) |>.symm
 obtain rfl : fn = Tryz.f5 := (Option.some.inj (Tryz.func5.symm.trans hfn)).symm
 refine ⟨by kernel_rfl, fun j t ht => ?_⟩
 rw [Tryz.params5] at ht
 have hm := Array.mem_of_getElem? ht
 simp at hm
 rcases hm with rfl | rfl | rfl
 ·exact (show Tryz.prog.wantsStandIn 41 = false by kernel_rfl)
 ·exact (show Tryz.prog.wantsStandIn 26 = false by kernel_rfl)
 ·exact (show Tryz.prog.wantsStandIn 44 = false by kernel_rfl)
theorem filterMatches_card : Rows.FilterMatchesCardSaid :=
 Claim7.holds_tied_plain_at .later [] _ _ _ _ saidFM (fun _ h => by cases h) (by kernel_rfl) (fun _ h => by cases h) filterMatches_row_tie rfl ⟨rfl, rfl⟩ (by kernel_rfl) rfl plainFM (by kernel_rfl)
#print axioms filterMatches_card
end Go.Proofs.YtmamnmjfbadiiaaGreatDoor
