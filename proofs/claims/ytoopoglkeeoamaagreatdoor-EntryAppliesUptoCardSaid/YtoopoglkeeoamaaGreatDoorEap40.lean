/- Part 40 of the proof that identitylaw08.EntryApplies returns true: the package variables hold what the program lays; nothing else is asked. -/
import Derived.Test.YtoopoglkeeoamaaGreatDoorEap05
import Derived.Test.YtoopoglkeeoamaaGreatDoorEap08
set_option linter.unusedVariables false
set_option linter.unusedSimpArgs false
set_option maxRecDepth 100000
set_option maxHeartbeats 8000000
/- fold.Lower, with what it draws; worlds behind draws and new blocks. -/
namespace Go.Proofs.YtoopoglkeeoamaaGreatDoor
open Go.RowKit Go.Sort
open Idn (L B Bs drop_L take_L size_L)
theorem grown_form {w w' : World} (hb : Below w.heap.size w w') (hd : w.drawn ≤ w'.drawn) : ∃ q os, w' = grow (w.drewN q) os := by
 obtain ⟨⟨d, os⟩, rfl⟩ := regrown_of_below hb
 refine ⟨d - w.drawn, os, ?_⟩
 have hd' : w.drawn ≤ d := hd
 have e : w.drawn + (d - w.drawn) = d := by omega
 show grow (redrawn w d) os = grow { w with drawn := w.drawn + (d - w.drawn) } os
 rw [e]; rfl
theorem wp_region_quiet_drew {P : Program} {id : Nat} {Q : Exit → Act → World → Prop} {a : Act} {w : World} {l : List Oper} (hm : P.follows .mixedOrders = true) (hB : Region.lexB .any l.toArray = true)
  (h : wpQuiet P l.toArray (fun w' => ∃ p : Regrown, w' = grow (w.drewN p.d) p.os) (fun a' => ∀ w', (∃ p : Regrown, w' = grow (w.drewN p.d) p.os) → Q .normal a' w') l a) : (Code.region id l.toArray true).wp P Q a w :=
 wp_region_quiet (C := fun w' => ∃ p : Regrown, w' = grow (w.drewN p.d) p.os) hm hB ⟨⟨1, #[]⟩, by rw [grow_empty]; rfl⟩ (by simpa using h)
theorem below_drewn (w : World) (d : Nat) (os : Array Obj) : Below w.heap.size w (grow (w.drewN d) os) := below_regrown w (w.drawn + d) os
theorem cell_drewn {w : World} {a : Addr} {v : Value} (h : w.cell? a = some v) (d : Nat) (os : Array Obj) : (grow (w.drewN d) os).cell? a = some v := cell_regrown h (w.drawn + d) os
theorem calls_drewn {P : Program} {f : FuncId} {args : Array Value} {w : World} {d : Nat} {os : Array Obj} {v : Value}
  (h : Calls P f args (grow (w.drewN d) os) fun e w' => e = .returned v ∧ Below (grow (w.drewN d) os).heap.size (grow (w.drewN d) os) w' ∧ (grow (w.drewN d) os).drawn ≤ w'.drawn) : Calls P f args (grow (w.drewN d) os) fun e w'' => e = .returned v ∧ ∃ p : Regrown, w'' = grow (w.drewN p.d) p.os :=
 h.mono fun _ _ ⟨he, hb, hd⟩ => by
  obtain ⟨q, os', e⟩ := grown_form hb hd
  refine ⟨he, ⟨d + q, os ++ os'⟩, ?_⟩
  rw [e]
  have e1 : (grow (w.drewN d) os).drewN q = grow (w.drewN (d + q)) os := by
   show (⟨_, _, _, _, _⟩ : World) = ⟨_, _, _, _, _⟩
   simp [grow, World.drewN, Nat.add_assoc]
  rw [e1, grow_grow]
theorem gen2D {R : World → Prop} {w : World} {C1 C2 : Array Value} {t1 t2 : TypeId}
  (h : ∀ W, Below w.heap.size w W → w.drawn = W.drawn → (∀ (i : Nat) (v : Value), C1[i]? = some v → W.cell? ⟨w.heap.size, i, none⟩ = some v) → (∀ (i : Nat) (v : Value), C2[i]? = some v → W.cell? ⟨w.heap.size + 1, i, none⟩ = some v) → R W) : R ((w.alloc (.cells C1 t1)).alloc (.cells C2 t2)) :=
 gen2 (R := fun W => w.drawn = W.drawn → R W) (fun W hb _ h1 h2 hd => h W hb hd h1 h2) rfl
theorem wpList_bytesD {P : Program} (w : World) {ops : Array Oper} {rest : List Oper} {o : Oper} {a : Act} {Q : Exit → Act → World → Prop} (hg : o.guard = none) (x : Operand) (src dst e : TypeId) (ho : o.op = .convert src dst x) (hs : P.underlying src = some .string) (hd : P.underlying dst = some (.slice e)) (he : P.underlying e = some (.int .u8))
  (s : ByteArray) (hx : a.eval x = .string s)
  (hK : ∀ w' cap, ByteRow w' e w.heap.size (L s) → Below w.heap.size w w' → w.heap.size < w'.heap.size → w.drawn ≤ w'.drawn → wpList P ops Q rest (a.put o.dst (.slice (some ⟨w.heap.size, 0, none⟩) s.size cap)) w') :
  wpList P ops Q (o :: rest) a w := by
 refine wpList_plain hg fun K' hK' => ?_
 have hrun := Lib.run_convert_string_bytes (P := P) w src dst e s hs hd he
 unfold Oper.wp execOp
 simp only [ho, hx, Sem.run_bind, hrun, Result.andThen_ok, Sem.run_pure]
 refine hK' _ _ (hK _ _ ?_ ?_ ?_ ?_)
 ·have hsz : s.size ≤ (Lib.bytesCells w e s).size := by
   show s.data.size ≤ _
   unfold Lib.bytesCells
   rw [Array.size_append, Array.size_map]
   exact Nat.le_add_right _ _
  refine ⟨_, _, _, Lib.bytesWorld_at_new w e s, hsz, hsz, ?_⟩
  intro i x hi
  have hl : i < s.data.size := by
   have := (List.getElem?_eq_some_iff.1 hi).1
   simpa [L] using this
  have hxi : s.data[i] = x := by
   have h := (List.getElem?_eq_some_iff.1 hi).2
   simpa [L] using h
  unfold Lib.bytesCells
  rw [Array.getElem?_append_left (by rw [Array.size_map]; exact hl), Array.getElem?_map, Array.getElem?_eq_getElem hl, hxi]
  rfl
 ·refine ⟨?_, ?_, ?_, by rw [Lib.bytesWorld_size]; omega, fun k hk => Lib.bytesWorld_at_old w e s k hk⟩ <;> (unfold Lib.bytesWorld World.freeze; rw [if_neg (by decide)]; rfl)
 ·rw [Lib.bytesWorld_size]; omega
 ·unfold Lib.bytesWorld World.freeze; rw [if_neg (by decide)]; exact Nat.le_succ _
theorem lowerD_any (s : ByteArray) (w : World) (hs : s.size ≤ 1000000000000) :
  Calls Tryz.prog 49 #[.string s] w fun e w' => e = .returned (.string (B (Idn.lower (L s)))) ∧ Below w.heap.size w w' ∧ w.drawn ≤ w'.drawn := by
 go_enter Tryz.func49, Tryz.ntmps49
 go_wp2_with (with_reducible refine wpList_bytesD _ rfl _ 9 81 5 rfl Tryz.underlying9 Tryz.underlying81 Tryz.underlying5 s rfl ?_)
 intro w1 cap hrow hb1 hlt1 hdr1
 have hd1 := Lib.hid hdr1
 clear hdr1
 go_wp2
 go_loopw [4, 9] (fun _ i wr => ∃ k : Nat, k ≤ s.size ∧ i = .int .i64 k ∧ ByteRow wr 5 w.heap.size (Idn.lower ((L s).take k) ++ (L s).drop k) ∧ Below w.heap.size w wr ∧ Hid (w.drawn ≤ wr.drawn)) (fun _ i _ => s.size - (intOf i).toNat)
 case atStart => exact ⟨0, Nat.zero_le _, rfl, by simpa [Idn.lower] using hrow, hb1, hd1⟩
 case round =>
  obtain ⟨k, hk, rfl, hr, hb, hdr⟩ := hrel
  by_cases hlt : k < s.size
  ·have hc := hr.cell (lower_mid s k hlt)
   have hf := hr.frozen (i := k) (by rw [lower_len]; exact hlt)
   simp only [bc] at hc
   have hU := upper_any s[k] wr
   cases hu : Idn.up s[k]
   ·rw [hu] at hU
    clear hrow hb1
    go_wp2_with (go_at_call 96; refine hU.mono ?_; rintro e w' ⟨rfl, rfl⟩)
    go_roundw
    case rel => exact ⟨k + 1, by omega, by go_num, by rw [lower_no s k hlt hu]; exact hr, hb, hdr⟩
    case measure => simp [intOf]; omega
   ·rw [hu] at hU
    clear hrow hb1
    go_wp2_with (go_at_call 96; refine hU.mono ?_; rintro e w' ⟨rfl, rfl⟩)
    go_roundw
    case rel =>
     have hrr := hr.set k (s[k] + 32)
     rw [← lower_yes s k hlt hu] at hrr
     have e8 : bc (s[k] + 32) = Value.int .u8 (IntKind.u8.wrap ((s[k].toNat : Int) + 32)) := add32 _
     rw [e8] at hrr
     refine ⟨k + 1, by omega, by go_num, hrr, hb.setCell (p := ⟨w.heap.size, k, none⟩) (Nat.le_refl _) _, hdr⟩
    case measure => simp [intOf]; omega
  ·go_wp2_with (with_reducible refine wpList_str_row _ rfl _ 81 9 5 rfl Tryz.underlying81 Tryz.underlying9 Tryz.underlying5 w.heap.size s.size cap _ rfl ?_ hr ?_)
   ·rw [lower_len]
   ·go_wp2
    go_ret
    refine ⟨ret_str (congrArg B ?_), hb, hdr.out⟩
    have e1 : (L s).take k = L s := List.take_of_length_le (by have := size_L s; omega)
    have e2 : (L s).drop k = [] := List.drop_eq_nil_of_le (by have := size_L s; omega)
    rw [e1, e2, List.append_nil]
end Go.Proofs.YtoopoglkeeoamaaGreatDoor
