/- Part 56 of the proof that the statements of identitylaw09 on matching hold at all arguments: the package variables hold what the program lays; nothing else is asked. -/
import Derived.Test.YtmamnmjfbadiiaaGreatDoorFz29
import Derived.Test.YtmamnmjfbadiiaaGreatDoorFz38
set_option linter.unusedVariables false
set_option linter.unusedSimpArgs false
set_option maxRecDepth 100000
set_option maxHeartbeats 16000000
/- 'append(out, l...)' at filters, l any slice of filters that lies below; slices of slices of filters. -/
namespace Go.Proofs.YtmamnmjfbadiiaaGreatDoor
open Go.RowKit Go.Sort
open Idn (L B Bs drop_L take_L size_L)
theorem flat_of : ∀ (xs : List (List Value)) (j : Nat) (q : Value), (∀ c ∈ xs, c.length = 5) → xs.flatten[j]? = some q → ∃ i k cs, j = i * 5 + k ∧ xs[i]? = some cs ∧ cs[k]? = some q
  | [], j, q, _, h => by simp at h
  | x :: xs, j, q, h5, h => by
    have hx := h5 x List.mem_cons_self
    rw [List.flatten_cons] at h
    by_cases hj : j < x.length
    · rw [List.getElem?_append_left hj] at h
      exact ⟨0, j, x, by omega, rfl, h⟩
    · rw [List.getElem?_append_right (by omega)] at h
      obtain ⟨i, k, cs, h1, h2, h3⟩ := flat_of xs _ q (fun c hc => h5 c (List.mem_cons_of_mem _ hc)) h
      exact ⟨i + 1, k, cs, by omega, by simpa using h2, h3⟩
theorem flat_len5 : ∀ (xs : List (List Value)), (∀ c ∈ xs, c.length = 5) → xs.flatten.length = xs.length * 5
  | [], _ => rfl
  | x :: xs, h => by
    rw [List.flatten_cons, List.length_append, flat_len5 xs fun c hc => h c (List.mem_cons_of_mem _ hc), h x List.mem_cons_self, List.length_cons]
    omega
theorem FltC.ones {w : World} {hi d : Nat} {f : Flt} {cs : List Value} (h : FltC w hi d f cs) : ∀ q ∈ cs, q.oneCell' = true := by
  cases d with
  | zero => exact h.elim
  | succ d =>
    obtain ⟨pv, kv, rfl, h2, h3⟩ := h
    obtain ⟨A1, c1, rfl, _⟩ := SlV.shape h2
    obtain ⟨A2, c2, rfl, _⟩ := SlV.shape h3
    intro q hq
    simp at hq
    rcases hq with rfl | rfl | rfl | rfl | rfl <;> rfl
theorem FltsV.rows {w : World} {hi d : Nat} {A : Option Addr} {n c : Nat} {l : List Flt} (h : FltsV w hi d (.slice A n c) l) (h0 : 0 < l.length) :
  ∃ b off, A = some ⟨b, off, none⟩ ∧ ∃ xs : List (List Value), xs.length = l.length ∧ (∀ c ∈ xs, c.length = 5) ∧ (∀ (i : Nat) f cs, l[i]? = some f → xs[i]? = some cs → FltC w hi d f cs) ∧ ∀ (j : Nat) q, xs.flatten[j]? = some q → w.cell? ⟨b, off + j, none⟩ = some q := by
 obtain ⟨A', c', e, hc, hx⟩ := h
 injection e with e1 e2 e3
 subst e1
 obtain ⟨b, off, hA, hb, hx⟩ := hx h0
 obtain ⟨xs, x1, x2⟩ := exList (fun i (cs : List Value) => ∃ f, l[i]? = some f ∧ cs.length = 5 ∧ FltC w hi d f cs ∧ ∀ (j : Nat) u, cs[j]? = some u → w.cell? ⟨b, off + (i * 5 + j), none⟩ = some u) l.length fun i hi => by
  obtain ⟨cs, h1, h2, h3⟩ := hx i l[i] (List.getElem?_eq_getElem hi)
  exact ⟨cs, l[i], List.getElem?_eq_getElem hi, h1, h2, h3⟩
 have h5 : ∀ c ∈ xs, c.length = 5 := fun c hc => by
  obtain ⟨i, hi⟩ := List.mem_iff_getElem?.1 hc
  obtain ⟨_, _, h, _⟩ := x2 i c hi
  exact h
 refine ⟨b, off, hA, xs, x1, h5, fun i f cs hf hcs => ?_, fun j q hq => ?_⟩
 ·obtain ⟨f', h1, _, h2, _⟩ := x2 i cs hcs
  rw [hf] at h1
  injection h1 with h1
  exact h1 ▸ h2
 ·obtain ⟨i, k, cs, rfl, h2, h3⟩ := flat_of xs j q h5 hq
  obtain ⟨_, _, _, _, h4⟩ := x2 i cs h2
  exact h4 k q h3
theorem run_appendF {X : Nat → Prop} {w : World} (ty : TypeId) (base lo d : Nat) (v u : Value) (l m : List Flt) (hrow : RowF X w base d v l) (hu : FltsV w lo d u m) (hlo : lo ≤ base) (hX : ∀ k, X k → lo ≤ k ∧ k < w.heap.size) (hn : (l.length + m.length) * 89 ≤ 140737488355328) (hbase : base ≤ w.heap.size) :
    ∃ v' w', (Builtin.append_ #[24, 24] ty #[v, u]).run Tryz.prog w = .ok v' w' ∧ RowF X w' base d v' (l ++ m) ∧ w.grownBy w' v.ownBlock ∧ Below base w w' := by
  obtain ⟨xs, x1, x2, x3, x4, x5⟩ := hrow
  obtain ⟨i, hi', hz0, hz1, hz2⟩ := info_parts info_flt
  obtain ⟨A, c, rfl, hc⟩ := SlV.shape hu
  have hlt := x3.lt
  by_cases hl : m.length = 0
  · have hl0 : m = [] := List.eq_nil_of_length_eq_zero hl
    subst hl0
    exact ⟨v, w, run_append_nilsrc (P := Tryz.prog) (w := w) base 24 ty 26 i 5 Tryz.underlying24 hi' v _ _ x3 A c, by rw [List.append_nil]; exact ⟨xs, x1, x2, x3, x4, x5⟩, World.grownBy.refl w _, Below.refl _ _⟩
  · obtain ⟨b, off, hA, ys, y1, y2, y3, y4⟩ := FltsV.rows hu (by omega)
    subst hA
    obtain ⟨v', w', hrun, h2, h3, _, h5⟩ := run_append_own_at (P := Tryz.prog) w base 24 ty 26 i _ 5 88 Tryz.underlying24 hi' hz0 hz1 hz2 rfl (by decide) v l.length xs.flatten x3 ⟨b, off, none⟩ m.length c ys.flatten (by rw [flat_len5 ys y2, y1]) (by
      intro j q hj
      have hadd : (⟨b, off, none⟩ : Addr).add j = ⟨b, off + j, none⟩ := by unfold Addr.add; split <;> simp_all
      rw [hadd]
      exact y4 j q hj) (by
      intro q hq
      obtain ⟨cs, hcs, hqc⟩ := List.mem_flatten.1 hq
      obtain ⟨k, hk⟩ := List.mem_iff_getElem?.1 hcs
      have hkl : k < m.length := by have := (List.getElem?_eq_some_iff.1 hk).1; omega
      exact FltC.ones (y3 k m[k] cs (List.getElem?_eq_getElem hkl) hk) q hqc) (by unfold maxLen; omega) (by omega) hbase
    have hb : Below base w w' := (Below.refl base w).grown h3 hbase fun k hk => (hlt k hk).1
    have hAgr : ∀ V, Agr (fun k => X k ∨ v'.ownBlock = some k) w' V → Agr (fun k => X k ∨ v.ownBlock = some k) w V := fun V hV =>
      ⟨Nat.le_trans h3.size hV.size, fun k hk hx => (hV.block k (Nat.lt_of_lt_of_le hk h3.size) fun h => by
        rcases h with h | h
        · exact hx (.inl h)
        · rcases h5 with e | e
          · exact hx (.inr (e ▸ h))
          · rw [e] at h; injection h with h; omega).trans (h3.block k hk fun e => hx (.inr e.symm))⟩
    refine ⟨v', w', hrun, ⟨xs ++ ys, by simp [x1, y1], fun c hc => ?_, by rw [List.length_append, List.flatten_append]; exact h2, fun k hk hx => ?_, fun i g gs hi hx V hV => ?_⟩, h3, hb⟩
    · rcases List.mem_append.1 hc with hc | hc
      · exact x2 c hc
      · exact y2 c hc
    · rcases h5 with e | e
      · exact x4 k (e ▸ hk) hx
      · rw [e] at hk; injection hk with hk
        have := (hX k hx).2; omega
    · by_cases hil : i < l.length
      · rw [List.getElem?_append_left hil] at hi
        rw [List.getElem?_append_left (by omega)] at hx
        exact x5 i g gs hi hx V (hAgr V hV)
      · rw [List.getElem?_append_right (by omega)] at hi
        rw [List.getElem?_append_right (by omega), x1] at hx
        have hF := y3 _ g gs hi hx
        have hAV := hAgr V hV
        refine FltC.mono (Nat.le_trans (Nat.le_trans hlo hbase) hAV.size) (FltC.keepH (fun k hk => hAV.block k (by omega) fun h => ?_) hF)
        rcases h with h | h
        · have := (hX k h).1; omega
        · have := (hlt k h).1; omega
theorem step_appendF {X : Nat → Prop} {ops : Array Oper} {o : Oper} {a : Act} {w : World} {K : Act → World → Prop} {Q : Exit → Act → World → Prop} {E : Prop}
  (hgd : o.guard = none) (s x : Operand) (ho : o.op = .call { callee := .builtin .append, args := #[s, x], argTypes := #[24, 24] })
  (base lo d : Nat) (v : Value) (l : List Flt) (hrow : RowF X w base d v l) (hs : a.eval s = v) (u : Value) (m : List Flt) (hu : FltsV w lo d u m) (hx : a.eval x = u) (hlo : lo ≤ base) (hX : ∀ k, X k → lo ≤ k ∧ k < w.heap.size)
  (hn : (l.length + m.length) * 89 ≤ 140737488355328) (hbase : base ≤ w.heap.size)
  (hK : ∀ v' w', RowF X w' base d v' (l ++ m) → Below base w w' → K (a.put o.dst v') w') :
  if Region.wanted o (yielded ops a.tmps) = true then Oper.wp Tryz.prog o a w K Q else E := by
 have hw : Region.wanted o (yielded ops a.tmps) = true := by simp [Region.wanted, hgd]
 rw [if_pos hw]
 obtain ⟨v', w', hrun, h1, h2, h3⟩ := run_appendF o.type base lo d v u l m hrow hu hlo hX hn hbase
 unfold Oper.wp execOp
 simp only [ho, resolve, invoke, builtin, Sem.run_bind, Sem.run_pure, Result.andThen_ok, List.map_toArray, List.map_cons, List.map_nil, hs, hx, hrun]
 exact hK v' w' h1 h3
theorem run_size_flt (W : World) : (sizeOf (Tryz.prog.elem 24)).run Tryz.prog W = .ok 5 W := by
 obtain ⟨i, hi, _, h1, _⟩ := info_parts info_flt
 have e : Tryz.prog.elem 24 = 26 := by kernel_rfl
 rw [e]
 simp [sizeOf, typeInfo, hi, h1]
theorem takeF_run {w : World} {hi d n c : Nat} {l : List Flt} {A : Option Addr} (h : FltsV w hi d (.slice A n c) l) {j : Nat} (hj : j ≤ l.length) :
  ∃ A' c', (∀ W : World, (Instr.slice 24 (.slice A n c) none (some (.int .i64 (j : Int))) none).run Tryz.prog W = .ok (.slice A' j c') W) ∧ FltsV w hi d (.slice A' j c') (l.take j) := by
 obtain ⟨A0, c0, hv, hc⟩ := SlV.shape h
 injection hv with _ hn hcc
 subst hcc
 refine ⟨A, c, fun W => ?_, SlV.take h j hj⟩
 rw [run_slice_h W 24 A n c (by kernel_rfl) .i64 (j : Int) (by omega) (by omega), run_size_flt]
 simp only [Result.andThen_ok, sliced, Int.toNat_natCast, Nat.sub_zero]
 congr 2
 split
 ·rfl
 ·cases A with
  | none => rfl
  | some a => simp [Addr.add]
theorem dropF_run {w : World} {hi d n c : Nat} {l : List Flt} {A : Option Addr} (h : FltsV w hi d (.slice A n c) l) {j : Nat} (hj : j ≤ l.length) :
  ∃ A' c', (∀ W : World, (Instr.slice 24 (.slice A n c) (some (.int .i64 (j : Int))) none none).run Tryz.prog W = .ok (.slice A' (n - j) c') W) ∧ FltsV w hi d (.slice A' (n - j) c') (l.drop j) := by
 have hn := SlV.len h
 refine ⟨_, _, fun W => ?_, SlV.cutFrom h j hj⟩
 rw [run_slice_l W 24 A n c (by kernel_rfl) .i64 (j : Int) (by omega) (by omega), run_size_flt]
 simp only [Result.andThen_ok, sliced, Int.toNat_natCast]
end Go.Proofs.YtmamnmjfbadiiaaGreatDoor
