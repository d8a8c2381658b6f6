/- Part 40 of the proof that identitylaw08.EntryParses and EntryReturns return true: the package variables hold what the program lays; nothing else is asked. -/
import Derived.Test.YtoopoglkeeoamaaGreatDoorEz19
import Derived.Test.YtoopoglkeeoamaaGreatDoorEz20
import Derived.Test.YtoopoglkeeoamaaGreatDoorEz35
import Derived.Test.YtoopoglkeeoamaaGreatDoorEz37
import Derived.KernelRfl
set_option linter.unusedVariables false
set_option linter.unusedSimpArgs false
/- Plain laws: text forms of entries are read back. -/
namespace Go.Proofs.YtoopoglkeeoamaaGreatDoor
open Go.RowKit Go.Sort
open Idn (L B Bs cutC fstC)
def unhex (c : UInt8) : Option Nat := if 48 ≤ c.toNat ∧ c.toNat ≤ 57 then some (c.toNat - 48) else if 65 ≤ c.toNat ∧ c.toNat ≤ 70 then some (c.toNat - 55) else none
def unesc3 (a b : UInt8) (r : Option Bs) : Option Bs :=
  match unhex a, unhex b with
  | some h, some k => if plainB (UInt8.ofNat (h * 16 + k)) then none else r.map (UInt8.ofNat (h * 16 + k) :: ·)
  | _, _ => none
def unesc : Bs → Option Bs
  | [] => some []
  | [c] => if plainB c then some [c] else none
  | [c, d] => if plainB c then (unesc [d]).map (c :: ·) else none
  | c :: a :: b :: r => if plainB c then (unesc (a :: b :: r)).map (c :: ·) else if c != 37 then none else unesc3 a b (unesc r)
theorem unesc_plain {c : UInt8} (h : plainB c = true) : ∀ l : Bs, unesc (c :: l) = (unesc l).map (c :: ·)
  | [] => by simp [unesc, h]
  | [d] => by simp [unesc, h]
  | a :: b :: r => by rw [unesc, if_pos h]
theorem hex_back : ((List.range 256).all fun n => plainB (UInt8.ofNat n) || (unhex (hexB (n / 16)) == some (n / 16) && (unhex (hexB (n % 16)) == some (n % 16) && !(plainB 37)))) = true := by decide +kernel
theorem unesc_esc : ∀ v : Bs, unesc (esc v) = some v
  | [] => rfl
  | c :: v => by
    have ih := unesc_esc v
    have e : esc (c :: v) = esc1 c ++ esc v := by unfold esc; rw [List.flatMap_cons]
    rw [e]
    unfold esc1
    cases hp : plainB c
    · rw [if_neg (by decide)]
      show unesc (37 :: hexB (c.toNat / 16) :: hexB (c.toNat % 16) :: esc v) = _
      have h := List.all_eq_true.1 hex_back c.toNat (List.mem_range.2 c.toNat_lt)
      rw [UInt8.ofNat_toNat, hp, Bool.false_or, Bool.and_eq_true, Bool.and_eq_true, beq_iff_eq, beq_iff_eq] at h
      obtain ⟨h1, h2, h3⟩ := h
      have h37 : plainB 37 = false := by simpa using h3
      rw [unesc, h37, if_neg (by decide), if_neg (by decide), unesc3, h1, h2, ih]
      have ec : c.toNat / 16 * 16 + c.toNat % 16 = c.toNat := by omega
      dsimp only
      rw [ec, UInt8.ofNat_toNat, hp]
      rfl
    · rw [if_pos rfl, List.singleton_append, unesc_plain hp, ih]; rfl
theorem esc_no (v : Bs) : 10 ∉ esc v ∧ 32 ∉ esc v := by
  have h1 : ((List.range 256).all fun n => !(esc1 (UInt8.ofNat n)).contains 10 && !(esc1 (UInt8.ofNat n)).contains 32) = true := by decide +kernel
  have h : ∀ c : UInt8, 10 ∉ esc1 c ∧ 32 ∉ esc1 c := fun c => by
    have h := List.all_eq_true.1 h1 c.toNat (List.mem_range.2 c.toNat_lt)
    rw [UInt8.ofNat_toNat, Bool.and_eq_true, Bool.not_eq_true', Bool.not_eq_true', Bool.eq_false_iff, Bool.eq_false_iff] at h
    exact ⟨fun e => h.1 (List.contains_iff_mem.2 e), fun e => h.2 (List.contains_iff_mem.2 e)⟩
  unfold esc
  refine ⟨fun hm => ?_, fun hm => ?_⟩
  · obtain ⟨c, _, hc⟩ := List.mem_flatMap.1 hm
    exact (h c).1 hc
  · obtain ⟨c, _, hc⟩ := List.mem_flatMap.1 hm
    exact (h c).2 hc
/-- the parts of a line ahead of and behind its first space -/
def kvL (l : Bs) : Bs × Bs := match fstC 32 l with | none => (l, []) | some i => (l.take i, l.drop (i + 1))
theorem fstC_app {c : UInt8} {r : Bs} : ∀ {k : Bs}, c ∉ k → fstC c (k ++ c :: r) = some k.length
  | [], _ => by rw [List.nil_append, Idn.fstC_cons]; simp
  | x :: k, h => by
    rw [List.mem_cons, not_or] at h
    rw [List.cons_append, Idn.fstC_cons, fstC_app h.2, if_neg (by simpa using fun e => h.1 e.symm)]
    rfl
theorem kvL_line {k v : Bs} (h : 32 ∉ k) : kvL (k ++ 32 :: v) = (k, v) := by
  unfold kvL
  rw [fstC_app h]
  simp
def pAtt (l : Bs) : Option Idn.Att := if (kvL l).1 = [] then none else some ⟨(kvL l).1, [(unesc (kvL l).2).getD []]⟩
def pAtts (ls : List Bs) : List Idn.Att := ls.filterMap pAtt
def pName (ls : List Bs) : Bs := (unesc (kvL (ls.headD [])).2).getD []
/-- the entry with a text form, or the error -/
def eParse (s : Bs) : En × Int :=
  if eText (pName (cutC 10 s)) (Idn.rSorted (pAtts (cutC 10 s).tail)) = (s, 0) then ((pName (cutC 10 s), Idn.rSorted (pAtts (cutC 10 s).tail)), 0) else (([], []), 4)
/-- by the reference: a value goes to the attribute last read, if it has the name -/
def rPut (l : List Idn.Att) (n v : Bs) : List Idn.Att := match l.getLast? with
  | none => [⟨n, [v]⟩]
  | some a => if a.name = n then l.dropLast ++ [⟨a.name, a.vals ++ [v]⟩] else l ++ [⟨n, [v]⟩]
def rField (l : Bs) : Option (Bs × Bs) := match fstC 32 l with
  | none => none
  | some i => (unesc (l.drop (i + 1))).map fun v => (l.take i, v)
def rAttsK : List Idn.Att → List Bs → Option (List Idn.Att)
  | acc, [] => some acc
  | acc, l :: r => match rField l with
    | none => none
    | some p => rAttsK (rPut acc p.1 p.2) r
def rRead : List Bs → Option En
  | [] => some ([], [])
  | l :: r => match rField l with
    | none => none
    | some p => (rAttsK [] r).map fun x => (p.2, x)
def rEParse (s : Bs) : En × Int := match rRead (cutC 10 s).dropLast with
  | none => (([], []), 4)
  | some e => if rEText e.1 e.2 = (s, 0) then (e, 0) else (([], []), 4)
/-- the lines of a text form -/
def lineOf (a v : Bs) : Bs := a ++ 32 :: esc v
def linesA (l : List Idn.Att) : List Bs := l.flatMap fun a => a.vals.map fun v => lineOf a.name v
theorem eLine_eq (a v : Bs) : eLine a v = lineOf a v ++ [10] := by unfold eLine lineOf; simp
theorem cut_lines : ∀ ls : List Bs, (∀ l ∈ ls, 10 ∉ l) → cutC 10 (ls.flatMap fun l => l ++ [10]) = ls ++ [[]]
  | [], _ => rfl
  | l :: ls, h => by
    rw [List.flatMap_cons, List.append_assoc, List.singleton_append, Idn.cutC_app 10 _ l (h l List.mem_cons_self), cut_lines ls fun x hx => h x (List.mem_cons_of_mem _ hx)]
    rfl
theorem eBody_lines (l : List Idn.Att) : eBody l = (linesA l).flatMap fun l => l ++ [10] := by
  unfold eBody linesA
  rw [List.flatMap_assoc]
  congr 1
  funext a
  rw [List.flatMap_map]
  congr 1
  funext v
  exact eLine_eq _ _
def plainN (k : Bs) : Prop := 10 ∉ k ∧ 32 ∉ k ∧ k ≠ []
theorem name_plain {k : Bs} (h : Idn.name k = true) : plainN k := by
  have h2 := Idn.key_plain h
  refine ⟨fun hm => ?_, fun hm => (h2 32 hm).2 rfl, fun e => by subst e; exact absurd h (by decide)⟩
  unfold Idn.name at h
  rw [Bool.and_eq_true] at h
  have h3 := h.1
  unfold Idn.made at h3
  rw [Bool.and_eq_true] at h3
  have := List.all_eq_true.1 h3.1 10 hm
  exact absurd this (by decide)
theorem line_no {k v : Bs} (h : plainN k) : 10 ∉ lineOf k v := by
  unfold lineOf
  rw [List.mem_append, List.mem_cons, not_or, not_or]
  exact ⟨h.1, by decide, (esc_no v).1⟩
theorem rField_line {k v : Bs} (h : plainN k) : rField (lineOf k v) = some (k, v) := by
  unfold rField lineOf
  rw [fstC_app h.2.1]
  simp [unesc_esc]
theorem pAtt_line {k v : Bs} (h : plainN k) : pAtt (lineOf k v) = some ⟨k, [v]⟩ := by
  unfold pAtt lineOf
  rw [kvL_line h.2.1, if_neg h.2.2, unesc_esc]; rfl
theorem pAtts_lines : ∀ l : List Idn.Att, (∀ a ∈ l, plainN a.name) → pAtts (linesA l) = l.flatMap fun a => a.vals.map fun v => ⟨a.name, [v]⟩
  | [], _ => rfl
  | a :: l, h => by
    have ih := pAtts_lines l fun x hx => h x (List.mem_cons_of_mem _ hx)
    have hn := h a List.mem_cons_self
    unfold pAtts linesA at ih ⊢
    rw [List.flatMap_cons, List.filterMap_append, List.flatMap_cons, ih]
    congr 1
    rw [List.filterMap_map]
    have : (pAtt ∘ fun v => lineOf a.name v) = fun v => some (⟨a.name, [v]⟩ : Idn.Att) := by funext v; exact pAtt_line hn
    rw [this]
    exact List.filterMap_eq_map' ▸ rfl
theorem valsOf_flat (m : Bs) : ∀ l : List Idn.Att, Idn.valsOf (l.flatMap fun a => a.vals.map fun v => (⟨a.name, [v]⟩ : Idn.Att)) m = Idn.valsOf l m
  | [] => rfl
  | a :: l => by
    rw [List.flatMap_cons, Idn.valsOf_app, valsOf_flat m l, show a :: l = [a] ++ l from rfl, Idn.valsOf_app]
    congr 1
    unfold Idn.valsOf
    by_cases h : Idn.lower a.name = m
    · rw [List.filter_eq_self.2 (fun x hx => by obtain ⟨v, _, rfl⟩ := List.mem_map.1 hx; simpa using h), List.filter_cons_of_pos (by simpa using h), List.flatMap_map]
      simp
    · rw [List.filter_eq_nil_iff.2 (fun x hx => by obtain ⟨v, _, rfl⟩ := List.mem_map.1 hx; simpa using h), List.filter_cons_of_neg (by simpa using h)]; rfl
theorem rSorted_vals {S T : List Idn.Att} (h : ∀ m, Idn.valsOf S m = Idn.valsOf T m) : Idn.rSorted S = Idn.rSorted T := by
  have e : Idn.insAll (Idn.lows S) = Idn.insAll (Idn.lows T) := Idn.uniq _ _ (Idn.insAll_lt _) (Idn.insAll_lt _) fun x => by
    rw [Idn.insAll_mem, Idn.insAll_mem, Idn.mem_lows, Idn.mem_lows, h x]
  unfold Idn.rSorted Idn.rOne
  rw [e]
  simp only [h]
theorem rPut_new {acc : List Idn.Att} {n v : Bs} (h : ∀ a, acc.getLast? = some a → a.name ≠ n) : rPut acc n v = acc ++ [⟨n, [v]⟩] := by
  unfold rPut
  cases hl : acc.getLast? with
  | none =>
    rw [List.getLast?_eq_none_iff] at hl
    subst hl; rfl
  | some a => dsimp only; rw [if_neg (h a hl)]
theorem rPut_old (acc : List Idn.Att) (n : Bs) (vs : List Bs) (v : Bs) : rPut (acc ++ [⟨n, vs⟩]) n v = acc ++ [⟨n, vs ++ [v]⟩] := by
  unfold rPut
  rw [List.getLast?_concat]
  dsimp only
  rw [if_pos rfl, List.dropLast_concat]
theorem rAtts_vals {n : Bs} (hn : plainN n) (r : List Bs) (acc : List Idn.Att) : ∀ (vs us : List Bs), rAttsK (acc ++ [⟨n, us⟩]) (vs.map (lineOf n) ++ r) = rAttsK (acc ++ [⟨n, us ++ vs⟩]) r
  | [], us => by rw [List.append_nil]; rfl
  | v :: vs, us => by
    rw [List.map_cons, List.cons_append, rAttsK, rField_line hn]
    dsimp only
    rw [rPut_old, rAtts_vals hn r acc vs (us ++ [v]), List.append_assoc]
    rfl
theorem rAtts_lines : ∀ (l acc : List Idn.Att), (∀ a ∈ l, plainN a.name ∧ a.vals.length ≠ 0) → (l.map (·.name)).Nodup → (∀ a, acc.getLast? = some a → ∀ b ∈ l, a.name ≠ b.name) → rAttsK acc (linesA l) = some (acc ++ l)
  | [], acc, _, _, _ => by rw [List.append_nil]; rfl
  | a :: l, acc, h, hn, ha => by
    obtain ⟨h1, h2⟩ := h a List.mem_cons_self
    rw [List.map_cons, List.nodup_cons] at hn
    have e : linesA (a :: l) = a.vals.map (lineOf a.name) ++ linesA l := by unfold linesA; rw [List.flatMap_cons]
    rw [e]
    obtain ⟨n, vs⟩ := a
    cases vs with
    | nil => exact absurd rfl h2
    | cons v vs =>
      rw [List.map_cons, List.cons_append, rAttsK, rField_line h1]
      dsimp only
      rw [rPut_new fun b hb => ha b hb _ List.mem_cons_self, rAtts_vals h1 (linesA l) acc vs [v]]
      rw [rAtts_lines l _ (fun x hx => h x (List.mem_cons_of_mem _ hx)) hn.2 (fun b hb c hc => by
        rw [List.getLast?_concat] at hb
        injection hb with hb
        subst hb
        exact fun e => hn.1 (List.mem_map.2 ⟨c, hc, e.symm⟩)), List.append_assoc]
      rfl
theorem entry_plain : plainN entryN := ⟨by decide, by decide, by decide⟩
/-- a normal entry is read back from its text form, by the layer and by the reference -/
theorem read_back {n : Bs} {A : List Idn.Att} (h : Idn.rSorted A = A) (hc : eCheck n A = 0) : eParse (eText n A).1 = ((n, A), 0) ∧ rEParse (eText n A).1 = ((n, A), 0) ∧ eText n A = ((eText n A).1, 0) := by
  have ca := eCheck_zero hc
  have hfull : ∀ a ∈ A, a.vals.length ≠ 0 := fun a ha => ((aCheck_zero ca).2 a ha).1
  have hpl : ∀ a ∈ A, plainN a.name := fun a ha => name_plain ((Idn.aCheck_all ca).2.2 a ha).1
  have hso : Idn.aSorted A = A := by rw [← Idn.rSorted_eq hfull, h]
  have hnd : (A.map (·.name)).Nodup := by
    have := rSorted_pw A
    rw [h] at this
    exact this.imp fun h e => by rw [e] at h; exact List.lt_irrefl _ h
  have ht : eText n A = (((lineOf entryN n :: linesA A).flatMap fun l => l ++ [10]), 0) := by
    unfold eText
    rw [hc, if_neg (by decide), hso, eBody_lines, eLine_eq]
    rfl
  have h0 : eText n A = ((eText n A).1, 0) := by rw [ht]
  have hcut : cutC 10 (eText n A).1 = (lineOf entryN n :: linesA A) ++ [[]] := by
    rw [ht]
    refine cut_lines _ fun l hl => ?_
    rcases List.mem_cons.1 hl with rfl | hl
    · exact line_no entry_plain
    · unfold linesA at hl
      obtain ⟨a, ha, hv⟩ := List.mem_flatMap.1 hl
      obtain ⟨v, _, rfl⟩ := List.mem_map.1 hv
      exact line_no (hpl a ha)
  have hnone : pAtt [] = none := by unfold pAtt kvL; rfl
  have hname : pName (cutC 10 (eText n A).1) = n := by
    rw [hcut]
    unfold pName
    show (unesc (kvL (lineOf entryN n)).2).getD [] = n
    unfold lineOf
    rw [kvL_line entry_plain.2.1, unesc_esc]; rfl
  have hatt : Idn.rSorted (pAtts (cutC 10 (eText n A).1).tail) = A := by
    rw [hcut]
    show Idn.rSorted (pAtts (linesA A ++ [[]])) = A
    have : pAtts (linesA A ++ [[]]) = pAtts (linesA A) := by
      unfold pAtts
      rw [List.filterMap_append]
      simp [hnone]
    rw [this, pAtts_lines A hpl, rSorted_vals (valsOf_flat · A), h]
  refine ⟨?_, ?_, h0⟩
  · unfold eParse
    rw [hname, hatt, if_pos h0]
  · unfold rEParse
    rw [hcut]
    have : ((lineOf entryN n :: linesA A) ++ [[]]).dropLast = lineOf entryN n :: linesA A := List.dropLast_concat
    rw [this]
    unfold rRead
    dsimp only
    rw [rField_line entry_plain]
    dsimp only
    rw [rAtts_lines A [] (fun a ha => ⟨hpl a ha, hfull a ha⟩) hnd (by simp)]
    dsimp only [Option.map_some, List.nil_append]
    rw [if_pos]
    rw [rEText_eq]; exact h0
theorem clean_of_vals : ∀ (l p : List Bs), (∀ x ∈ l, Idn.clean x = true) → (p ++ l).Nodup → Idn.valsErr p l = 0 := fun l p h1 h2 => by
  have := vErr_nil l p
  rw [← this]
  induction l generalizing p with
  | nil => rfl
  | cons v l ih =>
    have hc : p.contains v = false := by
      rw [Bool.eq_false_iff]
      intro e
      rw [List.nodup_append] at h2
      exact h2.2.2 v (List.contains_iff_mem.1 e) v List.mem_cons_self rfl
    have hn : ([] : List Bs).contains v = false := rfl
    rw [vErr, h1 v List.mem_cons_self, hc, hn]
    exact ih (p ++ [v]) (fun x hx => h1 x (List.mem_cons_of_mem _ hx)) (by rw [List.append_assoc]; exact h2) (vErr_nil _ _)
theorem atts_ok : ∀ (l p : List Idn.Att), (∀ a ∈ l, Idn.name a.name = true ∧ a.vals.length ≠ 0 ∧ a.vals.length ≤ 16 ∧ Idn.valsErr [] a.vals = 0) → (∀ a ∈ l, ∀ b ∈ p, Idn.lower b.name ≠ Idn.lower a.name) → (l.map fun a => Idn.lower a.name).Nodup → Idn.attsErr p l = 0
  | [], _, _, _, _ => rfl
  | a :: l, p, h, hp, hn => by
    obtain ⟨h1, h2, h3, h4⟩ := h a List.mem_cons_self
    rw [List.map_cons, List.nodup_cons] at hn
    have hix : Idn.ixA p a.name = none := by
      unfold Idn.ixA
      rw [List.findIdx?_eq_none_iff]
      intro b hb
      simpa using hp a List.mem_cons_self b hb
    have he : Idn.attErr p a = 0 := by
      unfold Idn.attErr
      rw [h1, hix, if_neg (by decide), if_neg (by decide), if_neg h2, if_neg (by omega), h4]
    rw [Idn.attsErr, he, if_neg (by decide)]
    refine atts_ok l _ (fun x hx => h x (List.mem_cons_of_mem _ hx)) (fun x hx b hb => ?_) hn.2
    rcases List.mem_append.1 hb with hb | hb
    · exact hp x (List.mem_cons_of_mem _ hx) b hb
    · rw [List.mem_singleton] at hb
      subst hb
      exact fun e => hn.1 (List.mem_map.2 ⟨x, hx, e.symm⟩)
/-- the normal form of attributes without an error has none -/
theorem aCheck_sorted {l : List Idn.Att} (h : Idn.aCheck l = 0) : Idn.aCheck (Idn.rSorted l) = 0 := by
  obtain ⟨h1, h2, h3⟩ := Idn.aCheck_all h
  have h4 := (aCheck_zero h).2
  have hcl := aCheck_clean h
  have hone : ∀ a ∈ l, Idn.valsOf l (Idn.lower a.name) = a.vals := fun a ha => by
    have key : ∀ l : List Idn.Att, (l.map fun a => Idn.lower a.name).Nodup → a ∈ l → Idn.valsOf l (Idn.lower a.name) = a.vals := by
      intro l
      induction l with
      | nil => intro _ h; cases h
      | cons b l ih =>
        intro hn hm
        rw [List.map_cons, List.nodup_cons] at hn
        rw [show b :: l = [b] ++ l from rfl, Idn.valsOf_app]
        rcases List.mem_cons.1 hm with rfl | hm
        · have e1 : Idn.valsOf l (Idn.lower a.name) = [] := by
            refine List.eq_nil_iff_forall_not_mem.2 fun x hx => ?_
            obtain ⟨c, hc, e, _⟩ := mem_valsOf.1 hx
            exact hn.1 (List.mem_map.2 ⟨c, hc, e⟩)
          rw [e1, List.append_nil]
          unfold Idn.valsOf
          simp
        · have hne : Idn.lower b.name ≠ Idn.lower a.name := fun e => hn.1 (List.mem_map.2 ⟨a, hm, e.symm⟩)
          rw [ih hn.2 hm]
          unfold Idn.valsOf
          simp [hne]
    exact key l h2 ha
  have hsome : ∀ a ∈ Idn.rSorted l, ∃ b ∈ l, a.name = Idn.lower b.name ∧ a.vals = Idn.insAll b.vals := fun a ha => by
    unfold Idn.rSorted at ha
    obtain ⟨m, hm, rfl⟩ := List.mem_map.1 ha
    rw [Idn.insAll_mem] at hm
    unfold Idn.lows at hm
    obtain ⟨b, hb, rfl⟩ := List.mem_map.1 hm
    have hb := (List.mem_filter.1 hb).1
    exact ⟨b, hb, rfl, by unfold Idn.rOne; rw [hone b hb]⟩
  have hlen : (Idn.rSorted l).length ≤ 32 := Nat.le_trans (rSorted_len l) h1
  unfold Idn.aCheck
  rw [if_neg (by omega)]
  refine atts_ok _ [] (fun a ha => ?_) (fun _ _ b hb => by cases hb) ?_
  · obtain ⟨b, hb, e1, e2⟩ := hsome a ha
    have hnd : b.vals.Nodup := by
      have h0 : vErr [] [] b.vals = 0 := by rw [vErr_nil]; exact (h3 b hb).2
      have := (vErr_nd [] b.vals [] h0 (by simp) (by simp)).1
      simpa using this
    refine ⟨by rw [e1]; exact Idn.name_lower (h3 b hb).1, ?_, ?_, ?_⟩
    · rw [e2, Idn.insAll_length hnd]; exact (h4 b hb).1
    · rw [e2, Idn.insAll_length hnd]; exact (h4 b hb).2
    · refine clean_of_vals _ [] (fun x hx => ?_) (by rw [e2]; simpa using Idn.insAll_nodup _)
      rw [e2, Idn.insAll_mem] at hx
      exact hcl b hb x hx
  · have e : ∀ a ∈ Idn.rSorted l, Idn.lower a.name = a.name := fun a ha => Idn.rSorted_name ha
    rw [List.map_congr_left e]
    exact (rSorted_pw l).imp fun h e => by rw [e] at h; exact List.lt_irrefl _ h
theorem eText_sorted {n : Bs} {l : List Idn.Att} (h : eCheck n l = 0) : eText n (Idn.rSorted l) = eText n l ∧ eCheck n (Idn.rSorted l) = 0 := by
  have ca := eCheck_zero h
  have hn : (n.isEmpty || !validN n) = false := by
    unfold eCheck at h
    split at h
    · cases h
    · rename_i h1; simpa using h1
  have h2 : eCheck n (Idn.rSorted l) = 0 := by unfold eCheck; rw [hn, if_neg (by decide)]; exact aCheck_sorted ca
  refine ⟨?_, h2⟩
  rw [← rEText_eq, ← rEText_eq]
  unfold rEText
  rw [h, h2, rSorted_idem]
theorem eText_ok {n : Bs} {l : List Idn.Att} {s : Bs} (h : eText n l = (s, 0)) : eCheck n l = 0 := by
  unfold eText at h
  split at h
  · rename_i h1; simp only [Prod.mk.injEq] at h; simp [h.2] at h1
  · rename_i h1; simpa using h1
/-- the reference reads what the layer reads -/
theorem rEParse_eq (s : Bs) : rEParse s = eParse s := by
  by_cases h : eText (pName (cutC 10 s)) (Idn.rSorted (pAtts (cutC 10 s).tail)) = (s, 0)
  · have hb := read_back (rSorted_idem _) (eText_ok h)
    rw [h] at hb
    rw [hb.1, hb.2.1]
  · have h1 : eParse s = (([], []), 4) := by unfold eParse; rw [if_neg h]
    rw [h1]
    unfold rEParse
    cases hr : rRead (cutC 10 s).dropLast with
    | none => rfl
    | some e =>
      dsimp only
      split
      · rename_i h2
        exfalso
        rw [rEText_eq] at h2
        obtain ⟨t1, t2⟩ := eText_sorted (eText_ok h2)
        have hb := read_back (rSorted_idem e.2) t2
        rw [t1, h2] at hb
        have h3 := hb.1
        rw [h1] at h3
        exact absurd (congrArg Prod.snd h3) (by simp)
      · rfl
end Go.Proofs.YtoopoglkeeoamaaGreatDoor
/- codec: plain, Escape. -/
namespace Go.Proofs.YtoopoglkeeoamaaGreatDoor
open Go.RowKit Go.Sort
open Idn (L B Bs drop_L take_L size_L)
theorem idxB_lt (c : UInt8) : ∀ l : List UInt8, decide (Lib.indexByte l c < 0) = !l.contains c
  | [] => rfl
  | b :: l => by
    have ih := idxB_lt c l
    rw [Lib.indexByte, List.contains_cons]
    by_cases h : b = c
    · subst h; simp
    · have h1 : (b == c) = false := by simpa using h
      have h2 : (c == b) = false := by rw [beq_eq_false_iff_ne]; exact fun e => h e.symm
      rw [h1, h2, Bool.false_or, if_neg (by decide), ← ih]
      by_cases h3 : Lib.indexByte l c = -1
      · rw [h3]; rfl
      · have h4 : (Lib.indexByte l c == -1) = false := by simpa using h3
        rw [h4, if_neg (by decide)]
        have h5 : -1 ≤ Lib.indexByte l c := by
          clear ih h3 h4
          induction l with
          | nil => exact Int.le_refl (-1)
          | cons d l ih => rw [Lib.indexByte]; split <;> (try split) <;> omega
        rw [decide_eq_decide]; omega
def sepB : ByteArray := ⟨#[37, 124, 44, 61, 59, 34]⟩
theorem plain_any (c : UInt8) (w : World) :
    Calls Tryz.prog 122 #[.int .u8 (c.toNat : Int)] w fun e w' => e = .returned (.bool (plainB c)) ∧ w = w' := by
  have hI := Tryz.strings_IndexByte sepB (c.toNat : Int) w
  have hb : ((c.toNat : Int).toNat.toUInt8) = c := by simp
  rw [hb] at hI
  have hlt := idxB_lt c sepB.data.toList
  generalize hix : Lib.indexByte sepB.data.toList c = ix at *
  clear hix hb
  unfold plainB
  by_cases h1 : (33 : Int) ≤ (c.toNat : Int)
  · by_cases h2 : (c.toNat : Int) ≤ (126 : Int)
    · have e1 : decide (33 ≤ c.toNat) = true := decide_eq_true (by omega)
      have e2 : decide (c.toNat ≤ 126) = true := decide_eq_true (by omega)
      rw [e1, e2]
      have e3 : (true && (true && ![37, 124, 44, 61, 59, 34].contains c)) = decide (ix < 0) := by rw [hlt]; rfl
      rw [e3]
      clear e1 e2 e3 hlt
      go_enter Tryz.func122, Tryz.ntmps122
      go_wp2_with (go_at_call 133; refine hI.mono ?_; rintro e w1 ⟨rfl, rfl⟩)
      go_ret
      exact ⟨rfl, rfl⟩
    · have e2 : decide (c.toNat ≤ 126) = false := decide_eq_false (by omega)
      rw [e2, Bool.false_and, Bool.and_false]
      clear e2 hlt hI
      go_enter Tryz.func122, Tryz.ntmps122
      go_wp2
      go_ret
      exact ⟨rfl, rfl⟩
  · have e1 : decide (33 ≤ c.toNat) = false := decide_eq_false (by omega)
    rw [e1, Bool.false_and]
    clear e1 hlt hI
    go_enter Tryz.func122, Tryz.ntmps122
    go_wp2
    go_ret
    exact ⟨rfl, rfl⟩
theorem idx_hex (q : Nat) (hq : q < 16) (w : World) : (Instr.index 9 (.string ⟨#[48, 49, 50, 51, 52, 53, 54, 55, 56, 57, 65, 66, 67, 68, 69, 70]⟩) (.int .u8 (q : Int))).run Tryz.prog w = .ok (.int .u8 ((hexB q).toNat : Int)) w := by
  rcases (by omega : q = 0 ∨ q = 1 ∨ q = 2 ∨ q = 3 ∨ q = 4 ∨ q = 5 ∨ q = 6 ∨ q = 7 ∨ q = 8 ∨ q = 9 ∨ q = 10 ∨ q = 11 ∨ q = 12 ∨ q = 13 ∨ q = 14 ∨ q = 15) with rfl | rfl | rfl | rfl | rfl | rfl | rfl | rfl | rfl | rfl | rfl | rfl | rfl | rfl | rfl | rfl <;> kernel_rfl
theorem bits_and15 (c : UInt8) : bits BinOp.and IntKind.u8 (c.toNat : Int) 15 = ((c.toNat % 16 : Nat) : Int) := by
  have h : ((List.range 256).all fun n => bits BinOp.and IntKind.u8 (n : Int) 15 == ((n % 16 : Nat) : Int)) = true := by kernel_rfl
  have := (List.all_eq_true.1 h) c.toNat (List.mem_range.2 (byte_lt c))
  simpa using this
theorem esc_snoc (l : Bs) (c : UInt8) : esc (l ++ [c]) = esc l ++ esc1 c := by unfold esc; rw [List.flatMap_append]; simp
theorem esc1_len (c : UInt8) : (esc1 c).length ≤ 3 := by unfold esc1; split <;> simp
theorem esc_len (l : Bs) : (esc l).length ≤ 3 * l.length := by
  induction l with
  | nil => simp [esc]
  | cons c l ih =>
    have := esc1_len c
    have e : esc (c :: l) = esc1 c ++ esc l := rfl
    rw [e, List.length_append, List.length_cons]; omega
set_option maxHeartbeats 1000000 in
set_option maxRecDepth 100000 in
theorem escape_any (s : ByteArray) (w : World) (hs : s.size ≤ 1000000000) :
    Calls Tryz.prog 63 #[.string s] w fun e w' => e = .returned (.string (B (esc (L s)))) ∧ Below w.heap.size w w' := by
  have hB0 := Bld.new w
  generalize hr : esc (L s) = r
  have HR := Lib.hid hr
  clear hr
  go_enter Tryz.func63, Tryz.ntmps63
  go_wp2
  go_loopw [8] (fun i wr => ∃ (k : Nat) (acc : Bs), k ≤ s.size ∧ i = .int .i64 k ∧ Below w.heap.size w wr ∧ Bld w.heap.size w.heap.size (Lib.byteCells acc) wr ∧ Hid (acc = esc ((L s).take k)) ∧ acc.length ≤ 3 * k) (fun i _ => s.size - (intOf i).toNat)
  case atStart => exact ⟨0, [], Nat.zero_le _, rfl, (Below.refl _ _).alloc (Nat.le_refl _) _, hB0, rfl, Nat.le_refl _⟩
  case round =>
    obtain ⟨k, acc, hk, rfl, hb, hB, hinv, hal⟩ := hrel
    clear hB0
    by_cases hlt : k < s.size
    · have hP := plain_any s[k] wr
      have hstep : esc ((L s).take (k + 1)) = esc ((L s).take k) ++ esc1 s[k] := by rw [take_L s k hlt, esc_snoc]
      cases hp : plainB s[k]
      · have e1 : esc1 s[k] = [37, hexB (s[k].toNat / 16), hexB (s[k].toNat % 16)] := by unfold esc1; rw [hp]; rfl
        have HF : Hid (acc ++ [37] ++ [hexB (s[k].toNat / 16)] ++ [hexB (s[k].toNat % 16)] = esc ((L s).take (k + 1))) := by
          show _ = _; rw [hstep, e1, hinv.out]; simp
        rw [hp] at hP
        clear hp hstep e1 hinv
        have hW1 : Calls Tryz.prog 123 #[.pointer (some ⟨w.heap.size, 0, none⟩), .int .u8 37] wr _ := writeByte_any w.heap.size w.heap.size (Lib.byteCells acc) 37 wr hB (by rw [byteCells_len]; omega) hb.size
        go_wp2_with fail
        refine hP.mono ?_
        rintro e w1 ⟨rfl, rfl⟩
        go_wp2_with fail
        refine hW1.mono ?_
        rintro e w1 ⟨rfl, hB1, hb1, _⟩
        have hbw1 := hb.trans hb1
        have hx1 : ∀ w, (Instr.index 9 (.string ⟨#[48, 49, 50, 51, 52, 53, 54, 55, 56, 57, 65, 66, 67, 68, 69, 70]⟩) (.int .u8 ((s[k].toNat : Int) / 16))).run Tryz.prog w = .ok (.int .u8 ((hexB (s[k].toNat / 16)).toNat : Int)) w := fun w => idx_hex (s[k].toNat / 16) (by have := byte_lt s[k]; omega) w
        have hx2 : ∀ w, (Instr.index 9 (.string ⟨#[48, 49, 50, 51, 52, 53, 54, 55, 56, 57, 65, 66, 67, 68, 69, 70]⟩) (.int .u8 (bits BinOp.and IntKind.u8 (s[k].toNat : Int) 15))).run Tryz.prog w = .ok (.int .u8 ((hexB (s[k].toNat % 16)).toNat : Int)) w := fun w => by
          rw [bits_and15]
          exact idx_hex (s[k].toNat % 16) (by omega) w
        have hW2 := writeByte_any w.heap.size w.heap.size (Lib.byteCells acc ++ [bc 37]) (hexB (s[k].toNat / 16)) w1 hB1 (by rw [List.length_append, byteCells_len]; simp; omega) hbw1.size
        clear hW1 hB
        go_wp2_with fail
        refine hW2.mono ?_
        rintro e w2 ⟨rfl, hB2, hb2, _⟩
        have hbw2 := hbw1.trans hb2
        have hW3 := writeByte_any w.heap.size w.heap.size (Lib.byteCells acc ++ [bc 37] ++ [bc (hexB (s[k].toNat / 16))]) (hexB (s[k].toNat % 16)) w2 hB2 (by rw [List.length_append, List.length_append, byteCells_len]; simp; omega) hbw2.size
        clear hW2 hB1
        go_wp2_with fail
        refine hW3.mono ?_
        rintro e w3 ⟨rfl, hB3, hb3, _⟩
        go_wp2
        go_roundw
        case rel => exact ⟨k + 1, acc ++ [37] ++ [hexB (s[k].toNat / 16)] ++ [hexB (s[k].toNat % 16)], by omega, by go_num, hbw2.trans hb3, by rw [bytes_one, bytes_one, bytes_one]; exact hB3, HF, by simp; omega⟩
        case measure => simp [intOf]; omega
      · have e1 : esc1 s[k] = [s[k]] := by unfold esc1; rw [hp]; rfl
        have HF : Hid (acc ++ [s[k]] = esc ((L s).take (k + 1))) := by show _ = _; rw [hstep, e1, hinv.out]
        rw [hp] at hP
        have hW1 := writeByte_any w.heap.size w.heap.size (Lib.byteCells acc) s[k] wr hB (by rw [byteCells_len]; omega) hb.size
        clear hp hstep e1 hinv hB
        go_wp2_with (first | (go_at_call 122; refine hP.mono ?_; rintro e w1 ⟨rfl, rfl⟩) | (go_at_call 123; refine hW1.mono ?_; rintro e w1 ⟨rfl, hB1, hb1, _⟩))
        go_roundw
        case rel => exact ⟨k + 1, acc ++ [s[k]], by omega, by go_num, hb.trans hb1, by rw [bytes_one]; exact hB1, HF, by simp; omega⟩
        case measure => simp [intOf]; omega
    · have hStr := Tryz.Builder_String_any_k w.heap.size w.heap.size acc wr hB hb.size
      have HF : Hid (r = acc) := by show _ = _; rw [← HR.out, hinv.out, List.take_of_length_le (by have := size_L s; omega)]
      clear hinv
      go_wp2_with fail
      refine hStr.mono ?_
      rintro e w4 ⟨rfl, _, hb4, _⟩
      go_wp2
      go_ret
      exact ⟨by rw [HF.out]; rfl, hb.trans hb4⟩
end Go.Proofs.YtoopoglkeeoamaaGreatDoor
/- identityref02: plain, digit. -/
namespace Go.Proofs.YtoopoglkeeoamaaGreatDoor
open Go.RowKit Go.Sort
open Idn (L B Bs drop_L take_L size_L)
theorem r2_plain_any (c : UInt8) (w : World) :
    Calls Tryz.prog 124 #[.int .u8 (c.toNat : Int)] w fun e w' => e = .returned (.bool (plainB c)) ∧ w = w' := by
  have hne : ∀ d : UInt8, c ≠ d → (c.toNat : Int) ≠ (d.toNat : Int) := fun d h => by
    intro e; exact h (UInt8.toNat_inj.1 (by omega))
  by_cases a1 : c = 37
  · subst a1; go_enter Tryz.func124, Tryz.ntmps124
    go_wp2
    go_ret
    exact ⟨rfl, rfl⟩
  by_cases a2 : c = 124
  · subst a2; go_enter Tryz.func124, Tryz.ntmps124
    go_wp2
    go_ret
    exact ⟨rfl, rfl⟩
  by_cases a3 : c = 44
  · subst a3; go_enter Tryz.func124, Tryz.ntmps124
    go_wp2
    go_ret
    exact ⟨rfl, rfl⟩
  by_cases a4 : c = 61
  · subst a4; go_enter Tryz.func124, Tryz.ntmps124
    go_wp2
    go_ret
    exact ⟨rfl, rfl⟩
  by_cases a5 : c = 59
  · subst a5; go_enter Tryz.func124, Tryz.ntmps124
    go_wp2
    go_ret
    exact ⟨rfl, rfl⟩
  by_cases a6 : c = 34
  · subst a6; go_enter Tryz.func124, Tryz.ntmps124
    go_wp2
    go_ret
    exact ⟨rfl, rfl⟩
  have e1 : (c.toNat : Int) ≠ 37 := hne 37 a1
  have e2 : (c.toNat : Int) ≠ 124 := hne 124 a2
  have e3 : (c.toNat : Int) ≠ 44 := hne 44 a3
  have e4 : (c.toNat : Int) ≠ 61 := hne 61 a4
  have e5 : (c.toNat : Int) ≠ 59 := hne 59 a5
  have e6 : (c.toNat : Int) ≠ 34 := hne 34 a6
  have hcon : [37, 124, 44, 61, 59, 34].contains c = false := by
    simp only [List.contains_cons, List.contains_nil, Bool.or_false, Bool.or_eq_false_iff, beq_eq_false_iff_ne]
    exact ⟨a1, a2, a3, a4, a5, a6⟩
  unfold plainB
  rw [hcon]
  clear hcon hne a1 a2 a3 a4 a5 a6
  by_cases h1 : (33 : Int) ≤ (c.toNat : Int)
  · have k1 : decide (33 ≤ c.toNat) = true := decide_eq_true (by omega)
    by_cases h2 : (c.toNat : Int) ≤ (126 : Int)
    · have k2 : decide (c.toNat ≤ 126) = true := decide_eq_true (by omega)
      rw [k1, k2]
      clear k1 k2
      go_enter Tryz.func124, Tryz.ntmps124
      go_wp2
      go_ret
      exact ⟨by simp [e1, e2, e3, e4, e5, e6], rfl⟩
    · have k2 : decide (c.toNat ≤ 126) = false := decide_eq_false (by omega)
      rw [k1, k2]
      clear k1 k2
      go_enter Tryz.func124, Tryz.ntmps124
      go_wp2
      go_ret
      exact ⟨rfl, rfl⟩
  · have k1 : decide (33 ≤ c.toNat) = false := decide_eq_false (by omega)
    rw [k1]
    clear k1
    go_enter Tryz.func124, Tryz.ntmps124
    go_wp2
    go_ret
    exact ⟨rfl, rfl⟩
def digV (c : UInt8) : Int := if 48 ≤ c.toNat ∧ c.toNat ≤ 57 then (c.toNat : Int) - 48 else if 65 ≤ c.toNat ∧ c.toNat ≤ 70 then (c.toNat : Int) - 55 else -1
theorem digV_hex (q : Nat) (hq : q < 16) : digV (hexB q) = q := by
  rcases (by omega : q = 0 ∨ q = 1 ∨ q = 2 ∨ q = 3 ∨ q = 4 ∨ q = 5 ∨ q = 6 ∨ q = 7 ∨ q = 8 ∨ q = 9 ∨ q = 10 ∨ q = 11 ∨ q = 12 ∨ q = 13 ∨ q = 14 ∨ q = 15) with rfl | rfl | rfl | rfl | rfl | rfl | rfl | rfl | rfl | rfl | rfl | rfl | rfl | rfl | rfl | rfl <;> rfl
theorem digV_hit (c : UInt8) (h : digV c ≠ -1) : 0 ≤ digV c ∧ digV c < 16 ∧ hexB (digV c).toNat = c := by
  unfold digV at h ⊢
  split at h
  · next g =>
    rw [if_pos g]
    refine ⟨by omega, by omega, ?_⟩
    unfold hexB
    rw [if_pos (by omega), show 48 + ((c.toNat : Int) - 48).toNat = c.toNat by omega]
    simp
  · next g =>
    rw [if_neg g]
    split at h
    · next g2 =>
      rw [if_pos g2]
      refine ⟨by omega, by omega, ?_⟩
      unfold hexB
      rw [if_neg (by omega), show 55 + ((c.toNat : Int) - 55).toNat = c.toNat by omega]
      simp
    · exact absurd rfl h
theorem idx_hex64 (q : Nat) (hq : q < 16) (w : World) : (Instr.index 9 (.string ⟨#[48, 49, 50, 51, 52, 53, 54, 55, 56, 57, 65, 66, 67, 68, 69, 70]⟩) (.int .i64 (q : Int))).run Tryz.prog w = .ok (.int .u8 ((hexB q).toNat : Int)) w := by
  rcases (by omega : q = 0 ∨ q = 1 ∨ q = 2 ∨ q = 3 ∨ q = 4 ∨ q = 5 ∨ q = 6 ∨ q = 7 ∨ q = 8 ∨ q = 9 ∨ q = 10 ∨ q = 11 ∨ q = 12 ∨ q = 13 ∨ q = 14 ∨ q = 15) with rfl | rfl | rfl | rfl | rfl | rfl | rfl | rfl | rfl | rfl | rfl | rfl | rfl | rfl | rfl | rfl <;> kernel_rfl
theorem r2_digit_any (c : UInt8) (w : World) :
    Calls Tryz.prog 134 #[.int .u8 (c.toNat : Int)] w fun e w' => e = .returned (.int .i64 (digV c)) ∧ w = w' := by
  generalize hr : digV c = r
  have HR : Hid (digV c = r) := hr
  clear hr
  go_enter Tryz.func134, Tryz.ntmps134
  go_wp2
  go_loopw [3] (fun i wr => ∃ k : Nat, k ≤ 16 ∧ i = .int .i64 k ∧ w = wr ∧ Hid (∀ j, j < k → hexB j ≠ c)) (fun i _ => 16 - (intOf i).toNat)
  case atStart => exact ⟨0, by omega, rfl, rfl, fun j hj => absurd hj (by omega)⟩
  case round =>
    obtain ⟨k, hk, rfl, rfl, hinv⟩ := hrel
    by_cases hlt : k < 16
    · have hx := idx_hex64 k hlt
      by_cases he : hexB k = c
      · have HF : Hid (r = (k : Int)) := by show _ = _; rw [← HR.out, ← he, digV_hex k hlt]
        have hq : ((hexB k).toNat : Int) = (c.toNat : Int) := by rw [he]
        rw [hq] at hx
        clear HR hinv he hq
        go_wp2
        go_ret
        exact ⟨by rw [HF.out]; rfl, rfl⟩
      · have hq : ((hexB k).toNat : Int) ≠ (c.toNat : Int) := fun e => he (UInt8.toNat_inj.1 (by omega))
        have HF : Hid (∀ j, j < k + 1 → hexB j ≠ c) := by
          show ∀ j, _
          intro j hj
          by_cases h1 : j = k
          · subst h1; exact he
          · exact hinv.out j (by omega)
        clear HR hinv he
        go_wp2
        go_roundw
        case rel => exact ⟨k + 1, by omega, by go_num, by first | trivial | rfl, HF⟩
        case measure => simp [intOf]; omega
    · have HF : Hid (r = -1) := by
        show _ = _
        rw [← HR.out]
        by_cases h : digV c = -1
        · exact h
        · obtain ⟨g1, g2, g3⟩ := digV_hit c h
          exact absurd g3 (hinv.out _ (by omega))
      clear HR hinv
      go_wp2
      go_ret
      exact ⟨by rw [HF.out]; rfl, rfl⟩
set_option maxHeartbeats 2000000 in
set_option maxRecDepth 100000 in
theorem r2_escape_any (s : ByteArray) (w : World) (hs : s.size ≤ 1000000000) :
    Calls Tryz.prog 65 #[.string s] w fun e w' => e = .returned (.string (B (esc (L s)))) ∧ Below w.heap.size w w' := by
  generalize hr : esc (L s) = r
  have HR := Lib.hid hr
  clear hr
  go_enter Tryz.func65, Tryz.ntmps65
  go_wp2
  go_loopw [3, 4] (fun o i wr => ∃ (k : Nat) (acc : Bs), k ≤ s.size ∧ i = .int .i64 k ∧ wr.ownsRow w.heap.size 5 1 o acc.length (acc.map bc) ∧ Below w.heap.size w wr ∧ Hid (acc = esc ((L s).take k)) ∧ acc.length ≤ 3 * k) (fun _ i _ => s.size - (intOf i).toNat)
  case atStart => exact ⟨0, [], Nat.zero_le _, rfl, World.ownsRow_nil _ _ _ _, Below.refl _ _, rfl, Nat.le_refl _⟩
  case round =>
    obtain ⟨k, acc, hk, rfl, hown, hb, hinv, hal⟩ := hrel
    obtain ⟨wo, hwo⟩ : ∃ wo : World, wo = wr := ⟨_, rfl⟩
    subst hwo
    by_cases hlt : k < s.size
    · have hP := r2_plain_any s[k] wo
      have hstep : esc ((L s).take (k + 1)) = esc ((L s).take k) ++ esc1 s[k] := by rw [take_L s k hlt, esc_snoc]
      have hltI : (k : Int) < (s.size : Int) := by omega
      cases hp : plainB s[k]
      · have e1 : esc1 s[k] = [37, hexB (s[k].toNat / 16), hexB (s[k].toNat % 16)] := by unfold esc1; rw [hp]; rfl
        have HF : Hid (acc ++ [37, hexB (s[k].toNat / 16), hexB (s[k].toNat % 16)] = esc ((L s).take (k + 1))) := by
          show _ = _; rw [hstep, e1, hinv.out]
        rw [hp] at hP
        have hx1 : ∀ w, (Instr.index 9 (.string ⟨#[48, 49, 50, 51, 52, 53, 54, 55, 56, 57, 65, 66, 67, 68, 69, 70]⟩) (.int .u8 ((s[k].toNat : Int) / 16))).run Tryz.prog w = .ok (.int .u8 ((hexB (s[k].toNat / 16)).toNat : Int)) w := fun w => idx_hex (s[k].toNat / 16) (by have := byte_lt s[k]; omega) w
        have hx2 : ∀ w, (Instr.index 9 (.string ⟨#[48, 49, 50, 51, 52, 53, 54, 55, 56, 57, 65, 66, 67, 68, 69, 70]⟩) (.int .u8 (Int.tmod (s[k].toNat : Int) 16))).run Tryz.prog w = .ok (.int .u8 ((hexB (s[k].toNat % 16)).toNat : Int)) w := fun w => idx_hex (s[k].toNat % 16) (by omega) w
        have qw1 : IntKind.u8.wrap ((s[k].toNat : Int) / 16) = (s[k].toNat : Int) / 16 := IntWalk.u8_in _ ⟨by omega, by have := byte_lt s[k]; omega⟩
        have hdr : Below w.heap.size wo wo.drew := (Below.refl _ _).drew
        have hownD : wo.drew.ownsRow w.heap.size 5 1 u3 acc.length (acc.map bc) := hown
        have hbD : Below w.heap.size w wo.drew := hb.drew
        clear hp hstep e1 hinv
        go_wp2_with fail
        refine hP.mono ?_
        rintro e w1 ⟨rfl, rfl⟩
        clear hP hown
        obtain ⟨Ao, co, hov⟩ := own_shape hownD
        subst hov
        go_wp2_with fail
        go_region_law (refine step_pushN rfl _ _ 81 rfl w.heap.size 5 (.int .u8 0) 1 1 Tryz.underlying81 info_u8 rfl (by decide) _ acc.length _ hownD rfl [.int .u8 37, .int .u8 ((hexB (s[k].toNat / 16)).toNat : Int), .int .u8 ((hexB (s[k].toNat % 16)).toNat : Int)] 3 rfl rfl (by intro u hu; simp at hu; rcases hu with rfl | rfl | rfl <;> rfl) (by omega) hbD.size ?_ rfl; intro v' w' hown' hg' _)
        all_goals
          have hb' := hbD.grown hg' hbD.size (fun x hx => (hownD.lt x hx).1)
          go_wp2_with fail
          go_roundw
          case rel => exact ⟨k + 1, acc ++ [37, hexB (s[k].toNat / 16), hexB (s[k].toNat % 16)], by omega, by go_num, by rw [List.length_append, List.map_append]; exact hown', hb', HF, by rw [List.length_append]; simp; omega⟩
          case measure => simp [intOf]; omega
      · have e1 : esc1 s[k] = [s[k]] := by unfold esc1; rw [hp]; rfl
        have HF : Hid (acc ++ [s[k]] = esc ((L s).take (k + 1))) := by show _ = _; rw [hstep, e1, hinv.out]
        rw [hp] at hP
        clear hp hstep e1 hinv
        go_wp2_with fail
        refine hP.mono ?_
        rintro e w1 ⟨rfl, rfl⟩
        clear hP
        go_wp2_with (at_builtin; refine wpList_push wo rfl _ _ 81 rfl w.heap.size 5 (.int .u8 0) 1 1 Tryz.underlying81 info_u8 rfl (by decide) _ acc.length _ hown rfl [bc s[k]] rfl rfl (by intro u hu; simp at hu; subst hu; rfl) (by omega) hb.size ?_ rfl)
        intro v' w1' hown' _ _ hb' _
        clear hown
        go_wp2
        go_roundw
        case rel => exact ⟨k + 1, acc ++ [s[k]], by omega, by go_num, by simpa using hown', hb.trans hb', HF, by simp; omega⟩
        case measure => simp [intOf]; omega
    · have hltI : ¬ (k : Int) < (s.size : Int) := by omega
      have HF : Hid (r = acc) := by show _ = _; rw [← HR.out, hinv.out, List.take_of_length_le (by have := size_L s; omega)]
      obtain ⟨Ao, co, hov⟩ := own_shape hown
      subst hov
      have hcv := run_str (P := Tryz.prog) (w := wo) 81 9 5 Tryz.underlying81 Tryz.underlying9 Tryz.underlying5 w.heap.size _ _ hown
      clear hinv hown
      go_wp2
      go_ret
      exact ⟨by rw [HF.out] <;> rfl, hb⟩
end Go.Proofs.YtoopoglkeeoamaaGreatDoor
/- Plain law: what the reference's Unescape computes is the layer's. -/
namespace Go.Proofs.YtoopoglkeeoamaaGreatDoor
open Go.RowKit Go.Sort
open Idn (L B Bs cutC fstC)
def byteAt (a b : UInt8) : UInt8 := UInt8.ofNat (16 * (digV a).toNat + (digV b).toNat)
/-- what the reference reads before it compares with Escape -/
def lax : Bs → Option Bs
  | [] => some []
  | [c] => if c != 37 then some [c] else none
  | [c, d] => if c != 37 then (lax [d]).map (c :: ·) else none
  | c :: a :: b :: r => if c != 37 then (lax (a :: b :: r)).map (c :: ·) else if digV a < 0 ∨ digV b < 0 then none else (lax r).map (byteAt a b :: ·)
theorem lax_other {c : UInt8} (h : c ≠ 37) : ∀ l : Bs, lax (c :: l) = (lax l).map (c :: ·)
  | [] => by simp [lax, h]
  | [d] => by simp [lax, h]
  | a :: b :: r => by rw [lax, if_pos (by simpa using h)]
theorem lax_short {l : Bs} (h : l.length < 2) : lax (37 :: l) = none := by
  match l, h with
  | [], _ => rfl
  | [d], _ => rfl
theorem lax_hex (a b : UInt8) (r : Bs) : lax (37 :: a :: b :: r) = if digV a < 0 ∨ digV b < 0 then none else (lax r).map (byteAt a b :: ·) := by
  rw [lax, if_neg (by decide)]
theorem unhex_dig (c : UInt8) : unhex c = if digV c < 0 then none else some (digV c).toNat := by
  unfold unhex digV
  split
  · rename_i h
    rw [if_neg (by omega)]
    congr 1; omega
  · split
    · rename_i h
      rw [if_neg (by omega)]
      congr 1; omega
    · rfl
theorem unesc_other {c : UInt8} (h : plainB c = false) (h2 : c ≠ 37) : ∀ l : Bs, unesc (c :: l) = none
  | [] => by simp [unesc, h]
  | [d] => by simp [unesc, h]
  | a :: b :: r => by rw [unesc, h, if_neg (by decide), if_pos (by simpa using h2)]
theorem unesc_short {l : Bs} (h : l.length < 2) : unesc (37 :: l) = none := by
  match l, h with
  | [], _ => rfl
  | [d], _ => rfl
theorem unesc_hex (a b : UInt8) (r : Bs) : unesc (37 :: a :: b :: r) = if digV a < 0 ∨ digV b < 0 ∨ plainB (byteAt a b) = true then none else (unesc r).map (byteAt a b :: ·) := by
  rw [unesc, if_neg (by decide), if_neg (by decide), unesc3, unhex_dig, unhex_dig]
  by_cases h1 : digV a < 0
  · simp [h1]
  · by_cases h2 : digV b < 0
    · simp [h1, h2]
    · rw [if_neg h1, if_neg h2]
      dsimp only
      have e : UInt8.ofNat ((digV a).toNat * 16 + (digV b).toNat) = byteAt a b := by unfold byteAt; rw [Nat.mul_comm]
      rw [e]
      by_cases h3 : plainB (byteAt a b) = true
      · rw [if_pos h3, if_pos (Or.inr (Or.inr h3))]
      · rw [if_neg h3, if_neg (by simp [h1, h2, h3])]
theorem esc_hex {a b : UInt8} (h1 : ¬ digV a < 0) (h2 : ¬ digV b < 0) (h3 : plainB (byteAt a b) = false) : esc1 (byteAt a b) = [37, a, b] := by
  obtain ⟨a1, a2, a3⟩ := digV_hit a (by omega)
  obtain ⟨b1, b2, b3⟩ := digV_hit b (by omega)
  have e : (byteAt a b).toNat = 16 * (digV a).toNat + (digV b).toNat := by
    unfold byteAt
    rw [UInt8.toNat_ofNat']
    omega
  unfold esc1
  rw [h3, if_neg (by decide), e, show (16 * (digV a).toNat + (digV b).toNat) / 16 = (digV a).toNat by omega, show (16 * (digV a).toNat + (digV b).toNat) % 16 = (digV b).toNat by omega, a3, b3]
theorem unesc_lax : ∀ (n : Nat) (s v : Bs), s.length ≤ n → unesc s = some v → lax s = some v ∧ esc v = s
  | 0, s, v, hn, h => by
    obtain rfl : s = [] := List.eq_nil_of_length_eq_zero (by omega)
    simp [unesc] at h; subst h; exact ⟨rfl, rfl⟩
  | n + 1, [], v, hn, h => by simp [unesc] at h; subst h; exact ⟨rfl, rfl⟩
  | n + 1, c :: l, v, hn, h => by
    rw [List.length_cons] at hn
    cases hp : plainB c
    · by_cases h37 : c = 37
      · subst h37
        by_cases hl : l.length < 2
        · rw [unesc_short hl] at h; cases h
        · match l, hl with
          | a :: b :: r, _ =>
            rw [unesc_hex] at h
            split at h
            · cases h
            · rename_i hc
              simp only [not_or] at hc
              obtain ⟨h1, h2, h3⟩ := hc
              obtain ⟨v', hv', rfl⟩ := Option.map_eq_some_iff.1 h
              obtain ⟨k1, k2⟩ := unesc_lax n r v' (by simp at hn; omega) hv'
              refine ⟨by rw [lax_hex, if_neg (by simp [h1, h2]), k1]; rfl, ?_⟩
              show esc1 (byteAt a b) ++ esc v' = _
              rw [esc_hex h1 h2 (by simpa using h3), k2]; rfl
      · rw [unesc_other hp h37] at h; cases h
    · have h37 : c ≠ 37 := fun e => by subst e; cases hp
      rw [unesc_plain hp] at h
      obtain ⟨v', hv', rfl⟩ := Option.map_eq_some_iff.1 h
      obtain ⟨k1, k2⟩ := unesc_lax n l v' (by omega) hv'
      refine ⟨by rw [lax_other h37, k1]; rfl, ?_⟩
      show esc1 c ++ esc v' = _
      rw [k2]; unfold esc1; rw [hp]; rfl
/-- the string, or the error -/
def optE (o : Option Bs) : Bs × Int := match o with | none => ([], 4) | some v => (v, 0)
theorem lax_law (s : Bs) : optE (unesc s) = match lax s with | none => ([], 4) | some v => if esc v = s then (v, 0) else ([], 4) := by
  cases hu : unesc s with
  | some v =>
    obtain ⟨h1, h2⟩ := unesc_lax s.length s v (Nat.le_refl _) hu
    rw [h1]
    dsimp only
    rw [if_pos h2]; rfl
  | none =>
    cases hl : lax s with
    | none => rfl
    | some v =>
      dsimp only
      rw [if_neg]
      · rfl
      · intro e
        rw [← e, unesc_esc] at hu
        cases hu
end Go.Proofs.YtoopoglkeeoamaaGreatDoor
/- identityref02.Unescape, codec.Unescape. -/
namespace Go.Proofs.YtoopoglkeeoamaaGreatDoor
open Go.RowKit Go.Sort
open Idn (L B Bs drop_L take_L size_L)
theorem dig_nat (c : UInt8) (h : ¬ digV c < 0) : ∃ n : Nat, digV c = (n : Int) ∧ n < 16 := by
  obtain ⟨h1, h2, _⟩ := digV_hit c (by omega)
  exact ⟨(digV c).toNat, by omega, by omega⟩
theorem byteAt_nat {a b : UInt8} {h l : Nat} (ha : digV a = h) (hb : digV b = l) (h1 : h < 16) (h2 : l < 16) : ((byteAt a b).toNat : Int) = 16 * (h : Int) + (l : Int) := by
  unfold byteAt
  rw [ha, hb, UInt8.toNat_ofNat']
  omega
theorem drop_three (s : ByteArray) (k : Nat) (h : k + 2 < s.size) : (L s).drop k = s[k] :: s[k + 1] :: s[k + 2] :: (L s).drop (k + 3) := by
  rw [drop_two s k (by omega), drop_L s (k + 2) h]
theorem rest_short (s : ByteArray) (k : Nat) (h : ¬ k + 2 < s.size) : ((L s).drop (k + 1)).length < 2 := by
  rw [List.length_drop, ← size_L]; omega
theorem byteEq0 {c d : UInt8} (h : c = d) : ((c.toNat : Int) != (d.toNat : Int)) = false := by rw [bne, byte_is h]; rfl
theorem byteNe1 {c d : UInt8} (h : ¬ c = d) : ((c.toNat : Int) != (d.toNat : Int)) = true := by rw [bne, byte_not h]; rfl
theorem idx_str (s : ByteArray) (j : Nat) (h : j < s.size) (i : Int) (hi : i = (j : Int)) (W : World) : (Instr.index 9 (.string s) (.int .i64 i)).run Tryz.prog W = .ok (.int .u8 (s[j].toNat : Int)) W := by
  subst hi
  rw [run_index_string W _ _ _ _ Tryz.underlying9, dif_pos ⟨by omega, by omega⟩]
  rfl
set_option maxHeartbeats 4000000 in
set_option maxRecDepth 100000 in
theorem r2_unescape_any (s : ByteArray) (w : World) (hs : s.size ≤ 100000000) :
    Calls Tryz.prog 79 #[.string s] w fun e w' => e = .returned (.tuple #[.string (B (optE (unesc (L s))).1), .int .i64 (optE (unesc (L s))).2]) ∧ Below w.heap.size w w' := by
  have hr := lax_law (L s)
  generalize optE (unesc (L s)) = r at *
  have HR := Lib.hid hr
  clear hr
  go_enter Tryz.func79, Tryz.ntmps79
  go_wp2
  go_loopw [4, 5] (fun o i wr => ∃ (k : Nat) (acc : Bs), k ≤ s.size ∧ i = .int .i64 k ∧ wr.ownsRow w.heap.size 5 1 o acc.length (acc.map bc) ∧ Below w.heap.size w wr ∧ acc.length ≤ k ∧ Hid (lax (L s) = (lax ((L s).drop k)).map (acc ++ ·))) (fun _ i _ => s.size - (intOf i).toNat)
  case atStart => exact ⟨0, [], Nat.zero_le _, rfl, World.ownsRow_nil _ _ _ _, Below.refl _ _, Nat.le_refl _, by show _ = _; simp⟩
  case round =>
    obtain ⟨k, acc, hk, rfl, hown, hb, hal, hinv⟩ := hrel
    obtain ⟨wo, hwo⟩ : ∃ wo : World, wo = wr := ⟨_, rfl⟩
    subst hwo
    by_cases hlt : k < s.size
    · have hltI : (k : Int) < (s.size : Int) := by omega
      by_cases h37 : s[k] = 37
      · have e2 : ((s[k].toNat : Int) != 37) = false := byteEq0 (d := 37) h37
        by_cases h2 : k + 2 < s.size
        · have h2I : ¬ ((s.size : Int) ≤ (k : Int) + 2) := by omega
          have hw1 : IntKind.i64.wrap ((k : Int) + 1) = (k : Int) + 1 := IntWalk.i64_in _ ⟨by omega, by omega⟩
          have hw2 : IntKind.i64.wrap ((k : Int) + 2) = (k : Int) + 2 := IntWalk.i64_in _ ⟨by omega, by omega⟩
          have hix1 := fun W => idx_str s (k + 1) (by omega) ((k : Int) + 1) (by omega) W
          have hix2 := fun W => idx_str s (k + 2) h2 ((k : Int) + 2) (by omega) W
          have hd := drop_three s k h2
          rw [h37] at hd
          have hlx := lax_hex s[k + 1] s[k + 2] ((L s).drop (k + 3))
          rw [← hd] at hlx
          have hDa := fun W => r2_digit_any s[k + 1] W
          have hDb := fun W => r2_digit_any s[k + 2] W
          by_cases ha : digV s[k + 1] < 0
          · have HF : Hid (r = ([], 4)) := by show _ = _; rw [HR.out, hinv.out, hlx, if_pos (.inl ha)]; rfl
            clear hlx hd hinv h37 hDb
            generalize digV s[k + 1] = da at *
            go_wp2_with (go_at_call 134; refine (hDa _).mono ?_; rintro e w1 ⟨rfl, rfl⟩)
            go_ret2
            exact ⟨by rw [HF.out]; rfl, hb⟩
          by_cases hbn : digV s[k + 2] < 0
          · have HF : Hid (r = ([], 4)) := by show _ = _; rw [HR.out, hinv.out, hlx, if_pos (.inr hbn)]; rfl
            clear hlx hd hinv h37
            generalize digV s[k + 1] = da at *
            generalize digV s[k + 2] = db at *
            go_wp2_with fail
            refine (hDa _).mono ?_
            rintro e w1 ⟨rfl, rfl⟩
            go_wp2_with fail
            refine (hDb _).mono ?_
            rintro e w1 ⟨rfl, rfl⟩
            go_wp2_with fail
            go_ret2
            exact ⟨by rw [HF.out]; rfl, hb⟩
          obtain ⟨na, hna, hna16⟩ := dig_nat s[k + 1] ha
          obtain ⟨nb, hnb, hnb16⟩ := dig_nat s[k + 2] hbn
          have hbt := byteAt_nat hna hnb hna16 hnb16
          have HF : Hid (lax (L s) = (lax ((L s).drop (k + 3))).map ((acc ++ [byteAt s[k + 1] s[k + 2]]) ++ ·)) := by
            show _ = _; rw [hinv.out, hlx, if_neg (by simp [ha, hbn]), map_app]
          have HBT : Hid (bc (byteAt s[k + 1] s[k + 2]) = .int .u8 (16 * (na : Int) + (nb : Int))) := by show _ = _; unfold bc; rw [hbt]
          rw [hna] at hDa
          rw [hnb] at hDb
          clear hlx hd hinv h37 ha hbn hna hnb hbt
          generalize byteAt s[k + 1] s[k + 2] = bt at *
          have f1 : ¬ (na : Int) < 0 := by omega
          have f2 : ¬ (nb : Int) < 0 := by omega
          have q0 : IntKind.i64.wrap (16 * (na : Int)) = 16 * (na : Int) := IntWalk.i64_in _ ⟨by omega, by omega⟩
          have q1 : IntKind.i64.wrap (16 * (na : Int) + (nb : Int)) = 16 * (na : Int) + (nb : Int) := IntWalk.i64_in _ ⟨by omega, by omega⟩
          have q2 : IntKind.u8.wrap (16 * (na : Int) + (nb : Int)) = 16 * (na : Int) + (nb : Int) := IntWalk.u8_in _ ⟨by omega, by omega⟩
          have hownD : wo.drew.ownsRow w.heap.size 5 1 u4 acc.length (acc.map bc) := hown
          have hbD : Below w.heap.size w wo.drew := hb.drew
          clear hown
          obtain ⟨Ao, co, hov⟩ := own_shape hownD
          subst hov
          go_wp2_with fail
          refine (hDa _).mono ?_
          rintro e w1 ⟨rfl, rfl⟩
          go_wp2_with fail
          refine (hDb _).mono ?_
          rintro e w1 ⟨rfl, rfl⟩
          go_wp2_with fail
          go_region_law (first
            | (go_simp
               go_at_call 134
               with_reducible refine (hDa _).mono ?_
               rintro e w1 ⟨rfl, rfl⟩
               go_wp2_with fail)
            | (go_simp
               go_at_call 134
               with_reducible refine (hDb _).mono ?_
               rintro e w1 ⟨rfl, rfl⟩
               go_wp2_with fail)
            | (refine step_push rfl _ _ 81 rfl w.heap.size 5 (.int .u8 0) 1 1 Tryz.underlying81 info_u8 rfl (by decide) _ acc.length _ hownD rfl [.int .u8 (16 * (na : Int) + (nb : Int))] rfl rfl (by intro u hu; simp at hu; subst hu; rfl) (by omega) hbD.size ?_ rfl
               intro v' w' hown' hg' _))
          all_goals
            have hb' := hbD.grown hg' hbD.size (fun x hx => (hownD.lt x hx).1)
            go_wp2_with fail
            go_roundw
            case rel => exact ⟨k + 3, acc ++ [bt], by omega, by go_num, by rw [List.length_append, List.map_append]; simp only [List.map_cons, List.map_nil]; rw [HBT.out]; exact hown', hb', by simp; omega, HF⟩
            case measure => simp [intOf]; omega
        · have h2I : (s.size : Int) ≤ (k : Int) + 2 := by omega
          have hd := drop_L s k hlt
          rw [h37] at hd
          have hsh := lax_short (rest_short s k h2)
          have HF : Hid (r = ([], 4)) := by show _ = _; rw [HR.out, hinv.out, hd, hsh]; rfl
          clear hsh hd hinv h37
          go_wp2
          go_ret2
          exact ⟨by rw [HF.out]; rfl, hb⟩
      · have e2 : ((s[k].toNat : Int) != 37) = true := byteNe1 (d := 37) h37
        have HF : Hid (lax (L s) = (lax ((L s).drop (k + 1))).map ((acc ++ [s[k]]) ++ ·)) := by show _ = _; rw [hinv.out, drop_L s k hlt, lax_other h37, map_app]
        clear hinv h37
        go_wp2_with (at_builtin; refine wpList_push wo rfl _ _ 81 rfl w.heap.size 5 (.int .u8 0) 1 1 Tryz.underlying81 info_u8 rfl (by decide) _ acc.length _ hown rfl [bc s[k]] rfl rfl (by intro u hu; simp at hu; subst hu; rfl) (by omega) hb.size ?_ rfl)
        intro v' w1' hown' _ _ hb' _
        clear hown
        go_wp2
        go_roundw
        case rel => exact ⟨k + 1, acc ++ [s[k]], by omega, by go_num, by simpa using hown', hb.trans hb', by simp; omega, HF⟩
        case measure => simp [intOf]; omega
    · have hltI : ¬ (k : Int) < (s.size : Int) := by omega
      have hlx : lax (L s) = some acc := by rw [hinv.out, drop_end s k hlt]; simp [lax]
      have HR2 : Hid (r = if esc acc = L s then (acc, 0) else ([], 4)) := by show _ = _; rw [HR.out, hlx]
      obtain ⟨Ao, co, hov⟩ := own_shape hown
      subst hov
      have hcv := run_str (P := Tryz.prog) (w := wo) 81 9 5 Tryz.underlying81 Tryz.underlying9 Tryz.underlying5 w.heap.size _ _ hown
      have hEs := r2_escape_any (B acc) wo (by rw [Idn.size_B]; omega)
      rw [Idn.L_B] at hEs
      have ht := str_beq (B (esc acc)) s
      rw [Idn.L_B] at ht
      clear hinv hlx HR
      by_cases he : esc acc = L s
      · rw [decide_eq_true he] at ht
        have HF : Hid (r = (acc, 0)) := by show _ = _; rw [HR2.out, if_pos he]
        clear HR2 he
        go_wp2_with fail
        refine hEs.mono ?_
        rintro e w2 ⟨rfl, hb2⟩
        have hcv2 := run_str (P := Tryz.prog) (w := w2) 81 9 5 Tryz.underlying81 Tryz.underlying9 Tryz.underlying5 w.heap.size _ _ (own_below hown hb2)
        clear hcv hEs hown
        go_wp2
        go_ret2
        exact ⟨by rw [HF.out] <;> rfl, hb.trans (hb2.mono hb.size)⟩
      · rw [decide_eq_false he] at ht
        have HF : Hid (r = ([], 4)) := by show _ = _; rw [HR2.out, if_neg he]
        clear HR2 he
        go_wp2_with fail
        refine hEs.mono ?_
        rintro e w2 ⟨rfl, hb2⟩
        clear hcv hEs hown
        go_wp2
        go_ret2
        exact ⟨by rw [HF.out]; rfl, hb.trans (hb2.mono hb.size)⟩
theorem idx_dig (c : UInt8) : Lib.indexByte [48, 49, 50, 51, 52, 53, 54, 55, 56, 57, 65, 66, 67, 68, 69, 70] c = digV c := by
  have h : ((List.range 256).all fun n => Lib.indexByte [48, 49, 50, 51, 52, 53, 54, 55, 56, 57, 65, 66, 67, 68, 69, 70] (UInt8.ofNat n) == digV (UInt8.ofNat n)) = true := by decide +kernel
  have := List.all_eq_true.1 h c.toNat (List.mem_range.2 c.toNat_lt)
  rw [UInt8.ofNat_toNat, beq_iff_eq] at this
  exact this
theorem or_hex (a b : Nat) (ha : a < 16) (hb : b < 16) : bits BinOp.or IntKind.i64 (16 * (a : Int)) (b : Int) = 16 * (a : Int) + (b : Int) := by
  have h : ((List.range 16).all fun a => (List.range 16).all fun b => bits BinOp.or IntKind.i64 (16 * (a : Int)) (b : Int) == 16 * (a : Int) + (b : Int)) = true := by kernel_rfl
  have h1 := List.all_eq_true.1 h a (List.mem_range.2 ha)
  have h2 := List.all_eq_true.1 h1 b (List.mem_range.2 hb)
  simpa using h2
set_option maxHeartbeats 4000000 in
set_option maxRecDepth 100000 in
theorem unescape_any (s : ByteArray) (w : World) (hs : s.size ≤ 100000000) :
    Calls Tryz.prog 76 #[.string s] w fun e w' => e = .returned (.tuple #[.string (B (optE (unesc (L s))).1), .int .i64 (optE (unesc (L s))).2]) ∧ Below w.heap.size w w' := by
  have hB0 := Bld.new w
  generalize hr : unesc (L s) = r
  have HR := Lib.hid hr
  clear hr
  go_enter Tryz.func76, Tryz.ntmps76
  go_wp2
  go_loopw [5] (fun i wr => ∃ (k : Nat) (acc : Bs), k ≤ s.size ∧ i = .int .i64 k ∧ Below w.heap.size w wr ∧ Bld w.heap.size w.heap.size (Lib.byteCells acc) wr ∧ acc.length ≤ k ∧ Hid (r = (unesc ((L s).drop k)).map (acc ++ ·))) (fun i _ => s.size - (intOf i).toNat)
  case atStart => exact ⟨0, [], Nat.zero_le _, rfl, (Below.refl _ _).alloc (Nat.le_refl _) _, hB0, Nat.le_refl _, by show _ = _; rw [← HR.out]; simp⟩
  case round =>
    obtain ⟨k, acc, hk, rfl, hb, hB, hal, hinv⟩ := hrel
    obtain ⟨wo, hwo⟩ : ∃ wo : World, wo = wr := ⟨_, rfl⟩
    subst hwo
    clear hB0 HR
    by_cases hlt : k < s.size
    · have hltI : (k : Int) < (s.size : Int) := by omega
      have hP := plain_any s[k] wo
      cases hp : plainB s[k]
      · rw [hp] at hP
        by_cases h37 : s[k] = 37
        · have e2 : ((s[k].toNat : Int) != 37) = false := byteEq0 (d := 37) h37
          by_cases h2 : k + 2 < s.size
          · have h2I : ¬ ((s.size : Int) ≤ (k : Int) + 2) := by omega
            have hw1 : IntKind.i64.wrap ((k : Int) + 1) = (k : Int) + 1 := IntWalk.i64_in _ ⟨by omega, by omega⟩
            have hw2 : IntKind.i64.wrap ((k : Int) + 2) = (k : Int) + 2 := IntWalk.i64_in _ ⟨by omega, by omega⟩
            have hix1 := fun W => idx_str s (k + 1) (by omega) ((k : Int) + 1) (by omega) W
            have hix2 := fun W => idx_str s (k + 2) h2 ((k : Int) + 2) (by omega) W
            have hd := drop_three s k h2
            rw [h37] at hd
            have hlx := unesc_hex s[k + 1] s[k + 2] ((L s).drop (k + 3))
            rw [← hd] at hlx
            have hDa := fun W => Tryz.strings_IndexByte ⟨#[48, 49, 50, 51, 52, 53, 54, 55, 56, 57, 65, 66, 67, 68, 69, 70]⟩ (s[k + 1].toNat : Int) W
            have hDb := fun W => Tryz.strings_IndexByte ⟨#[48, 49, 50, 51, 52, 53, 54, 55, 56, 57, 65, 66, 67, 68, 69, 70]⟩ (s[k + 2].toNat : Int) W
            have hca : ((s[k + 1].toNat : Int).toNat.toUInt8) = s[k + 1] := by simp
            have hcb : ((s[k + 2].toNat : Int).toNat.toUInt8) = s[k + 2] := by simp
            rw [hca] at hDa
            rw [hcb] at hDb
            have ea := idx_dig s[k + 1]
            have eb := idx_dig s[k + 2]
            change Lib.indexByte (ByteArray.mk #[48, 49, 50, 51, 52, 53, 54, 55, 56, 57, 65, 66, 67, 68, 69, 70]).data.toList s[k + 1] = _ at ea
            change Lib.indexByte (ByteArray.mk #[48, 49, 50, 51, 52, 53, 54, 55, 56, 57, 65, 66, 67, 68, 69, 70]).data.toList s[k + 2] = _ at eb
            rw [ea] at hDa
            rw [eb] at hDb
            clear hca hcb ea eb
            by_cases hab : digV s[k + 1] < 0 ∨ digV s[k + 2] < 0
            · have HF : Hid (r = none) := by show _ = _; rw [hinv.out, hlx, if_pos (by rcases hab with h | h; exact .inl h; exact .inr (.inl h))]; rfl
              clear hlx hd hinv h37
              generalize digV s[k + 1] = da at *
              generalize digV s[k + 2] = db at *
              go_wp2_with fail
              refine hP.mono ?_
              rintro e w1 ⟨rfl, rfl⟩
              clear hP
              by_cases hda : da < 0
              · clear hab
                go_wp2_with fail
                go_region_law (first
                  | (go_simp
                     go_at_call 133
                     with_reducible refine (hDa _).mono ?_
                     rintro e w1 ⟨rfl, rfl⟩
                     go_wp2_with fail)
                  | (go_simp
                     go_at_call 133
                     with_reducible refine (hDb _).mono ?_
                     rintro e w1 ⟨rfl, rfl⟩
                     go_wp2_with fail))
                all_goals
                  go_wp2_with fail
                  go_ret2
                  exact ⟨by rw [HF.out]; rfl, hb.drew⟩
              · have hdb : db < 0 := hab.resolve_left hda
                clear hab
                go_wp2_with fail
                go_region_law (first
                  | (go_simp
                     go_at_call 133
                     with_reducible refine (hDa _).mono ?_
                     rintro e w1 ⟨rfl, rfl⟩
                     go_wp2_with fail)
                  | (go_simp
                     go_at_call 133
                     with_reducible refine (hDb _).mono ?_
                     rintro e w1 ⟨rfl, rfl⟩
                     go_wp2_with fail))
                all_goals
                  go_wp2_with fail
                  go_ret2
                  exact ⟨by rw [HF.out]; rfl, hb.drew⟩
            · have ha : ¬ digV s[k + 1] < 0 := fun h => hab (.inl h)
              have hbn : ¬ digV s[k + 2] < 0 := fun h => hab (.inr h)
              obtain ⟨na, hna, hna16⟩ := dig_nat s[k + 1] ha
              obtain ⟨nb, hnb, hnb16⟩ := dig_nat s[k + 2] hbn
              have hbt := byteAt_nat hna hnb hna16 hnb16
              obtain ⟨bt, hbt0⟩ : ∃ bt, bt = byteAt s[k + 1] s[k + 2] := ⟨_, rfl⟩
              rw [← hbt0] at hbt hlx
              have hP2 := fun W => plain_any bt W
              rw [hbt] at hP2
              have hWb := fun W g1 g2 g3 => writeByte_any w.heap.size w.heap.size (Lib.byteCells acc) bt W g1 g2 g3
              rw [hbt] at hWb
              have f1 : ¬ (na : Int) < 0 := by omega
              have f2 : ¬ (nb : Int) < 0 := by omega
              have qs : IntKind.i64.wrap ((na : Int) * 16) = 16 * (na : Int) := by rw [Int.mul_comm]; exact IntWalk.i64_in _ ⟨by omega, by omega⟩
              have qs2 : IntKind.i64.wrap (16 * (na : Int)) = 16 * (na : Int) := IntWalk.i64_in _ ⟨by omega, by omega⟩
              have qo := or_hex na nb hna16 hnb16
              have q2 : (16 * (na : Int) + (nb : Int)) % 256 = 16 * (na : Int) + (nb : Int) := by omega
              have hBd : Bld w.heap.size w.heap.size (Lib.byteCells acc) wo.drew := hB.keep ((Below.refl _ _).drew)
              have hbD : Below w.heap.size w wo.drew := hb.drew
              rw [hna] at hDa
              rw [hnb] at hDb
              cases hpb : plainB (bt)
              · have HF : Hid (r = (unesc ((L s).drop (k + 3))).map ((acc ++ [bt]) ++ ·)) := by
                  show _ = _; rw [hinv.out, hlx, if_neg (by simp [ha, hbn, hpb]), map_app]
                rw [hpb] at hP2
                clear hlx hd hinv h37 hab ha hbn hna hnb hbt hbt0 hpb
                go_wp2_with fail
                refine hP.mono ?_
                rintro e w1 ⟨rfl, rfl⟩
                clear hP
                go_wp2_with fail
                go_region_law (first
                  | (go_simp
                     go_at_call 133
                     with_reducible refine (hDa _).mono ?_
                     rintro e w1 ⟨rfl, rfl⟩
                     go_wp2_with fail)
                  | (go_simp
                     go_at_call 133
                     with_reducible refine (hDb _).mono ?_
                     rintro e w1 ⟨rfl, rfl⟩
                     go_wp2_with fail))
                all_goals
                  go_wp2_with fail
                  refine (hP2 _).mono ?_
                  rintro e w2 ⟨rfl, rfl⟩
                  go_wp2_with fail
                  refine (hWb _ hBd (by rw [byteCells_len]; omega) hbD.size).mono ?_
                  rintro e w3 ⟨rfl, hB3, hb3, _⟩
                  go_wp2
                  go_roundw
                  case rel => exact ⟨k + 3, acc ++ [bt], by omega, by go_num, hbD.trans hb3, by rw [bytes_one]; exact hB3, by simp; omega, HF⟩
                  case measure => simp [intOf]; omega
              · have HF : Hid (r = none) := by
                  show _ = _; rw [hinv.out, hlx, if_pos (.inr (.inr hpb))]; rfl
                rw [hpb] at hP2
                clear hlx hd hinv h37 hab ha hbn hna hnb hbt hbt0 hpb hWb
                go_wp2_with fail
                refine hP.mono ?_
                rintro e w1 ⟨rfl, rfl⟩
                clear hP
                go_wp2_with fail
                go_region_law (first
                  | (go_simp
                     go_at_call 133
                     with_reducible refine (hDa _).mono ?_
                     rintro e w1 ⟨rfl, rfl⟩
                     go_wp2_with fail)
                  | (go_simp
                     go_at_call 133
                     with_reducible refine (hDb _).mono ?_
                     rintro e w1 ⟨rfl, rfl⟩
                     go_wp2_with fail))
                all_goals
                  go_wp2_with fail
                  refine (hP2 _).mono ?_
                  rintro e w2 ⟨rfl, rfl⟩
                  go_wp2_with fail
                  go_ret2
                  exact ⟨by rw [HF.out]; rfl, hbD⟩
          · have h2I : (s.size : Int) ≤ (k : Int) + 2 := by omega
            have hd := drop_L s k hlt
            rw [h37] at hd
            have hsh := unesc_short (rest_short s k h2)
            have HF : Hid (r = none) := by show _ = _; rw [hinv.out, hd, hsh]; rfl
            clear hsh hd hinv h37
            go_wp2_with fail
            refine hP.mono ?_
            rintro e w1 ⟨rfl, rfl⟩
            go_wp2
            go_ret2
            exact ⟨by rw [HF.out]; rfl, hb⟩
        · have e2 : ((s[k].toNat : Int) != 37) = true := byteNe1 (d := 37) h37
          have HF : Hid (r = none) := by show _ = _; rw [hinv.out, drop_L s k hlt, unesc_other hp h37]; rfl
          clear hinv h37 hp
          go_wp2_with fail
          refine hP.mono ?_
          rintro e w1 ⟨rfl, rfl⟩
          go_wp2
          go_ret2
          exact ⟨by rw [HF.out]; rfl, hb⟩
      · rw [hp] at hP
        have HF : Hid (r = (unesc ((L s).drop (k + 1))).map ((acc ++ [s[k]]) ++ ·)) := by show _ = _; rw [hinv.out, drop_L s k hlt, unesc_plain hp, map_app]
        have hW1 := writeByte_any w.heap.size w.heap.size (Lib.byteCells acc) s[k] wo hB (by rw [byteCells_len]; omega) hb.size
        clear hinv hp hB
        go_wp2_with (first | (go_at_call 122; refine hP.mono ?_; rintro e w1 ⟨rfl, rfl⟩) | (go_at_call 123; refine hW1.mono ?_; rintro e w1 ⟨rfl, hB1, hb1, _⟩))
        go_roundw
        case rel => exact ⟨k + 1, acc ++ [s[k]], by omega, by go_num, hb.trans hb1, by rw [bytes_one]; exact hB1, by simp; omega, HF⟩
        case measure => simp [intOf]; omega
    · have hltI : ¬ (k : Int) < (s.size : Int) := by omega
      have hStr := Tryz.Builder_String_any_k w.heap.size w.heap.size acc wo hB hb.size
      have HF : Hid (r = some acc) := by show _ = _; rw [hinv.out, drop_end s k hlt]; simp [unesc]
      clear hinv hB
      go_wp2_with fail
      refine hStr.mono ?_
      rintro e w4 ⟨rfl, _, hb4, _⟩
      go_wp2
      go_ret2
      exact ⟨by rw [HF.out]; rfl, hb.trans hb4⟩
end Go.Proofs.YtoopoglkeeoamaaGreatDoor
