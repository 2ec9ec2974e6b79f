/-
  Part of the proof; what its functions and lemmas say stands in the text.
-/
import Derived.Test.YtakonchpkchfhaaDoorEv15
set_option linter.unusedSimpArgs false
set_option linter.unusedVariables false
/-!
Regions whose order is open: quiet operations in whatever order, then a forced tail.
-/
namespace Go.Ev
open Go.RowKit

def preOps (P : Program) (G : List (Nat × SV)) (sp : Table) (all : List Oper) (rows0 : Rows) : List Oper → Nat → List SV → Rows → (List SV → Rows → Option D) → Option D
  | [], _, tmps, rows, K => K tmps rows
  | o :: rest, k, tmps, rows, K =>
    let run (tmps : List SV) : Option D := evQ P G sp (operandSV tmps) rows0 k o.op (fun s row => preOps P G sp all rows0 rest (k + 1) (putS tmps o.dst s) (setRow rows k row) K)
    match o.guard with
    | none => run tmps
    | some (j, want) => if guardU all tmps j = true then preOps P G sp all rows0 rest (k + 1) (putS tmps o.dst (.c undef)) rows K else
      match guardS all tmps (j, want) with
      | some (t, b) =>
        if b = want then run (tmps.set t (.bool want))
        else preOps P G sp all rows0 rest (k + 1) (putS (tmps.set t (.bool (!want))) o.dst (.c undef)) rows K
      | none => none

abbrev Out := SV × Option SV

def Wants (all : List Oper) (tmps : List SV) (o : Oper) (b : Bool) : Prop :=
  match o.guard with
  | none => b = true
  | some (j, want) => ∃ t, (all[j]?).bind (·.dst) = some t ∧ ((∃ c, tmps.getD t .any = .bool c ∧ (c == want) = b) ∨ (tmps.getD t .any = .c undef ∧ b = false))

def Good (P : Program) (G : List (Nat × SV)) (all : List Oper) (rows0 : Rows) (k : Nat) (tmps : List SV) (o : Oper) (x : Out) : Prop :=
  (Wants all tmps o true ∧ QGo P G (operandSV tmps) rows0 k o.op x.1 x.2) ∨ (Wants all tmps o false ∧ x = (.c undef, none))

def Goods (P : Program) (G : List (Nat × SV)) (all : List Oper) (rows0 : Rows) : Nat → List SV → List Oper → List Out → Prop
  | _, _, [], [] => True
  | k, tmps, o :: ops, x :: outs => Good P G all rows0 k tmps o x ∧ Goods P G all rows0 (k + 1) (putS tmps o.dst x.1) ops outs
  | _, _, _, _ => False

def putAll : List SV → List Oper → List Out → List SV
  | tmps, o :: ops, x :: outs => putAll (putS tmps o.dst x.1) ops outs
  | tmps, _, _ => tmps
def rowsAll : Rows → Nat → List Out → Rows
  | rows, k, x :: outs => rowsAll (setRow rows k x.2) (k + 1) outs
  | rows, _, [] => rows

section
variable {P : Program} {G : List (Nat × SV)} {sp : Table} {all : List Oper} {rows0 : Rows}

theorem preOps_ok (hsp : TableOK P G sp) : ∀ (rest : List Oper) (k : Nat) (tmps : List SV) (rows : Rows) (K : List SV → Rows → Option D) (r : D), preOps P G sp all rows0 rest k tmps rows K = some r →
    ∃ outs, Goods P G all rows0 k tmps rest outs ∧ K (putAll tmps rest outs) (rowsAll rows k outs) = some r
  | [], k, tmps, rows, K, r, h => ⟨[], trivial, h⟩
  | o :: rest, k, tmps, rows, K, r, h => by
    rw [preOps] at h
    simp only [] at h
    split at h
    · rename_i hg
      obtain ⟨s, row, h1, h2⟩ := evQ_ok hsp h
      obtain ⟨outs, h3, h4⟩ := preOps_ok hsp rest _ _ _ K r h1
      exact ⟨(s, row) :: outs, ⟨.inl ⟨by unfold Wants; rw [hg], h2⟩, h3⟩, h4⟩
    · rename_i j want hg
      split at h
      · rename_i hU
        obtain ⟨t, g1, g2⟩ := guardU_ok hU
        obtain ⟨outs, h3, h4⟩ := preOps_ok hsp rest _ _ _ K r h
        exact ⟨(.c undef, none) :: outs, ⟨.inr ⟨by unfold Wants; rw [hg]; exact ⟨t, g1, .inr ⟨g2, rfl⟩⟩, rfl⟩, h3⟩, h4⟩
      split at h
      · rename_i t b hgs
        obtain ⟨g1, g2⟩ := guardS_ok hgs
        split at h
        · rename_i hbw
          rw [set_lit g2 hbw] at h
          obtain ⟨s, row, h1, h2⟩ := evQ_ok hsp h
          obtain ⟨outs, h3, h4⟩ := preOps_ok hsp rest _ _ _ K r h1
          exact ⟨(s, row) :: outs, ⟨.inl ⟨by unfold Wants; rw [hg]; exact ⟨t, g1, .inl ⟨b, g2, by rw [hbw]; simp⟩⟩, h2⟩, h3⟩, h4⟩
        · rename_i hbw
          have hb' : b = !want := by cases b <;> cases want <;> simp at hbw ⊢
          rw [set_lit g2 hb'] at h
          obtain ⟨outs, h3, h4⟩ := preOps_ok hsp rest _ _ _ K r h
          exact ⟨(.c undef, none) :: outs, ⟨.inr ⟨by unfold Wants; rw [hg]; exact ⟨t, g1, .inl ⟨b, g2, by rw [hb']; cases want <;> simp⟩⟩, rfl⟩, h3⟩, h4⟩
      · cases h

theorem Goods.length {k : Nat} {tmps : List SV} : ∀ {ops : List Oper} {outs : List Out}, Goods P G all rows0 k tmps ops outs → outs.length = ops.length := by
  intro ops
  induction ops generalizing k tmps with
  | nil => intro outs h; cases outs with | nil => rfl | cons _ _ => exact h.elim
  | cons o ops ih => intro outs h; cases outs with | nil => exact h.elim | cons x outs => simp [ih h.2]

theorem Goods.get {k : Nat} {tmps : List SV} : ∀ {ops : List Oper} {outs : List Out}, Goods P G all rows0 k tmps ops outs → ∀ j o, ops[j]? = some o → ∃ x, outs[j]? = some x ∧ Good P G all rows0 (k + j) (putAll tmps (ops.take j) (outs.take j)) o x := by
  intro ops
  induction ops generalizing k tmps with
  | nil => intro outs h j o ho; simp at ho
  | cons o' ops ih =>
    intro outs h j o ho
    cases outs with
    | nil => exact h.elim
    | cons x outs =>
      cases j with
      | zero =>
        simp only [List.getElem?_cons_zero, Option.some.injEq] at ho; subst ho
        exact ⟨x, rfl, by simpa [putAll] using h.1⟩
      | succ j =>
        obtain ⟨y, h1, h2⟩ := ih h.2 j o (by simpa using ho)
        refine ⟨y, by simpa using h1, ?_⟩
        simp only [List.take_succ_cons, putAll]
        rw [show k + (j + 1) = k + 1 + j by omega]; exact h2

theorem putS_length (tmps : List SV) (d : Option Tmp) (s : SV) : (putS tmps d s).length = tmps.length := by cases d <;> simp [putS]
theorem putS_get_ne {tmps : List SV} {d : Option Tmp} {s : SV} {u : Nat} (h : d ≠ some u) : (putS tmps d s).getD u .any = tmps.getD u .any := by
  cases d with
  | none => rfl
  | some d =>
    have : d ≠ u := fun e => h (by rw [e])
    simp [putS, List.getD_eq_getElem?_getD, this]
theorem putS_get {tmps : List SV} {s : SV} {u : Nat} (h : u < tmps.length) : (putS tmps (some u) s).getD u .any = s := by
  simp [putS, List.getD_eq_getElem?_getD, h]

theorem putAll_length : ∀ (ops : List Oper) (outs : List Out) (tmps : List SV), (putAll tmps ops outs).length = tmps.length
  | [], _, _ => by simp [putAll]
  | o :: ops, [], _ => by simp [putAll]
  | o :: ops, x :: outs, tmps => by simp only [putAll]; rw [putAll_length ops outs, putS_length]
/-- No operation writes the slot. -/
theorem putAll_old {u : Nat} : ∀ (ops : List Oper) (outs : List Out) (tmps : List SV), (∀ o ∈ ops, o.dst ≠ some u) → (putAll tmps ops outs).getD u .any = tmps.getD u .any
  | [], _, _, _ => by simp [putAll]
  | o :: ops, [], _, _ => by simp [putAll]
  | o :: ops, x :: outs, tmps, h => by
    simp only [putAll]
    rw [putAll_old ops outs _ (fun o' ho' => h o' (List.mem_cons_of_mem _ ho')), putS_get_ne (h o List.mem_cons_self)]
/-- One alone writes it. -/
theorem putAll_new {u : Nat} : ∀ (ops : List Oper) (outs : List Out) (tmps : List SV) (j : Nat) (o : Oper) (x : Out), u < tmps.length → ops[j]? = some o → outs[j]? = some x → o.dst = some u → (∀ i o', i ≠ j → ops[i]? = some o' → o'.dst ≠ some u) →
    (putAll tmps ops outs).getD u .any = x.1
  | [], _, _, j, o, x, _, h, _, _, _ => by simp at h
  | o' :: ops, [], _, j, o, x, _, _, h, _, _ => by simp at h
  | o' :: ops, y :: outs, tmps, j, o, x, hu, ho, hx, hd, huniq => by
    simp only [putAll]
    cases j with
    | zero =>
      simp only [List.getElem?_cons_zero, Option.some.injEq] at ho hx
      subst ho; subst hx
      rw [putAll_old ops outs _ (fun o2 ho2 => by
        obtain ⟨i, hi, e⟩ := List.mem_iff_getElem.1 ho2
        exact huniq (i + 1) o2 (by omega) (by simp [hi, e]))]
      rw [hd]; exact putS_get hu
    | succ j =>
      exact putAll_new ops outs _ j o x (by rw [putS_length]; exact hu) (by simpa using ho) (by simpa using hx) hd fun i o2 hi ho2 => huniq (i + 1) o2 (by omega) (by simpa using ho2)

def rowAt (outs : List Out) (rows : Rows) (k idx : Nat) : Option (Option Row) :=
  if k ≤ idx then match outs[idx - k]? with
    | some (_, some con) => some (some ⟨con, true⟩)
    | _ => rows[idx]?
  else rows[idx]?
theorem rowsAll_get : ∀ (outs : List Out) (rows : Rows) (k idx : Nat), k + outs.length ≤ rows.length → (rowsAll rows k outs)[idx]? = rowAt outs rows k idx
  | [], rows, k, idx, _ => by simp [rowsAll, rowAt]
  | (s, row) :: outs, rows, k, idx, h => by
    simp only [rowsAll]
    simp only [List.length_cons] at h
    rw [rowsAll_get outs _ (k + 1) idx (by rw [setRow_length]; omega)]
    unfold rowAt
    rcases Nat.lt_trichotomy idx k with h1 | h1 | h1
    · rw [if_neg (by omega), if_neg (by omega)]
      cases row with
      | none => rfl
      | some con => simp only [setRow]; rw [List.getElem?_set]; rw [if_neg (by omega)]
    · subst h1
      rw [if_neg (by omega), if_pos (Nat.le_refl _)]
      simp only [Nat.sub_self, List.getElem?_cons_zero]
      cases row with
      | none => rfl
      | some con => simp only [setRow]; rw [List.getElem?_set]; simp; omega
    · rw [if_pos (by omega), if_pos (by omega)]
      rw [show idx - k = (idx - (k + 1)) + 1 by omega, List.getElem?_cons_succ]
      have : (setRow rows k row)[idx]? = rows[idx]? := by
        cases row with
        | none => rfl
        | some con => simp only [setRow]; rw [List.getElem?_set]; rw [if_neg (by omega)]
      rw [this]
end

/-! ### What is asked of a region -/
def readsOf (o : Oper) : List Nat := o.op.operands.toList.filterMap fun | .tmp t => some t | _ => none

/-- Operation j, of the first n: edges point back; who writes what it reads comes ahead, by an edge; nobody else writes what it writes. -/
def opOK (ops : List Oper) (n j : Nat) (o : Oper) : Bool :=
  (o.after.toList.all fun e => !Region.binds .any e || decide (e.on < j)) &&
  ((readsOf o).all fun u => (List.range n).all fun i => match ops[i]? with
    | some oi => if oi.dst == some u then decide (i < j) && Region.waitsFor .any ops.toArray j i else true
    | none => true) &&
  (match o.guard with
    | none => true
    | some (g, _) => decide (g < j) && Region.waitsFor .any ops.toArray j g && (match ops[g]? with | some og => og.dst.isSome | none => false)) &&
  ((List.range n).all fun i => match ops[i]? with
    | some oi => i == j || oi.dst == none || !(oi.dst == o.dst)
    | none => true)

def headOK (ops : List Oper) (n : Nat) : Bool := (List.range n).all fun j => match ops[j]? with | some o => opOK ops n j o | none => false

def listedN (n m : Nat) : Array Bool := ⟨List.replicate n true ++ List.replicate (m - n) false⟩

def tailOK (ops : List Oper) (n : Nat) : Bool :=
  if n < ops.length then Region.sinkB .any ops.toArray n && Region.chainB .any ops.toArray n && Region.seqB .any ops.toArray (ops.length - n) n (listedN n ops.length) else true

structure HeadSpec (ops : List Oper) (n : Nat) : Prop where
  edge : ∀ (j : Nat) (o : Oper), j < n → ops[j]? = some o → ∀ e ∈ o.after, Region.binds .any e = true → e.on < j
  read : ∀ (j : Nat) (o : Oper), j < n → ops[j]? = some o → ∀ u, Operand.tmp u ∈ o.op.operands → ∀ (i : Nat) (oi : Oper), i < n → ops[i]? = some oi → oi.dst = some u → i < j ∧ Region.waitsFor .any ops.toArray j i = true
  guard : ∀ (j : Nat) (o : Oper), j < n → ops[j]? = some o → ∀ g want, o.guard = some (g, want) → g < j ∧ Region.waitsFor .any ops.toArray j g = true
  uniq : ∀ (i j : Nat) (oi oj : Oper) (u : Nat), i < n → j < n → ops[i]? = some oi → ops[j]? = some oj → oi.dst = some u → oj.dst = some u → i = j

theorem headOK_spec {ops : List Oper} {n : Nat} (h : headOK ops n = true) : HeadSpec ops n := by
  have all : ∀ (j : Nat) (o : Oper), j < n → ops[j]? = some o → opOK ops n j o = true := by
    intro j o hj ho
    have := List.all_eq_true.1 h j (List.mem_range.2 hj)
    rw [ho] at this; exact this
  have parts : ∀ (j : Nat) (o : Oper), j < n → ops[j]? = some o → _ := fun j o hj ho => by
    have := all j o hj ho
    unfold opOK at this
    rw [Bool.and_eq_true, Bool.and_eq_true, Bool.and_eq_true] at this
    exact this
  refine ⟨fun j o hj ho e he hb => ?_, fun j o hj ho u hu i oi hi hoi hd => ?_, fun j o hj ho g want hg => ?_, fun i j oi oj u hi hj hoi hoj hdi hdj => ?_⟩
  · have := List.all_eq_true.1 (parts j o hj ho).1.1.1 e (Array.mem_toList_iff.2 he)
    rw [hb] at this
    simpa using this
  · have h1 := List.all_eq_true.1 (parts j o hj ho).1.1.2 u (by
      unfold readsOf
      rw [List.mem_filterMap]
      exact ⟨.tmp u, Array.mem_toList_iff.2 hu, rfl⟩)
    have h2 := List.all_eq_true.1 h1 i (List.mem_range.2 hi)
    rw [hoi] at h2
    simp only [hd, beq_self_eq_true, if_true, Bool.and_eq_true, decide_eq_true_eq] at h2
    exact h2
  · have h1 := (parts j o hj ho).1.2
    rw [hg] at h1
    simp only [Bool.and_eq_true, decide_eq_true_eq] at h1
    exact ⟨h1.1.1, h1.1.2⟩
  · have h1 := List.all_eq_true.1 (parts j oj hj hoj).2 i (List.mem_range.2 hi)
    rw [hoi] at h1
    simp only [hdi, hdj, Bool.or_eq_true, beq_iff_eq, Bool.not_eq_true', beq_eq_false_iff_ne, ne_eq, not_true, or_false, reduceCtorEq] at h1
    exact h1
end Go.Ev
