/-
  Part of the proof; what its functions and lemmas say stands in the text.
-/
import Derived.Test.YtakonchpkchfhaaDoorEv14
import Derived.StillTail
set_option linter.unusedSimpArgs false
set_option linter.unusedVariables false
/-!
Regions: operations one behind the other.
-/
namespace Go.Ev
open Go.RowKit

def evS (P : Program) (ρ : Operand → SV) (rows : Rows) (k : Nat) (op : Op) (K : SV → Rows → Option D) : Option D :=
  match op with
  | .store t x y => evStore P rows t (ρ x) (ρ y) (fun rows' => K .any rows')
  | .call c => match c with
    | { callee := .builtin .append, args := ⟨[x, y]⟩, argTypes := ⟨t :: ty :: _⟩ } => evAppend P ρ rows k x y t ty K
    | _ => none
  | _ => none
def isS : Op → Bool
  | .store _ _ _ => true
  | .call c => match c.callee with
    | .builtin .append => true
    | _ => false
  | _ => false

def evQ (P : Program) (G : List (Nat × SV)) (sp : Table) (ρ : Operand → SV) (rows : Rows) (k : Nat) (op : Op) (K : OpK D) : Option D :=
  match op with
  | .call c => match c.callee with
    | .value _ => evCall sp ρ rows k c K
    | _ => evOp P G ρ rows k (.call c) K
  | op => evOp P G ρ rows k op K

def putS (tmps : List SV) : Option Tmp → SV → List SV
  | some d, s => tmps.set d s
  | none, _ => tmps

/-- How an operation's guard stands: the slot that it asks, what it holds, what is wanted. -/
def guardS (all : List Oper) (tmps : List SV) (g : Nat × Bool) : Option (Nat × Bool) :=
  match (all[g.1]?).bind (·.dst) with
  | some t => match tmps.getD t .any with
    | .bool b => some (t, b)
    | _ => none
  | none => none

/-- Is the operation that a guard asks one that was passed over? -/
def isU : SV → Bool
  | .c (.tuple ⟨[]⟩) => true
  | _ => false
def guardU (all : List Oper) (tmps : List SV) (j : Nat) : Bool :=
  match (all[j]?).bind (·.dst) with
  | some t => isU (tmps.getD t .any)
  | none => false

def seqOps (P : Program) (G : List (Nat × SV)) (sp : Table) (all : List Oper) : List Oper → Nat → St → (St → Option D) → Option D
  | [], _, st, K => K st
  | o :: rest, k, st, K =>
    let run (tmps : List SV) : Option D :=
      if isS o.op then evS P (operandSV tmps) st.rows k o.op (fun s rows' => seqOps P G sp all rest (k + 1) ⟨putS tmps o.dst s, rows'⟩ K)
      else evQ P G sp (operandSV tmps) st.rows k o.op (fun s row => seqOps P G sp all rest (k + 1) ⟨putS tmps o.dst s, setRow st.rows k row⟩ K)
    match o.guard with
    | none => run st.tmps
    | some (j, want) => if guardU all st.tmps j = true then seqOps P G sp all rest (k + 1) ⟨putS st.tmps o.dst (.c undef), st.rows⟩ K else
      match guardS all st.tmps (j, want) with
      | some (t, b) =>
        if b = want then run (st.tmps.set t (.bool want))
        else seqOps P G sp all rest (k + 1) ⟨putS (st.tmps.set t (.bool (!want))) o.dst (.c undef), st.rows⟩ K
      | none => none

section
variable {P : Program} {G : List (Nat × SV)} {sp : Table}

theorem evS_ok {ρ : Operand → SV} {rows : Rows} {k : Nat} {op : Op} {K : SV → Rows → Option D} {r : D} (h : evS P ρ rows k op K = some r) :
    ∃ s rows', K s rows' = some r ∧ rows'.length = rows.length ∧ SGo P ρ rows k op s rows' := by
  unfold evS at h
  split at h
  · obtain ⟨rows', h1, h2, h3⟩ := evStore_ok (k := k) h
    exact ⟨_, rows', h1, h2, h3⟩
  · split at h
    · exact evAppend_ok h
    · cases h
  · cases h

theorem evQ_ok (hsp : TableOK P G sp) {ρ : Operand → SV} {rows : Rows} {k : Nat} {op : Op} {K : OpK D} {r : D} (h : evQ P G sp ρ rows k op K = some r) : ∃ s row, K s row = some r ∧ QGo P G ρ rows k op s row := by
  unfold evQ at h
  split at h
  · split at h
    · exact evCall_ok hsp h
    · exact evOp_ok h
  · exact evOp_ok h

theorem setRow_length (rows : Rows) (k : Nat) (row : Option SV) : (setRow rows k row).length = rows.length := by
  cases row <;> simp [setRow]

theorem reps_put {L : List (Option Loc)} {tmps : List SV} {a : Act} {d : Option Tmp} {s : SV} {v : Value} (h : reps L tmps a.tmps.toList) (hv : rep L s v) : reps L (putS tmps d s) (a.put d v).tmps.toList := by
  cases d with
  | none => exact h
  | some d => simp only [putS, Act.put, Array.toList_setIfInBounds]; exact reps_set d h hv

theorem put_defers {a : Act} {d : Option Tmp} {v : Value} : (a.put d v).defers = a.defers := by cases d <;> rfl

/-- Slots from k on are free. -/
def Free (L : List (Option Loc)) (rows : Rows) (k : Nat) : Prop := ∀ i, k ≤ i → i < rows.length → lo L i = none

theorem set_lit {tmps : List SV} {t : Nat} {b c : Bool} (hb : tmps.getD t .any = .bool b) (hc : b = c) : tmps.set t (.bool c) = tmps := by
  subst hc
  apply List.ext_getElem?
  intro i
  rw [List.getElem?_set]
  split
  · rename_i e; subst e
    split
    · rename_i hlt
      rw [List.getD_eq_getElem?_getD, List.getElem?_eq_getElem hlt] at hb
      simp only [Option.getD_some] at hb
      rw [List.getElem?_eq_getElem hlt, hb]
    · rename_i hlt
      rw [List.getElem?_eq_none (by omega)]
  · rfl

theorem guardS_ok {all : List Oper} {tmps : List SV} {g : Nat × Bool} {t : Nat} {b : Bool} (h : guardS all tmps g = some (t, b)) : (all[g.1]?).bind (·.dst) = some t ∧ tmps.getD t .any = .bool b := by
  unfold guardS at h
  split at h
  · rename_i t' ht
    split at h
    · rename_i b' hb
      simp only [Option.some.injEq, Prod.mk.injEq] at h
      obtain ⟨rfl, rfl⟩ := h
      exact ⟨ht, hb⟩
    · cases h
  · cases h

theorem wanted_guard {all : List Oper} {o : Oper} {j : Nat} {want b : Bool} {t : Nat} {L : List (Option Loc)} {tmps : List SV} {a : Act} (hg : o.guard = some (j, want)) (hd : (all[j]?).bind (·.dst) = some t) (hb : tmps.getD t .any = .bool b)
    (hr : reps L tmps a.tmps.toList) : Region.wanted o (yielded all.toArray a.tmps) = (b == want) := by
  unfold Region.wanted
  rw [hg]
  simp only [yielded]
  have ht : t < tmps.length := by
    rcases Nat.lt_or_ge t tmps.length with h | h
    · exact h
    · rw [List.getD_eq_getElem?_getD, List.getElem?_eq_none h] at hb; cases hb
  obtain ⟨v, h1, h2⟩ := reps_get hr t ht
  rw [hb] at h2
  simp only [rep] at h2; subst h2
  have h1' : a.tmps[t]? = some (.bool b) := by simpa using h1
  have hd' : (all.toArray[j]?).bind (·.dst) = some t := by simpa using hd
  rw [hd']
  simp only [Option.bind_some, h1']
  cases b <;> cases want <;> rfl

theorem isU_eq {s : SV} (h : isU s = true) : s = .c undef := by
  unfold isU at h
  split at h
  · rfl
  · cases h
theorem guardU_ok {all : List Oper} {tmps : List SV} {j : Nat} (h : guardU all tmps j = true) : ∃ t, (all[j]?).bind (·.dst) = some t ∧ tmps.getD t .any = .c undef := by
  unfold guardU at h
  split at h
  · rename_i t ht
    exact ⟨t, ht, isU_eq h⟩
  · cases h
theorem wanted_undef {all : List Oper} {o : Oper} {j : Nat} {want : Bool} {t : Nat} {L : List (Option Loc)} {tmps : List SV} {a : Act} (hg : o.guard = some (j, want)) (hd : (all[j]?).bind (·.dst) = some t) (hb : tmps.getD t .any = .c undef)
    (hr : reps L tmps a.tmps.toList) : Region.wanted o (yielded all.toArray a.tmps) = false := by
  unfold Region.wanted
  rw [hg]
  simp only [yielded]
  have ht : t < tmps.length := by
    rcases Nat.lt_or_ge t tmps.length with h | h
    · exact h
    · rw [List.getD_eq_getElem?_getD, List.getElem?_eq_none h] at hb; cases hb
  obtain ⟨v, h1, h2⟩ := reps_get hr t ht
  rw [hb] at h2
  simp only [rep] at h2; subst h2
  have h1' : a.tmps[t]? = some undef := by simpa using h1
  have hd' : (all.toArray[j]?).bind (·.dst) = some t := by simpa using hd
  rw [hd']
  simp only [Option.bind_some, h1']
  cases want <;> rfl

theorem seqOps_ok (hsp : TableOK P G sp) {all : List Oper} : ∀ (rest : List Oper) (k : Nat) (st : St) (K : St → Option D) (r : D), seqOps P G sp all rest k st K = some r →
    ∃ st', K st' = some r ∧ st'.rows.length = st.rows.length ∧ ∀ (w0 : World) (L : List (Option Loc)) (a : Act) (w : World), Glob G w0 → Rel w0 L st a w → Free L st.rows k → k + rest.length ≤ st.rows.length →
      ∀ (Q : Exit → Act → World → Prop), (∀ L' a' w', Rel w0 L' st' a' w' → Free L' st'.rows (k + rest.length) → Q .normal a' w') → wpList P all.toArray Q rest a w
  | [], k, st, K, r, h => ⟨st, h, rfl, fun _ L a w _ hrel hfree _ Q hQ => hQ L a w hrel hfree⟩
  | o :: rest, k, st, K, r, h => by
    rw [seqOps] at h
    -- the run of the operation
    have runs : ∀ (tmps : List SV), (if isS o.op then evS P (operandSV tmps) st.rows k o.op (fun s rows' => seqOps P G sp all rest (k + 1) ⟨putS tmps o.dst s, rows'⟩ K)
        else evQ P G sp (operandSV tmps) st.rows k o.op (fun s row => seqOps P G sp all rest (k + 1) ⟨putS tmps o.dst s, setRow st.rows k row⟩ K)) = some r →
        ∃ st', K st' = some r ∧ st'.rows.length = st.rows.length ∧ ∀ (w0 : World) (L : List (Option Loc)) (a : Act) (w : World), Glob G w0 → Rel w0 L ⟨tmps, st.rows⟩ a w → Free L st.rows k → k + (rest.length + 1) ≤ st.rows.length →
          ∀ (Q : Exit → Act → World → Prop), (∀ L' a' w', Rel w0 L' st' a' w' → Free L' st'.rows (k + (rest.length + 1)) → Q .normal a' w') → o.wp P a w (wpList P all.toArray Q rest) Q := by
      intro tmps hrun
      split at hrun
      · obtain ⟨s, rows', h1, h2, h3⟩ := evS_ok hrun
        obtain ⟨st', h4, h5, h6⟩ := seqOps_ok hsp rest (k + 1) _ K r h1
        refine ⟨st', h4, by simp only [] at h5; omega, fun w0 L a w hG hrel hfree hlen Q hQ => ?_⟩
        refine h3 w0 o rfl L a w (fun x _ => operand_rep hrel.tmps x) hrel.rows (by omega) (hfree k (Nat.le_refl _) (by omega)) hrel.defers _ Q fun v w' ⟨L', e1, e2, e3⟩ => ?_
        refine h6 w0 L' _ w' hG ⟨by rw [put_defers]; exact hrel.defers, reps_put (reps_mono e1.mono hrel.tmps) e2, e3⟩ (fun i hi hi2 => ?_) (by simp only []; omega) Q (fun L2 a2 w2 hr2 hf2 => hQ L2 a2 w2 hr2 (by rw [show k + (rest.length + 1) = k + 1 + rest.length by omega]; exact hf2))
        rw [e1.other i (by omega)]
        exact hfree i (by omega) (by simp only [] at hi2; omega)
      · obtain ⟨s, row, h1, h3⟩ := evQ_ok hsp hrun
        obtain ⟨st', h4, h5, h6⟩ := seqOps_ok hsp rest (k + 1) _ K r h1
        refine ⟨st', h4, by simp only [setRow_length] at h5; omega, fun w0 L a w hG hrel hfree hlen Q hQ => ?_⟩
        refine h3 w0 o rfl L a w st.rows (fun x _ => operand_rep hrel.tmps x) hrel.rows (fun _ _ h => h) (fun _ => ⟨by omega, hfree k (Nat.le_refl _) (by omega)⟩) hG hrel.defers _ Q fun v w' ⟨L', e1, e2, e3⟩ => ?_
        refine h6 w0 L' _ w' hG ⟨by rw [put_defers]; exact hrel.defers, reps_put (reps_mono e1.mono hrel.tmps) e2, e3⟩ (fun i hi hi2 => ?_) (by simp only [setRow_length]; omega) Q (fun L2 a2 w2 hr2 hf2 => hQ L2 a2 w2 hr2 (by rw [show k + (rest.length + 1) = k + 1 + rest.length by omega]; exact hf2))
        rw [e1.other i (by omega)]
        exact hfree i (by omega) (by simpa only [setRow_length] using hi2)
    simp only [] at h
    split at h
    · rename_i hg
      obtain ⟨st', h1, h2, h3⟩ := runs st.tmps h
      refine ⟨st', h1, h2, fun w0 L a w hG hrel hfree hlen Q hQ => ?_⟩
      have hw : Region.wanted o (yielded all.toArray a.tmps) = true := by unfold Region.wanted; rw [hg]
      rw [wpList, if_pos hw]
      exact .inl (h3 w0 L a w hG hrel hfree hlen Q hQ)
    · rename_i j want hg
      split at h
      · rename_i hU
        obtain ⟨t, g1, g2⟩ := guardU_ok hU
        obtain ⟨st', h4, h5, h6⟩ := seqOps_ok hsp rest (k + 1) _ K r h
        refine ⟨st', h4, h5, fun w0 L a w hG hrel hfree hlen Q hQ => ?_⟩
        have hw : ¬ Region.wanted o (yielded all.toArray a.tmps) = true := by rw [wanted_undef hg g1 g2 hrel.tmps]; simp
        rw [wpList, if_neg hw]
        exact h6 w0 L _ w hG ⟨by rw [put_defers]; exact hrel.defers, reps_put hrel.tmps (by simp only [rep]), hrel.rows⟩ (fun i hi hi2 => hfree i (by omega) hi2) (by simp only [List.length_cons] at hlen; simp only []; omega) Q
          (fun L2 a2 w2 hr2 hf2 => hQ L2 a2 w2 hr2 (by rw [List.length_cons, show k + (rest.length + 1) = k + 1 + rest.length by omega]; exact hf2))
      split at h
      · rename_i t b hgs
        obtain ⟨g1, g2⟩ := guardS_ok hgs
        split at h
        · rename_i hbw
          rw [set_lit g2 hbw] at h
          obtain ⟨st', h1, h2, h3⟩ := runs st.tmps h
          refine ⟨st', h1, h2, fun w0 L a w hG hrel hfree hlen Q hQ => ?_⟩
          have hw : Region.wanted o (yielded all.toArray a.tmps) = true := by rw [wanted_guard hg g1 g2 hrel.tmps, hbw]; simp
          rw [wpList, if_pos hw]
          exact .inl (h3 w0 L a w hG hrel hfree hlen Q hQ)
        · rename_i hbw
          have hb' : b = !want := by cases b <;> cases want <;> simp at hbw ⊢
          rw [set_lit g2 hb'] at h
          obtain ⟨st', h4, h5, h6⟩ := seqOps_ok hsp rest (k + 1) _ K r h
          refine ⟨st', h4, h5, fun w0 L a w hG hrel hfree hlen Q hQ => ?_⟩
          have hw : ¬ Region.wanted o (yielded all.toArray a.tmps) = true := by rw [wanted_guard hg g1 g2 hrel.tmps, hb']; cases want <;> simp
          rw [wpList, if_neg hw]
          exact h6 w0 L _ w hG ⟨by rw [put_defers]; exact hrel.defers, reps_put hrel.tmps (by simp only [rep]), hrel.rows⟩ (fun i hi hi2 => hfree i (by omega) hi2) (by simp only [List.length_cons] at hlen; simp only []; omega) Q
            (fun L2 a2 w2 hr2 hf2 => hQ L2 a2 w2 hr2 (by rw [List.length_cons, show k + (rest.length + 1) = k + 1 + rest.length by omega]; exact hf2))
      · cases h
end
end Go.Ev
