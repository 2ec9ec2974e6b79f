/-
  Part of the proof; what its functions and lemmas say stands in the text.
-/
import Derived.WalkKit
import Derived.Below
import Derived.Orders
import Derived.LoopN
import Derived.Laws.Rows
import Derived.Laws.Cells
import Derived.Laws.StructEq
set_option linter.unusedSimpArgs false
set_option linter.unusedVariables false
/-!
A symbolic evaluator of the model's code, and what it means: symbolic values, rows of memory, worlds.
-/
namespace Go.Ev
open Go.RowKit

/-- Where a row lies: its block, its first cell, how many cells it has. -/
structure Loc where
  blk : Nat
  base : Nat
  size : Nat

/-- The place of row r, where it has one. -/
def lo (L : List (Option Loc)) (r : Nat) : Option Loc := (L[r]?).getD none

/-- Symbolic values. -/
inductive SV where
  | any
  | bool (b : Bool)
  | i (k : IntKind) (n : Int)
  | u8 (x : BitVec 8)
  | u16 (x : BitVec 16)
  | u32 (x : BitVec 32)
  | u64 (x : BitVec 64)
  | f (k : FloatKind) (x : Nat)
  | nan (k : FloatKind)
  | c (v : Value)
  | gl (g : Nat)
  | ptr (r off : Nat)
  | sl (r off len : Nat)
  | agg (l : List SV)
  | ai (k : IntKind) (l : List Int)
  | a8 (l : List (BitVec 8))
  | a64 (l : List (BitVec 64))
  | tup (l : List SV)
  | clo (f : Nat) (l : List SV)
  deriving Inhabited

def vi (k : IntKind) (n : Int) : Value := .int k n
def v8 (x : BitVec 8) : Value := .int .u8 (x.toNat : Int)
def v64 (x : BitVec 64) : Value := .int .u64 (x.toNat : Int)

mutual
def rep (L : List (Option Loc)) : SV → Value → Prop
  | .any, _ => True
  | .bool b, v => v = .bool b
  | .i k n, v => v = .int k n
  | .u8 x, v => v = .int .u8 (x.toNat : Int)
  | .u16 x, v => v = .int .u16 (x.toNat : Int)
  | .u32 x, v => v = .int .u32 (x.toNat : Int)
  | .u64 x, v => v = .int .u64 (x.toNat : Int)
  | .f k x, v => v = .float k x
  | .nan k, v => ∃ x, v = .float k x ∧ (k.decode x).isNaN = true
  | .c u, v => v = u
  | .gl g, v => v = .pointer (some ⟨g, 0, none⟩)
  | .ptr r off, v => ∃ o, lo L r = some o ∧ v = .pointer (some ⟨o.blk, o.base + off, none⟩)
  | .sl r off len, v => ∃ o cap, lo L r = some o ∧ len ≤ cap ∧ off + cap ≤ o.size ∧ v = .slice (some ⟨o.blk, o.base + off, none⟩) len cap
  | .agg l, v => ∃ cs, v = .agg ⟨cs⟩ ∧ reps L l cs
  | .ai k l, v => v = .agg ⟨l.map (vi k)⟩
  | .a8 l, v => v = .agg ⟨l.map v8⟩
  | .a64 l, v => v = .agg ⟨l.map v64⟩
  | .tup l, v => ∃ cs, v = .tuple ⟨cs⟩ ∧ reps L l cs
  | .clo f l, v => ∃ cs, v = .func (.func f) #[] ⟨cs⟩ ∧ reps L l cs
def reps (L : List (Option Loc)) : List SV → List Value → Prop
  | [], vs => vs = []
  | s :: l, vs => ∃ v t, vs = v :: t ∧ rep L s v ∧ reps L l t
end

/-- The SV of a cell. -/
def SV.cell : SV → Nat → SV
  | .agg l, j => l.getD j .any
  | .ai k l, j => .i k (l.getD j 0)
  | .a8 l, j => .u8 (l.getD j 0)
  | .a64 l, j => .u64 (l.getD j 0)
  | _, _ => .any
/-- How many cells. -/
def SV.len : SV → Nat
  | .agg l => l.length
  | .ai _ l => l.length
  | .a8 l => l.length
  | .a64 l => l.length
  | _ => 0
def SV.setCell : SV → Nat → SV → Option SV
  | .agg l, j, s => some (.agg (l.set j s))
  | .ai k l, j, .i k' n => if k = k' then some (.ai k (l.set j n)) else none
  | .a8 l, j, .u8 x => some (.a8 (l.set j x))
  | .a64 l, j, .u64 x => some (.a64 (l.set j x))
  | _, _, _ => none
/-- A value's cells, as a row's content. -/
def SV.cells : SV → SV
  | .agg l => .agg l
  | .ai k l => .ai k l
  | .a8 l => .a8 l
  | .a64 l => .a64 l
  | s => .agg [s]

theorem reps_length {L : List (Option Loc)} : ∀ {l : List SV} {vs : List Value}, reps L l vs → vs.length = l.length
  | [], vs, h => by simp only [reps] at h; subst h; rfl
  | s :: l, vs, h => by
    simp only [reps] at h
    obtain ⟨v, t, rfl, _, h⟩ := h
    simp [reps_length h]

theorem reps_get {L : List (Option Loc)} : ∀ {l : List SV} {vs : List Value}, reps L l vs → ∀ j, j < l.length → ∃ v, vs[j]? = some v ∧ rep L (l.getD j .any) v
  | [], vs, h, j, hj => by cases hj
  | s :: l, vs, h, j, hj => by
    simp only [reps] at h
    obtain ⟨v, t, rfl, hv, h⟩ := h
    cases j with
    | zero => exact ⟨v, rfl, by simpa using hv⟩
    | succ j => simpa using reps_get h j (by simpa using hj)

theorem reps_of_get {L : List (Option Loc)} : ∀ {l : List SV} {vs : List Value}, vs.length = l.length → (∀ j, j < l.length → ∃ v, vs[j]? = some v ∧ rep L (l.getD j .any) v) → reps L l vs
  | [], vs, hl, _ => by simp only [reps]; simpa using hl
  | s :: l, [], hl, _ => by simp at hl
  | s :: l, v :: t, hl, h => by
    simp only [reps]
    obtain ⟨v', h1, h2⟩ := h 0 (by simp)
    simp at h1 h2
    subst h1
    refine ⟨v, t, rfl, h2, reps_of_get (by simpa using hl) fun j hj => ?_⟩
    simpa using h (j + 1) (by simpa using hj)

/-- A row of memory: what its cells hold, and whether it is the call's own. -/
structure Row where
  con : SV
  own : Bool

structure RowOK (L : List (Option Loc)) (l : Loc) (row : Row) (w : World) : Prop where
  len : row.con.len ≤ l.size
  blk : l.blk < w.heap.size
  cell : ∀ j, j < row.con.len → ∃ v, w.cell? ⟨l.blk, l.base + j, none⟩ = some v ∧ rep L (row.con.cell j) v
  all : row.own = true → ∀ j, j < l.size → ∃ v, w.cell? ⟨l.blk, l.base + j, none⟩ = some v
  free : row.own = true → ∀ j, j < l.size → w.frozen? ⟨l.blk, l.base + j, none⟩ = false

/-- What is known of the package-level variables. -/
def Glob (G : List (Nat × SV)) (w : World) : Prop :=
  ∀ g c, (g, c) ∈ G → g < w.heap.size ∧ ∀ j, j < c.len → ∃ v, w.cell? ⟨g, j, none⟩ = some v ∧ rep [] (c.cell j) v

structure RowsOK (w0 : World) (L : List (Option Loc)) (rows : List (Option Row)) (w : World) : Prop where
  below : Below w0.heap.size w0 w
  size : L.length = rows.length
  has : ∀ (r : Nat) (row : Row), rows[r]? = some (some row) → ∃ o, lo L r = some o
  row : ∀ (r : Nat) (row : Row) (o : Loc), rows[r]? = some (some row) → lo L r = some o → RowOK L o row w
  sep : ∀ (r s : Nat) (row row' : Row) (o o' : Loc), r ≠ s → rows[r]? = some (some row) → rows[s]? = some (some row') → lo L r = some o → lo L s = some o' → row.own = true → o.blk ≠ o'.blk
  new : ∀ (r : Nat) (row : Row) (o : Loc), rows[r]? = some (some row) → lo L r = some o → row.own = true → w0.heap.size ≤ o.blk

structure St where
  tmps : List SV
  rows : List (Option Row)

structure Rel (w0 : World) (L : List (Option Loc)) (st : St) (a : Act) (w : World) : Prop where
  defers : a.defers = []
  tmps : reps L st.tmps a.tmps.toList
  rows : RowsOK w0 L st.rows w

/-! ### Literals -/
def ofInt (k : IntKind) (n : Int) : SV :=
  match k with
  | .u8 => if ((BitVec.ofInt 8 n).toNat : Int) = n then .u8 (BitVec.ofInt 8 n) else .c (.int .u8 n)
  | .u16 => if ((BitVec.ofInt 16 n).toNat : Int) = n then .u16 (BitVec.ofInt 16 n) else .c (.int .u16 n)
  | .u32 => if ((BitVec.ofInt 32 n).toNat : Int) = n then .u32 (BitVec.ofInt 32 n) else .c (.int .u32 n)
  | .u64 => if ((BitVec.ofInt 64 n).toNat : Int) = n then .u64 (BitVec.ofInt 64 n) else .c (.int .u64 n)
  | k => .i k n

def ofScalar : Value → SV
  | .bool b => .bool b
  | .int k n => ofInt k n
  | .float k b => .f k b
  | v => .c v

theorem rep_ofInt (L : List (Option Loc)) (k : IntKind) (n : Int) : rep L (ofInt k n) (.int k n) := by
  unfold ofInt
  split
  · split
    · rename_i h; simp only [rep, h]
    · simp only [rep]
  · split
    · rename_i h; simp only [rep, h]
    · simp only [rep]
  · split
    · rename_i h; simp only [rep, h]
    · simp only [rep]
  · split
    · rename_i h; simp only [rep, h]
    · simp only [rep]
  · simp only [rep]

theorem rep_ofScalar (L : List (Option Loc)) (v : Value) : rep L (ofScalar v) v := by
  cases v <;> simp only [ofScalar, rep]
  exact rep_ofInt L _ _

/-- Lists of one kind. -/
def all8 : List SV → Option (List (BitVec 8))
  | [] => some []
  | .u8 x :: l => match all8 l with | some t => some (x :: t) | none => none
  | _ :: _ => none
def all64 : List SV → Option (List (BitVec 64))
  | [] => some []
  | .u64 x :: l => match all64 l with | some t => some (x :: t) | none => none
  | _ :: _ => none
def allI (k : IntKind) : List SV → Option (List Int)
  | [] => some []
  | .i k' n :: l => if k = k' then match allI k l with | some t => some (n :: t) | none => none else none
  | _ :: _ => none
/-- An aggregate of at least three cells of one kind is a list of numbers. -/
def norm (l : List SV) : SV :=
  match l with
  | .u8 _ :: _ :: _ :: _ => match all8 l with | some t => .a8 t | none => .agg l
  | .u64 _ :: _ :: _ :: _ => match all64 l with | some t => .a64 t | none => .agg l
  | .i k _ :: _ :: _ :: _ => match allI k l with | some t => .ai k t | none => .agg l
  | l => .agg l

theorem reps_all8 {L : List (Option Loc)} : ∀ {l : List SV} {t : List (BitVec 8)} {vs : List Value}, all8 l = some t → reps L l vs → vs = t.map v8
  | [], t, vs, h, hr => by simp only [all8, Option.some.injEq] at h; subst h; simpa [reps] using hr
  | s :: l, t, vs, h, hr => by
    cases s <;> simp only [all8, reduceCtorEq] at h
    split at h
    · rename_i t' ht
      simp only [Option.some.injEq] at h; subst h
      simp only [reps] at hr
      obtain ⟨v, u, rfl, hv, hr⟩ := hr
      simp only [rep] at hv
      simp [reps_all8 ht hr, v8, hv]
    · cases h
theorem reps_all64 {L : List (Option Loc)} : ∀ {l : List SV} {t : List (BitVec 64)} {vs : List Value}, all64 l = some t → reps L l vs → vs = t.map v64
  | [], t, vs, h, hr => by simp only [all64, Option.some.injEq] at h; subst h; simpa [reps] using hr
  | s :: l, t, vs, h, hr => by
    cases s <;> simp only [all64, reduceCtorEq] at h
    split at h
    · rename_i t' ht
      simp only [Option.some.injEq] at h; subst h
      simp only [reps] at hr
      obtain ⟨v, u, rfl, hv, hr⟩ := hr
      simp only [rep] at hv
      simp [reps_all64 ht hr, v64, hv]
    · cases h
theorem reps_allI {L : List (Option Loc)} {k : IntKind} : ∀ {l : List SV} {t : List Int} {vs : List Value}, allI k l = some t → reps L l vs → vs = t.map (vi k)
  | [], t, vs, h, hr => by simp only [allI, Option.some.injEq] at h; subst h; simpa [reps] using hr
  | s :: l, t, vs, h, hr => by
    cases s <;> simp only [allI, reduceCtorEq] at h
    split at h
    · rename_i hk
      subst hk
      split at h
      · rename_i t' ht
        simp only [Option.some.injEq] at h; subst h
        simp only [reps] at hr
        obtain ⟨v, u, rfl, hv, hr⟩ := hr
        simp only [rep] at hv
        simp [reps_allI ht hr, vi, hv]
      · cases h
    · cases h

theorem rep_norm {L : List (Option Loc)} {l : List SV} {vs : List Value} (h : reps L l vs) : rep L (norm l) (.agg ⟨vs⟩) := by
  unfold norm
  split
  · split
    · rename_i ht; simp only [rep, reps_all8 ht h]
    · exact ⟨vs, rfl, h⟩
  · split
    · rename_i ht; simp only [rep, reps_all64 ht h]
    · exact ⟨vs, rfl, h⟩
  · split
    · rename_i ht; simp only [rep, reps_allI ht h]
    · exact ⟨vs, rfl, h⟩
  · exact ⟨vs, rfl, h⟩

def ofScalars : List Value → List SV
  | [] => []
  | v :: l => ofScalar v :: ofScalars l
theorem reps_ofScalars (L : List (Option Loc)) : ∀ l : List Value, reps L (ofScalars l) l
  | [] => by simp only [ofScalars, reps]
  | v :: l => by simp only [ofScalars, reps]; exact ⟨v, l, rfl, rep_ofScalar L v, reps_ofScalars L l⟩

def ofValue : Value → SV
  | .agg ⟨cs⟩ => norm (ofScalars cs)
  | v => ofScalar v
theorem rep_ofValue (L : List (Option Loc)) (v : Value) : rep L (ofValue v) v := by
  unfold ofValue
  split
  · exact rep_norm (reps_ofScalars L _)
  · exact rep_ofScalar L v

/-! ### What a value's cells are -/
theorem rep_cells {L : List (Option Loc)} {s : SV} {v : Value} (h : rep L s v) (hs : ∀ l, s ≠ .tup l) (hn : s ≠ .any) (hc : ∀ u, s = .c u → u.cells = #[u]) :
    v.cells.size = s.cells.len ∧ ∀ j, j < s.cells.len → ∃ u, v.cells[j]? = some u ∧ rep L (s.cells.cell j) u := by
  have one : ∀ (u : Value), u.cells = #[u] → rep L s u → s.cells = .agg [s] → u.cells.size = s.cells.len ∧ ∀ j, j < s.cells.len → ∃ x, u.cells[j]? = some x ∧ rep L (s.cells.cell j) x := by
    intro u hu hr hse
    rw [hu, hse]
    refine ⟨rfl, fun j hj => ?_⟩
    have : j = 0 := by simp [SV.len] at hj; omega
    subst this
    exact ⟨u, rfl, by simpa [SV.cell] using hr⟩
  cases s with
  | any => exact absurd rfl hn
  | tup l => exact absurd rfl (hs l)
  | agg l =>
    simp only [rep] at h
    obtain ⟨cs, rfl, hr⟩ := h
    refine ⟨by simp [Value.cells, SV.cells, SV.len, reps_length hr], fun j hj => ?_⟩
    simpa [Value.cells, SV.cells, SV.cell] using reps_get hr j (by simpa [SV.cells, SV.len] using hj)
  | ai k l =>
    simp only [rep] at h; subst h
    refine ⟨by simp [Value.cells, SV.cells, SV.len], fun j hj => ?_⟩
    have hj' : j < l.length := by simpa [SV.cells, SV.len] using hj
    exact ⟨vi k (l.getD j 0), by simp [Value.cells, hj'], by simp only [SV.cells, SV.cell, rep, vi]⟩
  | a8 l =>
    simp only [rep] at h; subst h
    refine ⟨by simp [Value.cells, SV.cells, SV.len], fun j hj => ?_⟩
    have hj' : j < l.length := by simpa [SV.cells, SV.len] using hj
    exact ⟨v8 (l.getD j 0), by simp [Value.cells, hj'], by simp only [SV.cells, SV.cell, rep, v8]⟩
  | a64 l =>
    simp only [rep] at h; subst h
    refine ⟨by simp [Value.cells, SV.cells, SV.len], fun j hj => ?_⟩
    have hj' : j < l.length := by simpa [SV.cells, SV.len] using hj
    exact ⟨v64 (l.getD j 0), by simp [Value.cells, hj'], by simp only [SV.cells, SV.cell, rep, v64]⟩
  | c u => have h' := h; simp only [rep] at h; subst h; exact one _ (hc _ rfl) h' rfl
  | nan k => have h' := h; simp only [rep] at h; obtain ⟨x, rfl, _⟩ := h; exact one _ rfl h' rfl
  | sl r o n => have h' := h; simp only [rep] at h; obtain ⟨_, x, _, _, _, rfl⟩ := h; exact one _ rfl h' rfl
  | clo f l => have h' := h; simp only [rep] at h; obtain ⟨x, rfl, _⟩ := h; exact one _ rfl h' rfl
  | bool => have h' := h; simp only [rep] at h; subst h; exact one _ rfl h' rfl
  | i => have h' := h; simp only [rep] at h; subst h; exact one _ rfl h' rfl
  | u8 => have h' := h; simp only [rep] at h; subst h; exact one _ rfl h' rfl
  | u16 => have h' := h; simp only [rep] at h; subst h; exact one _ rfl h' rfl
  | u32 => have h' := h; simp only [rep] at h; subst h; exact one _ rfl h' rfl
  | u64 => have h' := h; simp only [rep] at h; subst h; exact one _ rfl h' rfl
  | f => have h' := h; simp only [rep] at h; subst h; exact one _ rfl h' rfl
  | gl => have h' := h; simp only [rep] at h; subst h; exact one _ rfl h' rfl
  | ptr => have h' := h; simp only [rep] at h; obtain ⟨_, _, rfl⟩ := h; exact one _ rfl h' rfl
end Go.Ev
