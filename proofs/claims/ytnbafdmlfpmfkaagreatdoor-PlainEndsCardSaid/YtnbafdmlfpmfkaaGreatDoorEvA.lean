/-
  Part of the proof; what its functions and lemmas say stands in the text.
-/
import Derived.WalkKit
import Derived.Below
import Derived.Orders
import Derived.LoopN
import Derived.Laws.Rows
import Derived.Laws.Cells
import Derived.Laws.StructEq
import Derived.Laws.IdiomCopy
import Derived.Laws.Cover2
set_option linter.unusedSimpArgs false
set_option linter.unusedVariables false
namespace Go.Ev
open Go.RowKit
structure Loc where
 blk : Nat
 base : Nat
 size : Nat
def lo (L : List (Option Loc)) (r : Nat) : Option Loc := (L[r]?).getD none
inductive SV where
 | any
 | bool (b : Bool)
 | i (k : IntKind) (n : Int)
 | u8 (x : BitVec 8)
 | u16 (x : BitVec 16)
 | u32 (x : BitVec 32)
 | u64 (x : BitVec 64)
 | f (k : FloatKind) (x : Nat)
 | nan (k : FloatKind)
 | xi (k : IntKind) (p : Int → Prop)
 | xf (k : FloatKind) (p : Nat → Prop)
 | xs
 | c (v : Value)
 | gl (g : Nat)
 | ptr (r off : Nat)
 | sl (r off len : Nat)
 | slm (z r off len : Nat)
 | sit (s : ByteArray) (pos : Nat)
 | agg (l : List SV)
 | ai (k : IntKind) (l : List Int)
 | a8 (l : List (BitVec 8))
 | a64 (l : List (BitVec 64))
 | tup (l : List SV)
 | clo (f : Nat) (l : List SV)
 deriving Inhabited
def vi (k : IntKind) (n : Int) : Value := .int k n
def v8 (x : BitVec 8) : Value := .int .u8 (x.toNat : Int)
def v64 (x : BitVec 64) : Value := .int .u64 (x.toNat : Int)
def nanOK (k : FloatKind) (x : Nat) : Prop := (k.decode x).isNaN = true ∧ x < 2 * k.format.signWeight
mutual
def rep (L : List (Option Loc)) : SV → Value → Prop
 | .any, _ => True
 | .bool b, v => v = .bool b
 | .i k n, v => v = .int k n
 | .u8 x, v => v = .int .u8 (x.toNat : Int)
 | .u16 x, v => v = .int .u16 (x.toNat : Int)
 | .u32 x, v => v = .int .u32 (x.toNat : Int)
 | .u64 x, v => v = .int .u64 (x.toNat : Int)
 | .f k x, v => v = .float k x
 | .nan k, v => ∃ x, v = .float k x ∧ nanOK k x
 | .xi k p, v => ∃ n, v = .int k n ∧ p n
 | .xf k p, v => ∃ x, v = .float k x ∧ p x
 | .xs, v => ∃ a n c, v = .slice a n c
 | .c u, v => v = u
 | .gl g, v => v = .pointer (some ⟨g, 0, none⟩)
 | .ptr r off, v => ∃ o, lo L r = some o ∧ v = .pointer (some ⟨o.blk, o.base + off, none⟩)
 | .sl r off len, v => ∃ o cap, lo L r = some o ∧ len ≤ cap ∧ off + cap ≤ o.size ∧ v = .slice (some ⟨o.blk, o.base + off, none⟩) len cap
 | .slm z r off len, v => ∃ o cap, lo L r = some o ∧ len ≤ cap ∧ off + cap * z ≤ o.size ∧ v = .slice (some ⟨o.blk, o.base + off, none⟩) len cap
 | .sit _ _, _ => False
 | .agg l, v => ∃ cs, v = .agg ⟨cs⟩ ∧ reps L l cs
 | .ai k l, v => v = .agg ⟨l.map (vi k)⟩
 | .a8 l, v => v = .agg ⟨l.map v8⟩
 | .a64 l, v => v = .agg ⟨l.map v64⟩
 | .tup l, v => ∃ cs, v = .tuple ⟨cs⟩ ∧ reps L l cs
 | .clo f l, v => ∃ cs, v = .func (.func f) #[] ⟨cs⟩ ∧ reps L l cs
def reps (L : List (Option Loc)) : List SV → List Value → Prop
 | [], vs => vs = []
 | s :: l, vs => ∃ v t, vs = v :: t ∧ rep L s v ∧ reps L l t
end
def SV.cell : SV → Nat → SV
 | .agg l, j => l.getD j .any
 | .ai k l, j => .i k (l.getD j 0)
 | .a8 l, j => .u8 (l.getD j 0)
 | .a64 l, j => .u64 (l.getD j 0)
 | _, _ => .any
def SV.len : SV → Nat
 | .agg l => l.length
 | .ai _ l => l.length
 | .a8 l => l.length
 | .a64 l => l.length
 | _ => 0
def SV.setCell : SV → Nat → SV → Option SV
 | .agg l, j, s => some (.agg (l.set j s))
 | .ai k l, j, .i k' n => if k = k' then some (.ai k (l.set j n)) else none
 | .a8 l, j, .u8 x => some (.a8 (l.set j x))
 | .a64 l, j, .u64 x => some (.a64 (l.set j x))
 | _, _, _ => none
def SV.cells : SV → SV
 | .agg l => .agg l
 | .ai k l => .ai k l
 | .a8 l => .a8 l
 | .a64 l => .a64 l
 | s => .agg [s]
theorem reps_length {L : List (Option Loc)} : ∀ {l : List SV} {vs : List Value}, reps L l vs → vs.length = l.length
 | [], vs, h => by simp only [reps] at h; subst h; rfl
 | s :: l, vs, h => by
  simp only [reps] at h
  obtain ⟨v, t, rfl, _, h⟩ := h
  simp [reps_length h]
theorem reps_get {L : List (Option Loc)} : ∀ {l : List SV} {vs : List Value}, reps L l vs → ∀ j, j < l.length → ∃ v, vs[j]? = some v ∧ rep L (l.getD j .any) v
 | [], vs, h, j, hj => by cases hj
 | s :: l, vs, h, j, hj => by
  simp only [reps] at h
  obtain ⟨v, t, rfl, hv, h⟩ := h
  cases j with
  | zero => exact ⟨v, rfl, by simpa using hv⟩
  | succ j => simpa using reps_get h j (by simpa using hj)
theorem reps_of_get {L : List (Option Loc)} : ∀ {l : List SV} {vs : List Value}, vs.length = l.length → (∀ j, j < l.length → ∃ v, vs[j]? = some v ∧ rep L (l.getD j .any) v) → reps L l vs
 | [], vs, hl, _ => by simp only [reps]; simpa using hl
 | s :: l, [], hl, _ => by simp at hl
 | s :: l, v :: t, hl, h => by
  simp only [reps]
  obtain ⟨v', h1, h2⟩ := h 0 (by simp)
  simp at h1 h2
  subst h1
  refine ⟨v, t, rfl, h2, reps_of_get (by simpa using hl) fun j hj => ?_⟩
  simpa using h (j + 1) (by simpa using hj)
def SV.isit : SV → Bool
 | .sit _ _ => true
 | _ => false
theorem SV.cells_isit (s : SV) (h : s.isit = false) : s.cells.isit = false := by cases s <;> first | rfl | exact h
structure Row where
 con : SV
 own : Bool
structure RowOK (L : List (Option Loc)) (l : Loc) (row : Row) (w : World) : Prop where
 len : row.con.len ≤ l.size
 blk : l.blk < w.heap.size
 cell : ∀ j, j < row.con.len → ∃ v, w.cell? ⟨l.blk, l.base + j, none⟩ = some v ∧ rep L (row.con.cell j) v
 all : row.own = true → ∀ j, j < l.size → ∃ v, w.cell? ⟨l.blk, l.base + j, none⟩ = some v
 free : row.own = true → ∀ j, j < l.size → w.frozen? ⟨l.blk, l.base + j, none⟩ = false
 obj : ∀ s pos, row.con = .sit s pos → l.base = 0 ∧ w.heap[l.blk]? = some (.stringIter s pos)
def Glob (G : List (Nat × SV)) (w : World) : Prop :=
 ∀ g c, (g, c) ∈ G → g < w.heap.size ∧ ∀ j, j < c.len → ∃ v, w.cell? ⟨g, j, none⟩ = some v ∧ rep [] (c.cell j) v
structure RowsOK (w0 : World) (L : List (Option Loc)) (rows : List (Option Row)) (w : World) : Prop where
 below : Below w0.heap.size w0 w
 size : L.length = rows.length
 has : ∀ (r : Nat) (row : Row), rows[r]? = some (some row) → ∃ o, lo L r = some o
 row : ∀ (r : Nat) (row : Row) (o : Loc), rows[r]? = some (some row) → lo L r = some o → RowOK L o row w
 sep : ∀ (r s : Nat) (row row' : Row) (o o' : Loc), r ≠ s → rows[r]? = some (some row) → rows[s]? = some (some row') → lo L r = some o → lo L s = some o' → row.own = true → o.blk ≠ o'.blk
 new : ∀ (r : Nat) (row : Row) (o : Loc), rows[r]? = some (some row) → lo L r = some o → row.own = true → w0.heap.size ≤ o.blk
structure St where
 tmps : List SV
 rows : List (Option Row)
structure Rel (w0 : World) (L : List (Option Loc)) (st : St) (a : Act) (w : World) : Prop where
 defers : a.defers = []
 tmps : reps L st.tmps a.tmps.toList
 rows : RowsOK w0 L st.rows w
def ofInt (k : IntKind) (n : Int) : SV :=
 match k with
 | .u8 => if ((BitVec.ofInt 8 n).toNat : Int) = n then .u8 (BitVec.ofInt 8 n) else .c (.int .u8 n)
 | .u16 => if ((BitVec.ofInt 16 n).toNat : Int) = n then .u16 (BitVec.ofInt 16 n) else .c (.int .u16 n)
 | .u32 => if ((BitVec.ofInt 32 n).toNat : Int) = n then .u32 (BitVec.ofInt 32 n) else .c (.int .u32 n)
 | .u64 => if ((BitVec.ofInt 64 n).toNat : Int) = n then .u64 (BitVec.ofInt 64 n) else .c (.int .u64 n)
 | k => .i k n
def ofScalar : Value → SV
 | .bool b => .bool b
 | .int k n => ofInt k n
 | .float k b => .f k b
 | v => .c v
theorem rep_ofInt (L : List (Option Loc)) (k : IntKind) (n : Int) : rep L (ofInt k n) (.int k n) := by
 unfold ofInt
 split
 ·split
  ·rename_i h; simp only [rep, h]
  ·simp only [rep]
 ·split
  ·rename_i h; simp only [rep, h]
  ·simp only [rep]
 ·split
  ·rename_i h; simp only [rep, h]
  ·simp only [rep]
 ·split
  ·rename_i h; simp only [rep, h]
  ·simp only [rep]
 ·simp only [rep]
theorem rep_ofScalar (L : List (Option Loc)) (v : Value) : rep L (ofScalar v) v := by
 cases v <;> simp only [ofScalar, rep]
 exact rep_ofInt L _ _
def all8 : List SV → Option (List (BitVec 8))
 | [] => some []
 | .u8 x :: l => match all8 l with | some t => some (x :: t) | none => none
 | _ :: _ => none
def all64 : List SV → Option (List (BitVec 64))
 | [] => some []
 | .u64 x :: l => match all64 l with | some t => some (x :: t) | none => none
 | _ :: _ => none
def allI (k : IntKind) : List SV → Option (List Int)
 | [] => some []
 | .i k' n :: l => if k = k' then match allI k l with | some t => some (n :: t) | none => none else none
 | _ :: _ => none
def norm (l : List SV) : SV :=
 match l with
 | .u8 _ :: _ :: _ :: _ => match all8 l with | some t => .a8 t | none => .agg l
 | .u64 _ :: _ :: _ :: _ => match all64 l with | some t => .a64 t | none => .agg l
 | .i k _ :: _ :: _ :: _ => match allI k l with | some t => .ai k t | none => .agg l
 | l => .agg l
theorem reps_all8 {L : List (Option Loc)} : ∀ {l : List SV} {t : List (BitVec 8)} {vs : List Value}, all8 l = some t → reps L l vs → vs = t.map v8
 | [], t, vs, h, hr => by simp only [all8, Option.some.injEq] at h; subst h; simpa [reps] using hr
 | s :: l, t, vs, h, hr => by
  cases s <;> simp only [all8, reduceCtorEq] at h
  split at h
  ·rename_i t' ht
   simp only [Option.some.injEq] at h; subst h
   simp only [reps] at hr
   obtain ⟨v, u, rfl, hv, hr⟩ := hr
   simp only [rep] at hv
   simp [reps_all8 ht hr, v8, hv]
  ·cases h
theorem reps_all64 {L : List (Option Loc)} : ∀ {l : List SV} {t : List (BitVec 64)} {vs : List Value}, all64 l = some t → reps L l vs → vs = t.map v64
 | [], t, vs, h, hr => by simp only [all64, Option.some.injEq] at h; subst h; simpa [reps] using hr
 | s :: l, t, vs, h, hr => by
  cases s <;> simp only [all64, reduceCtorEq] at h
  split at h
  ·rename_i t' ht
   simp only [Option.some.injEq] at h; subst h
   simp only [reps] at hr
   obtain ⟨v, u, rfl, hv, hr⟩ := hr
   simp only [rep] at hv
   simp [reps_all64 ht hr, v64, hv]
  ·cases h
theorem reps_allI {L : List (Option Loc)} {k : IntKind} : ∀ {l : List SV} {t : List Int} {vs : List Value}, allI k l = some t → reps L l vs → vs = t.map (vi k)
 | [], t, vs, h, hr => by simp only [allI, Option.some.injEq] at h; subst h; simpa [reps] using hr
 | s :: l, t, vs, h, hr => by
  cases s <;> simp only [allI, reduceCtorEq] at h
  split at h
  ·rename_i hk
   subst hk
   split at h
   ·rename_i t' ht
    simp only [Option.some.injEq] at h; subst h
    simp only [reps] at hr
    obtain ⟨v, u, rfl, hv, hr⟩ := hr
    simp only [rep] at hv
    simp [reps_allI ht hr, vi, hv]
   ·cases h
  ·cases h
theorem rep_norm {L : List (Option Loc)} {l : List SV} {vs : List Value} (h : reps L l vs) : rep L (norm l) (.agg ⟨vs⟩) := by
 unfold norm
 split
 ·split
  ·rename_i ht; simp only [rep, reps_all8 ht h]
  ·exact ⟨vs, rfl, h⟩
 ·split
  ·rename_i ht; simp only [rep, reps_all64 ht h]
  ·exact ⟨vs, rfl, h⟩
 ·split
  ·rename_i ht; simp only [rep, reps_allI ht h]
  ·exact ⟨vs, rfl, h⟩
 ·exact ⟨vs, rfl, h⟩
def ofScalars : List Value → List SV
 | [] => []
 | v :: l => ofScalar v :: ofScalars l
theorem reps_ofScalars (L : List (Option Loc)) : ∀ l : List Value, reps L (ofScalars l) l
 | [] => by simp only [ofScalars, reps]
 | v :: l => by simp only [ofScalars, reps]; exact ⟨v, l, rfl, rep_ofScalar L v, reps_ofScalars L l⟩
def ofValue : Value → SV
 | .agg ⟨cs⟩ => norm (ofScalars cs)
 | v => ofScalar v
theorem rep_ofValue (L : List (Option Loc)) (v : Value) : rep L (ofValue v) v := by
 unfold ofValue
 split
 ·exact rep_norm (reps_ofScalars L _)
 ·exact rep_ofScalar L v
theorem rep_cells {L : List (Option Loc)} {s : SV} {v : Value} (h : rep L s v) (hs : ∀ l, s ≠ .tup l) (hn : s ≠ .any) (hc : ∀ u, s = .c u → u.cells = #[u]) :
  v.cells.size = s.cells.len ∧ ∀ j, j < s.cells.len → ∃ u, v.cells[j]? = some u ∧ rep L (s.cells.cell j) u := by
 have one : ∀ (u : Value), u.cells = #[u] → rep L s u → s.cells = .agg [s] → u.cells.size = s.cells.len ∧ ∀ j, j < s.cells.len → ∃ x, u.cells[j]? = some x ∧ rep L (s.cells.cell j) x := by
  intro u hu hr hse
  rw [hu, hse]
  refine ⟨rfl, fun j hj => ?_⟩
  have : j = 0 := by simp [SV.len] at hj; omega
  subst this
  exact ⟨u, rfl, by simpa [SV.cell] using hr⟩
 cases s with
 | any => exact absurd rfl hn
 | tup l => exact absurd rfl (hs l)
 | agg l =>
  simp only [rep] at h
  obtain ⟨cs, rfl, hr⟩ := h
  refine ⟨by simp [Value.cells, SV.cells, SV.len, reps_length hr], fun j hj => ?_⟩
  simpa [Value.cells, SV.cells, SV.cell] using reps_get hr j (by simpa [SV.cells, SV.len] using hj)
 | ai k l =>
  simp only [rep] at h; subst h
  refine ⟨by simp [Value.cells, SV.cells, SV.len], fun j hj => ?_⟩
  have hj' : j < l.length := by simpa [SV.cells, SV.len] using hj
  exact ⟨vi k (l.getD j 0), by simp [Value.cells, hj'], by simp only [SV.cells, SV.cell, rep, vi]⟩
 | a8 l =>
  simp only [rep] at h; subst h
  refine ⟨by simp [Value.cells, SV.cells, SV.len], fun j hj => ?_⟩
  have hj' : j < l.length := by simpa [SV.cells, SV.len] using hj
  exact ⟨v8 (l.getD j 0), by simp [Value.cells, hj'], by simp only [SV.cells, SV.cell, rep, v8]⟩
 | a64 l =>
  simp only [rep] at h; subst h
  refine ⟨by simp [Value.cells, SV.cells, SV.len], fun j hj => ?_⟩
  have hj' : j < l.length := by simpa [SV.cells, SV.len] using hj
  exact ⟨v64 (l.getD j 0), by simp [Value.cells, hj'], by simp only [SV.cells, SV.cell, rep, v64]⟩
 | c u => have h' := h; simp only [rep] at h; subst h; exact one _ (hc _ rfl) h' rfl
 | nan k => have h' := h; simp only [rep] at h; obtain ⟨x, rfl, _⟩ := h; exact one _ rfl h' rfl
 | xi k p => have h' := h; simp only [rep] at h; obtain ⟨x, rfl, _⟩ := h; exact one _ rfl h' rfl
 | xf k p => have h' := h; simp only [rep] at h; obtain ⟨x, rfl, _⟩ := h; exact one _ rfl h' rfl
 | xs => have h' := h; simp only [rep] at h; obtain ⟨_, _, _, rfl⟩ := h; exact one _ rfl h' rfl
 | sl r o n => have h' := h; simp only [rep] at h; obtain ⟨_, x, _, _, _, rfl⟩ := h; exact one _ rfl h' rfl
 | slm z r o n => have h' := h; simp only [rep] at h; obtain ⟨_, x, _, _, _, rfl⟩ := h; exact one _ rfl h' rfl
 | sit s p => simp only [rep] at h
 | clo f l => have h' := h; simp only [rep] at h; obtain ⟨x, rfl, _⟩ := h; exact one _ rfl h' rfl
 | bool => have h' := h; simp only [rep] at h; subst h; exact one _ rfl h' rfl
 | i => have h' := h; simp only [rep] at h; subst h; exact one _ rfl h' rfl
 | u8 => have h' := h; simp only [rep] at h; subst h; exact one _ rfl h' rfl
 | u16 => have h' := h; simp only [rep] at h; subst h; exact one _ rfl h' rfl
 | u32 => have h' := h; simp only [rep] at h; subst h; exact one _ rfl h' rfl
 | u64 => have h' := h; simp only [rep] at h; subst h; exact one _ rfl h' rfl
 | f => have h' := h; simp only [rep] at h; subst h; exact one _ rfl h' rfl
 | gl => have h' := h; simp only [rep] at h; subst h; exact one _ rfl h' rfl
 | ptr => have h' := h; simp only [rep] at h; obtain ⟨_, _, rfl⟩ := h; exact one _ rfl h' rfl
end Go.Ev
namespace Go.Ev
open Go.RowKit
mutual
theorem rep_mono {L L' : List (Option Loc)} (h : ∀ (r : Nat) (o : Loc), lo L r = some o → lo L' r = some o) : ∀ {s : SV} {v : Value}, rep L s v → rep L' s v
 | .any, _, _ => by simp only [rep]
 | .bool _, _, hr => by simpa only [rep] using hr
 | .i _ _, _, hr => by simpa only [rep] using hr
 | .u8 _, _, hr => by simpa only [rep] using hr
 | .u16 _, _, hr => by simpa only [rep] using hr
 | .u32 _, _, hr => by simpa only [rep] using hr
 | .u64 _, _, hr => by simpa only [rep] using hr
 | .f _ _, _, hr => by simpa only [rep] using hr
 | .nan _, _, hr => by simpa only [rep] using hr
 | .xi _ _, _, hr => by simpa only [rep] using hr
 | .xf _ _, _, hr => by simpa only [rep] using hr
 | .xs, _, hr => by simpa only [rep] using hr
 | .c _, _, hr => by simpa only [rep] using hr
 | .gl _, _, hr => by simpa only [rep] using hr
 | .ptr r off, _, hr => by simp only [rep] at hr ⊢; obtain ⟨o, ho, rfl⟩ := hr; exact ⟨o, h _ _ ho, rfl⟩
 | .sl r off len, _, hr => by simp only [rep] at hr ⊢; obtain ⟨o, cap, ho, h1, h2, rfl⟩ := hr; exact ⟨o, cap, h _ _ ho, h1, h2, rfl⟩
 | .slm z r off len, _, hr => by simp only [rep] at hr ⊢; obtain ⟨o, cap, ho, h1, h2, rfl⟩ := hr; exact ⟨o, cap, h _ _ ho, h1, h2, rfl⟩
 | .sit _ _, _, hr => by simp only [rep] at hr
 | .agg l, _, hr => by simp only [rep] at hr ⊢; obtain ⟨cs, rfl, hr⟩ := hr; exact ⟨cs, rfl, reps_mono h hr⟩
 | .ai _ _, _, hr => by simpa only [rep] using hr
 | .a8 _, _, hr => by simpa only [rep] using hr
 | .a64 _, _, hr => by simpa only [rep] using hr
 | .tup l, _, hr => by simp only [rep] at hr ⊢; obtain ⟨cs, rfl, hr⟩ := hr; exact ⟨cs, rfl, reps_mono h hr⟩
 | .clo f l, _, hr => by simp only [rep] at hr ⊢; obtain ⟨cs, rfl, hr⟩ := hr; exact ⟨cs, rfl, reps_mono h hr⟩
theorem reps_mono {L L' : List (Option Loc)} (h : ∀ (r : Nat) (o : Loc), lo L r = some o → lo L' r = some o) : ∀ {l : List SV} {vs : List Value}, reps L l vs → reps L' l vs
 | [], _, hr => by simpa only [reps] using hr
 | s :: l, _, hr => by
  simp only [reps] at hr ⊢
  obtain ⟨v, t, rfl, hv, hr⟩ := hr
  exact ⟨v, t, rfl, rep_mono h hv, reps_mono h hr⟩
end
theorem lo_set_self {L : List (Option Loc)} {k : Nat} {o : Loc} (hk : k < L.length) : lo (L.set k (some o)) k = some o := by
 simp [lo, hk]
theorem lo_set_ne {L : List (Option Loc)} {k r : Nat} {o : Option Loc} (h : r ≠ k) : lo (L.set k o) r = lo L r := by
 have : k ≠ r := fun e => h e.symm
 simp [lo, List.getElem?_set, this]
theorem lo_ext {L : List (Option Loc)} {k : Nat} {o : Loc} (hk : lo L k = none) : ∀ (r : Nat) (p : Loc), lo L r = some p → lo (L.set k (some o)) r = some p := by
 intro r p h
 have : r ≠ k := fun e => by rw [e, hk] at h; cases h
 rw [lo_set_ne this]; exact h
theorem reps_set {L : List (Option Loc)} : ∀ {l : List SV} {vs : List Value} {s : SV} {v : Value} (i : Nat), reps L l vs → rep L s v → reps L (l.set i s) (vs.set i v)
 | [], vs, s, v, i, h, hv => by simp only [reps] at h; subst h; simp [reps]
 | x :: l, vs, s, v, i, h, hv => by
  simp only [reps] at h
  obtain ⟨u, t, rfl, hu, h⟩ := h
  cases i with
  | zero => simp only [List.set_cons_zero, reps]; exact ⟨v, t, rfl, hv, h⟩
  | succ i => simp only [List.set_cons_succ, reps]; exact ⟨u, _, rfl, hu, reps_set i h hv⟩
theorem RowOK.of_block {L : List (Option Loc)} {l : Loc} {row : Row} {w w' : World} (h : RowOK L l row w) (hs : l.blk < w'.heap.size) (hb : w'.heap[l.blk]? = w.heap[l.blk]?) : RowOK L l row w' := by
 have hc : ∀ p : Addr, p.block = l.blk → w'.cell? p = w.cell? p := fun p hp => by unfold World.cell?; rw [hp, hb]
 have hf : ∀ p : Addr, p.block = l.blk → w'.frozen? p = w.frozen? p := fun p hp => by unfold World.frozen?; rw [hp, hb]
 exact ⟨h.len, hs, fun j hj => by rw [hc _ rfl]; exact h.cell j hj, fun ho j hj => by rw [hc _ rfl]; exact h.all ho j hj, fun ho j hj => by rw [hf _ rfl]; exact h.free ho j hj, fun s pos hc => by rw [hb]; exact h.obj s pos hc⟩
theorem RowOK.mono {L L' : List (Option Loc)} {l : Loc} {row : Row} {w : World} (h : RowOK L l row w) (hL : ∀ (r : Nat) (o : Loc), lo L r = some o → lo L' r = some o) : RowOK L' l row w :=
 ⟨h.len, h.blk, fun j hj => let ⟨v, h1, h2⟩ := h.cell j hj; ⟨v, h1, rep_mono hL h2⟩, h.all, h.free, h.obj⟩
section
variable {w0 w w' : World} {L : List (Option Loc)} {rows : List (Option Row)}
theorem RowsOK.grow (h : RowsOK w0 L rows w) (hb : Below w.heap.size w w') : RowsOK w0 L rows w' :=
 ⟨h.below.trans (hb.mono h.below.size), h.size, h.has,
  fun r row o h1 h2 => (h.row r row o h1 h2).of_block (Nat.lt_of_lt_of_le (h.row r row o h1 h2).blk hb.size) (hb.block _ (h.row r row o h1 h2).blk), h.sep, h.new⟩
theorem RowsOK.drew (h : RowsOK w0 L rows w) : RowsOK w0 L rows { w with drawn := w.drawn + 1 } :=
 h.grow ⟨rfl, rfl, rfl, Nat.le_refl _, fun _ _ => rfl⟩
theorem set_cases {α : Type} {l : List (Option α)} {k r : Nat} {x : Option α} {y : α} (h : (l.set k x)[r]? = some (some y)) : (r = k ∧ x = some y) ∨ (r ≠ k ∧ l[r]? = some (some y)) := by
 rw [List.getElem?_set] at h
 split at h
 ·rename_i e
  split at h
  ·simp only [Option.some.injEq] at h; exact .inl ⟨e.symm, h⟩
  ·cases h
 ·rename_i e; exact .inr ⟨fun h => e h.symm, h⟩
theorem RowsOK.fill (h : RowsOK w0 L rows w) (hb : Below w.heap.size w w') {k : Nat} (hk : k < rows.length) (hfree : lo L k = none) {o : Loc} {con : SV} (hn : w.heap.size ≤ o.blk)
  (hr : RowOK L o ⟨con, true⟩ w') : RowsOK w0 (L.set k (some o)) (rows.set k (some ⟨con, true⟩)) w' := by
 have hg := h.grow hb
 have hk' : k < L.length := by rw [h.size]; exact hk
 have lt : ∀ (r : Nat) (row' : Row) (p : Loc), rows[r]? = some (some row') → lo L r = some p → p.blk < w.heap.size := fun r row' p h1 h2 => (h.row r row' p h1 h2).blk
 refine ⟨hg.below, by simp [h.size], ?_, ?_, ?_, ?_⟩
 ·intro r row h1
  rcases set_cases h1 with ⟨rfl, h1'⟩ | ⟨hne, h1'⟩
  ·exact ⟨o, lo_set_self hk'⟩
  ·rw [lo_set_ne hne]; exact h.has r row h1'
 ·intro r row' p h1 h2
  rcases set_cases h1 with ⟨rfl, h1'⟩ | ⟨hne, h1'⟩
  ·rw [lo_set_self hk'] at h2
   cases h1'; cases h2
   exact hr.mono (lo_ext hfree)
  ·rw [lo_set_ne hne] at h2
   exact (hg.row r row' p h1' h2).mono (lo_ext hfree)
 ·intro r s row1 row2 p q hrs h1 h2 h3 h4 h5
  rcases set_cases h1 with ⟨rfl, h1'⟩ | ⟨hne1, h1'⟩ <;> rcases set_cases h2 with ⟨e2, h2'⟩ | ⟨hne2, h2'⟩
  ·exact absurd e2.symm hrs
  ·rw [lo_set_self hk'] at h3
   rw [lo_set_ne hne2] at h4
   cases h3
   have := lt s row2 q h2' h4
   omega
  ·subst e2
   rw [lo_set_self hk'] at h4
   rw [lo_set_ne hne1] at h3
   cases h4
   have := lt r row1 p h1' h3
   omega
  ·rw [lo_set_ne hne1] at h3
   rw [lo_set_ne hne2] at h4
   exact h.sep r s row1 row2 p q hrs h1' h2' h3 h4 h5
 ·intro r row' p h1 h2 h3
  rcases set_cases h1 with ⟨rfl, h1'⟩ | ⟨hne, h1'⟩
  ·rw [lo_set_self hk'] at h2
   cases h2
   exact Nat.le_trans h.below.size hn
  ·rw [lo_set_ne hne] at h2
   exact h.new r row' p h1' h2 h3
theorem RowsOK.kill (h : RowsOK w0 L rows w) (r : Nat) : RowsOK w0 L (rows.set r none) w := by
 have old : ∀ (s : Nat) (row : Row), (rows.set r none)[s]? = some (some row) → rows[s]? = some (some row) := by
  intro s row hs
  rcases set_cases hs with ⟨_, e⟩ | ⟨_, e⟩
  ·cases e
  ·exact e
 exact ⟨h.below, by simp [h.size], fun s row h1 => h.has s row (old _ _ h1), fun s row o h1 h2 => h.row s row o (old _ _ h1) h2, fun a b ra rb o o' hab h1 h2 => h.sep a b ra rb o o' hab (old _ _ h1) (old _ _ h2), fun s row o h1 => h.new s row o (old _ _ h1)⟩
theorem RowsOK.slots (h : RowsOK w0 L rows w) (n : Nat) : RowsOK w0 (L ++ List.replicate n none) (rows ++ List.replicate n none) w := by
 have hlo : ∀ (r : Nat), lo (L ++ List.replicate n none) r = lo L r := by
  intro r
  simp only [lo, List.getElem?_append]
  split
  ·rfl
  ·rename_i hr
   rw [List.getElem?_eq_none (by omega : L.length ≤ r)]
   by_cases hn : r - L.length < n
   ·simp [hn]
   ·rw [List.getElem?_eq_none (by simpa using hn)]
 have old : ∀ (s : Nat) (row : Row), (rows ++ List.replicate n none)[s]? = some (some row) → rows[s]? = some (some row) := by
  intro s row hs
  rw [List.getElem?_append] at hs
  split at hs
  ·exact hs
  ·rename_i hr
   by_cases hn : s - rows.length < n
   ·simp [hn] at hs
   ·rw [List.getElem?_eq_none (by simpa using hn)] at hs; cases hs
 refine ⟨h.below, by simp [h.size], fun s row h1 => ?_, fun s row o h1 h2 => ?_, fun a b ra rb o o' hab h1 h2 h3 h4 => ?_, fun s row o h1 h2 => ?_⟩
 ·rw [hlo]; exact h.has s row (old _ _ h1)
 ·rw [hlo] at h2; exact (h.row s row o (old _ _ h1) h2).mono (fun r p hp => by rw [hlo]; exact hp)
 ·rw [hlo] at h3 h4; exact h.sep a b ra rb o o' hab (old _ _ h1) (old _ _ h2) h3 h4
 ·rw [hlo] at h2; exact h.new s row o (old _ _ h1) h2
theorem RowsOK.alloc (h : RowsOK w0 L rows w) {k : Nat} (hk : k < rows.length) (hfree : lo L k = none) (cells : Array Value) (ty : TypeId) {con : SV} (hl : con.len = cells.size)
  (hc : ∀ j, j < con.len → ∃ u, cells[j]? = some u ∧ rep L (con.cell j) u) (hi : con.isit = false) :
  RowsOK w0 (L.set k (some ⟨w.heap.size, 0, cells.size⟩)) (rows.set k (some ⟨con, true⟩)) (w.alloc (.cells cells ty)) := by
 have cellnew : ∀ j, (w.alloc (.cells cells ty)).cell? ⟨w.heap.size, 0 + j, none⟩ = cells[j]? := by
  intro j; rw [Nat.zero_add]; exact World.cell?_alloc_new w cells ty j
 refine h.fill ((Below.refl _ w).alloc (Nat.le_refl _) _) hk hfree (Nat.le_refl _) ⟨by simp [hl], by simp, fun j hj => ?_, fun _ j hj => ?_, fun _ j _ => ?_, fun s p hc => by simp only [] at hc; rw [hc] at hi; cases hi⟩
 ·obtain ⟨u, h1, h2⟩ := hc j hj
  exact ⟨u, by rw [cellnew]; exact h1, h2⟩
 ·have hj' : j < cells.size := hj
  exact ⟨cells[j], by rw [cellnew]; simp [hj']⟩
 ·simp [World.frozen?_alloc_new]
theorem setCell_isit {c : SV} {j : Nat} {s c' : SV} (h : c.setCell j s = some c') : c'.isit = false := by
 unfold SV.setCell at h
 split at h
 ·cases h; rfl
 ·split at h
  ·cases h; rfl
  ·cases h
 ·cases h; rfl
 ·cases h; rfl
 ·cases h
theorem RowsOK.store1 (h : RowsOK w0 L rows w) {r : Nat} {row : Row} {o : Loc} (hr : rows[r]? = some (some row)) (ho : lo L r = some o) (own : row.own = true) {off : Nat} (hoff : off < row.con.len)
  {con' : SV} {s : SV} {v : Value} (hcon : row.con.setCell off s = some con') (hv : rep L s v) :
  RowsOK w0 L (rows.set r (some ⟨con', true⟩)) (w.setCell ⟨o.blk, o.base + off, none⟩ v) := by
 have hrow := h.row r row o hr ho
 have hblk := h.new r row o hr ho own
 have hlen : con'.len = row.con.len ∧ ∀ j, j < row.con.len → con'.cell j = (if j = off then s else row.con.cell j) := by
  cases hc : row.con with
  | agg l =>
   rw [hc] at hcon hoff
   simp only [SV.setCell, Option.some.injEq] at hcon; subst hcon
   refine ⟨by simp [SV.len], fun j hj => ?_⟩
   simp only [SV.cell, SV.len] at *
   by_cases hjo : j = off
   ·subst hjo; simp [List.getD_eq_getElem?_getD, hoff]
   ·have : off ≠ j := fun e => hjo e.symm
    simp [List.getD_eq_getElem?_getD, this, hjo]
  | ai k l =>
   rw [hc] at hcon hoff
   cases s <;> simp only [SV.setCell, reduceCtorEq] at hcon
   rename_i k' n
   split at hcon
   ·rename_i hk; subst hk
    simp only [Option.some.injEq] at hcon; subst hcon
    refine ⟨by simp [SV.len], fun j hj => ?_⟩
    simp only [SV.cell, SV.len] at *
    by_cases hjo : j = off
    ·subst hjo; simp [List.getD_eq_getElem?_getD, hoff]
    ·have : off ≠ j := fun e => hjo e.symm
     simp [List.getD_eq_getElem?_getD, this, hjo]
   ·cases hcon
  | a8 l =>
   rw [hc] at hcon hoff
   cases s <;> simp only [SV.setCell, reduceCtorEq, Option.some.injEq] at hcon
   subst hcon
   refine ⟨by simp [SV.len], fun j hj => ?_⟩
   simp only [SV.cell, SV.len] at *
   by_cases hjo : j = off
   ·subst hjo; simp [List.getD_eq_getElem?_getD, hoff]
   ·have : off ≠ j := fun e => hjo e.symm
    simp [List.getD_eq_getElem?_getD, this, hjo]
  | a64 l =>
   rw [hc] at hcon hoff
   cases s <;> simp only [SV.setCell, reduceCtorEq, Option.some.injEq] at hcon
   subst hcon
   refine ⟨by simp [SV.len], fun j hj => ?_⟩
   simp only [SV.cell, SV.len] at *
   by_cases hjo : j = off
   ·subst hjo; simp [List.getD_eq_getElem?_getD, hoff]
   ·have : off ≠ j := fun e => hjo e.symm
    simp [List.getD_eq_getElem?_getD, this, hjo]
  | any | bool | i | u8 | u16 | u32 | u64 | f | nan | xi | xf | xs | c | gl | ptr | sl | slm | sit | tup | clo => rw [hc] at hoff; simp [SV.len] at hoff
 have hcellof : ∀ j, j < o.size → (w.setCell ⟨o.blk, o.base + off, none⟩ v).cell? ⟨o.blk, o.base + j, none⟩ = if j = off then some v else w.cell? ⟨o.blk, o.base + j, none⟩ := by
  intro j hj
  by_cases hjo : j = off
  ·subst hjo
   obtain ⟨u, hu⟩ := hrow.all own j hj
   rw [if_pos rfl, World.cell?_setCell_same _ _ _ hu]
  ·rw [if_neg hjo, World.cell?_setCell_other]
   intro e; simp only [Addr.mk.injEq] at e; omega
 have hset : ∀ (s' : Nat) (row' : Row), (rows.set r (some ⟨con', true⟩))[s']? = some (some row') → (s' = r ∧ row' = ⟨con', true⟩) ∨ (s' ≠ r ∧ rows[s']? = some (some row')) := by
  intro s' row' hs
  rcases set_cases hs with ⟨e1, e2⟩ | h2
  ·cases e2; exact .inl ⟨e1, rfl⟩
  ·exact .inr h2
 have below' : Below w0.heap.size w0 (w.setCell ⟨o.blk, o.base + off, none⟩ v) := h.below.setCell (p := ⟨o.blk, o.base + off, none⟩) hblk v
 refine ⟨below', by simp [h.size], ?_, ?_, ?_, ?_⟩
 ·intro s' row' h1
  rcases hset s' row' h1 with ⟨rfl, rfl⟩ | ⟨_, h1'⟩
  ·exact ⟨o, ho⟩
  ·exact h.has s' row' h1'
 ·intro s' row' p h1 h2
  rcases hset s' row' h1 with ⟨rfl, rfl⟩ | ⟨hne, h1⟩
  ·rw [ho] at h2; cases h2
   refine ⟨by rw [hlen.1]; exact hrow.len, by simpa using hrow.blk, fun j hj => ?_, fun _ j hj => ?_, fun _ j hj => ?_, fun s p hcs => by have := setCell_isit hcon; simp only [] at hcs; rw [hcs] at this; cases this⟩
   ·have hj' : j < row.con.len := by rw [← hlen.1]; exact hj
    rw [hlen.2 j hj', hcellof j (Nat.lt_of_lt_of_le hj' hrow.len)]
    by_cases hjo : j = off
    ·rw [if_pos hjo, if_pos hjo]; exact ⟨v, rfl, hv⟩
    ·rw [if_neg hjo, if_neg hjo]; exact hrow.cell j hj'
   ·rw [hcellof j hj]
    split
    ·exact ⟨v, rfl⟩
    ·exact hrow.all own j hj
   ·rw [World.frozen?_setCell]; exact hrow.free own j hj
  ·have hsep : o.blk ≠ p.blk := h.sep r s' row row' o p (fun e => hne e.symm) hr h1 ho h2 own
   refine (h.row s' row' p h1 h2).of_block (by simpa using (h.row s' row' p h1 h2).blk) ?_
   exact heap_setCell_other w _ _ v (fun e => hsep e.symm)
 ·intro a b ra rb p q hab h1 h2 h3 h4 h5
  rcases hset a ra h1 with ⟨rfl, rfl⟩ | ⟨hna, h1'⟩ <;> rcases hset b rb h2 with ⟨rfl, rfl⟩ | ⟨hnb, h2'⟩
  ·exact absurd rfl hab
  ·exact h.sep a b row rb p q hab hr h2' h3 h4 own
  ·exact h.sep a b ra row p q hab h1' hr h3 h4 h5
  ·exact h.sep a b ra rb p q hab h1' h2' h3 h4 h5
 ·intro a ra p h1 h2 h3
  rcases hset a ra h1 with ⟨rfl, rfl⟩ | ⟨hna, h1⟩
  ·exact h.new a row p hr h2 own
  ·exact h.new a ra p h1 h2 h3
end
end Go.Ev
namespace Go.Ev
open Go.RowKit
variable {α : Type}
def binU {w : Nat} (mk : BitVec w → SV) (op : BinOp) (a b : BitVec w) (K : SV → Option α) : Option α :=
 match op with
 | .add => K (mk (a + b))
 | .sub => K (mk (a - b))
 | .mul => K (mk (a * b))
 | .quo => if b = 0#w then none else K (mk (a / b))
 | .rem => if b = 0#w then none else K (mk (a % b))
 | .and => K (mk (a &&& b))
 | .or => K (mk (a ||| b))
 | .xor => K (mk (a ^^^ b))
 | .andNot => K (mk (a &&& ~~~b))
 | .eql => K (.bool (a == b))
 | .neq => K (.bool (!(a == b)))
 | .lss => K (.bool (decide (a < b)))
 | .leq => K (.bool (decide (a ≤ b)))
 | .gtr => K (.bool (decide (b < a)))
 | .geq => K (.bool (decide (b ≤ a)))
 | _ => none
def binI (k : IntKind) (op : BinOp) (a b : Int) (K : SV → Option α) : Option α :=
 match op with
 | .add => K (.i k (k.wrap (a + b)))
 | .sub => K (.i k (k.wrap (a - b)))
 | .mul => K (.i k (k.wrap (a * b)))
 | .quo => if b = 0 then none else K (.i k (k.wrap (a.tdiv b)))
 | .rem => if b = 0 then none else K (.i k (a.tmod b))
 | .and => K (.i k (k.wrap (BitVec.ofInt k.bits a &&& BitVec.ofInt k.bits b).toNat))
 | .or => K (.i k (k.wrap (BitVec.ofInt k.bits a ||| BitVec.ofInt k.bits b).toNat))
 | .xor => K (.i k (k.wrap (BitVec.ofInt k.bits a ^^^ BitVec.ofInt k.bits b).toNat))
 | .eql => K (.bool (a == b))
 | .neq => K (.bool (!(a == b)))
 | .lss => K (.bool (decide (a < b)))
 | .leq => K (.bool (decide (a ≤ b)))
 | .gtr => K (.bool (decide (b < a)))
 | .geq => K (.bool (decide (b ≤ a)))
 | _ => none
def binF (k : FloatKind) (op : BinOp) (a b : Nat) (K : SV → Option α) : Option α :=
 match op with
 | .add => match k.format.add a b with | some r => K (.f k r) | none => K (.nan k)
 | .sub => match k.format.sub a b with | some r => K (.f k r) | none => K (.nan k)
 | .mul => match k.format.mul a b with | some r => K (.f k r) | none => K (.nan k)
 | .quo => match k.format.div a b with | some r => K (.f k r) | none => K (.nan k)
 | .eql => K (.bool (k.format.order a b == some .eq))
 | .neq => K (.bool (!(k.format.order a b == some .eq)))
 | .lss => K (.bool (k.format.order a b == some .lt))
 | .leq => K (.bool (k.format.order a b == some .lt || k.format.order a b == some .eq))
 | .gtr => K (.bool (k.format.order a b == some .gt))
 | .geq => K (.bool (k.format.order a b == some .gt || k.format.order a b == some .eq))
 | _ => none
def binN (k : FloatKind) (op : BinOp) (K : SV → Option α) : Option α :=
 match op with
 | .add | .sub | .mul | .quo => K (.nan k)
 | .eql | .lss | .leq | .gtr | .geq => K (.bool false)
 | .neq => K (.bool true)
 | _ => none
def shAmt : SV → Option Nat
 | .u8 x => some x.toNat
 | .u16 x => some x.toNat
 | .u32 x => some x.toNat
 | .u64 x => some x.toNat
 | .i _ n => if 0 ≤ n then some n.toNat else none
 | _ => none
def shU {w : Nat} (mk : BitVec w → SV) (op : BinOp) (a : BitVec w) (n : Nat) (K : SV → Option α) : Option α :=
 match op with
 | .shl => K (mk (a <<< n))
 | .shr => K (mk (a >>> n))
 | _ => none
def shI (k : IntKind) (op : BinOp) (a : Int) (n : Nat) (K : SV → Option α) : Option α :=
 match op with
 | .shl => K (.i k (k.wrap (a * 2 ^ min n k.bits)))
 | .shr => K (.i k (a / 2 ^ min n k.bits))
 | _ => none
def shSV (op : BinOp) (x : SV) (n : Nat) (K : SV → Option α) : Option α :=
 match x with
 | .u8 a => shU .u8 op a n K
 | .u16 a => shU .u16 op a n K
 | .u32 a => shU .u32 op a n K
 | .u64 a => shU .u64 op a n K
 | .i k a => shI k op a n K
 | _ => none
def isSh : BinOp → Bool
 | .shl | .shr => true
 | _ => false
def binSV (op : BinOp) (x y : SV) (K : SV → Option α) : Option α :=
 if isSh op then match shAmt y with | some n => shSV op x n K | none => none
 else match x, y with
 | .u8 a, .u8 b => binU .u8 op a b K
 | .u16 a, .u16 b => binU .u16 op a b K
 | .u32 a, .u32 b => binU .u32 op a b K
 | .u64 a, .u64 b => binU .u64 op a b K
 | .i k a, .i k' b => if k = k' then binI k op a b K else none
 | .f k a, .f k' b => if k = k' then binF k op a b K else none
 | .nan k, .f k' _ => if k = k' then binN k op K else none
 | .f k _, .nan k' => if k = k' then binN k op K else none
 | .nan k, .nan k' => if k = k' then binN k op K else none
 | _, _ => none
structure UK (k : IntKind) (w : Nat) (mk : BitVec w → SV) : Prop where
 bits : k.bits = w
 sign : k.signed = false
 rep : ∀ L x v, rep L (mk x) v ↔ v = .int k (x.toNat : Int)
theorem uk8 : UK .u8 8 .u8 := ⟨rfl, rfl, fun _ _ _ => by simp only [Ev.rep]⟩
theorem uk16 : UK .u16 16 .u16 := ⟨rfl, rfl, fun _ _ _ => by simp only [Ev.rep]⟩
theorem uk32 : UK .u32 32 .u32 := ⟨rfl, rfl, fun _ _ _ => by simp only [Ev.rep]⟩
theorem uk64 : UK .u64 64 .u64 := ⟨rfl, rfl, fun _ _ _ => by simp only [Ev.rep]⟩
theorem two_pow_ne (w : Nat) : (2:Int) ^ w ≠ 0 := by
 have h1 : (2:Int) ^ w = ((2 ^ w : Nat) : Int) := by simp
 have := Nat.two_pow_pos w
 rw [h1]; omega
theorem UK.wrap {k : IntKind} {w : Nat} {mk : BitVec w → SV} (h : UK k w mk) (n : Int) : k.wrap n = ((BitVec.ofInt w n).toNat : Int) := by
 unfold IntKind.wrap
 rw [h.bits, h.sign]
 have h0 : (0:Int) ≤ n % 2 ^ w := Int.emod_nonneg _ (two_pow_ne w)
 rw [BitVec.toNat_ofInt]
 simp only [Bool.false_and, Bool.false_eq_true, if_false, Int.natCast_pow, Int.cast_ofNat_Int]
 exact (Int.toNat_of_nonneg h0).symm
theorem ofInt_sub' {w : Nat} (a b : BitVec w) : BitVec.ofInt w ((a.toNat : Int) - (b.toNat : Int)) = a - b := by
 have h : BitVec.ofInt w ((a.toNat : Int) - (b.toNat : Int)) + b = a := by
  have hb : b = BitVec.ofInt w (b.toNat : Int) := by simp
  conv => lhs; rhs; rw [hb]
  rw [← BitVec.ofInt_add, Int.sub_add_cancel]; simp
 have h2 : BitVec.ofInt w ((a.toNat : Int) - (b.toNat : Int)) = BitVec.ofInt w ((a.toNat : Int) - (b.toNat : Int)) + b - b := (BitVec.add_sub_cancel _ _).symm
 rw [h2, h]
theorem ofInt_toNat {w : Nat} (x : BitVec w) : BitVec.ofInt w (x.toNat : Int) = x := by
 apply BitVec.eq_of_toNat_eq; simp
theorem order_nan {f : Ieee.Format} {x y : Nat} (h : (f.read x).isNaN = true) : f.order x y = none := by
 unfold Ieee.Format.order Ieee.Datum.order
 cases hx : f.read x <;> simp [hx, Ieee.Datum.isNaN] at h ⊢
theorem order_nan' {f : Ieee.Format} {x y : Nat} (h : (f.read y).isNaN = true) : f.order x y = none := by
 unfold Ieee.Format.order Ieee.Datum.order
 cases hx : f.read y <;> simp [hx, Ieee.Datum.isNaN] at h ⊢
 cases f.read x <;> rfl
def BinGo (op : BinOp) (x y s : SV) : Prop :=
 ∀ (P : Program) (L : List (Option Loc)) (w : World) (vx vy : Value) (t : TypeId) (ox oy : Operand), rep L x vx → rep L y vy →
  ∃ v w', (do eqGuard op t ox oy vx vy; binOp op t vx vy : Sem Value).run P w = .ok v w' ∧ rep L s v ∧ Below w.heap.size w w'
theorem BinGo.int {op : BinOp} {x y s : SV} {k : IntKind} {a b : Int} (hx : ∀ L v, rep L x v → v = .int k a) (hy : ∀ L v, rep L y v → v = .int k b)
  (h : ∀ (P : Program) (L : List (Option Loc)) (w : World) (t : TypeId), ∃ v, (binOp op t (.int k a) (.int k b)).run P w = .ok v w ∧ rep L s v) : BinGo op x y s := by
 intro P L w vx vy t ox oy rx ry
 rw [hx L vx rx, hy L vy ry]
 obtain ⟨v, h1, h2⟩ := h P L w t
 refine ⟨v, w, ?_, h2, Below.refl _ _⟩
 rw [Sem.run_bind, eqGuard_at_int]
 simpa using h1
theorem beq_cast (a b : Nat) : ((a : Int) == (b : Int)) = (a == b) := by
 rw [Bool.eq_iff_iff]; simp only [beq_iff_eq]; omega
theorem bv_beq {w : Nat} (a b : BitVec w) : (a == b) = ((a.toNat : Int) == (b.toNat : Int)) := by
 rw [beq_cast, Bool.eq_iff_iff]; simp only [beq_iff_eq]; exact BitVec.toNat_inj.symm
set_option maxHeartbeats 1000000 in
theorem binU_ok {k : IntKind} {w : Nat} {mk : BitVec w → SV} (h : UK k w mk) {op : BinOp} {a b : BitVec w} {K : SV → Option α} {r : α} (hr : binU mk op a b K = some r) :
  ∃ s, K s = some r ∧ BinGo op (mk a) (mk b) s := by
 have go : ∀ (s : SV), (∀ (P : Program) (L : List (Option Loc)) (w : World) (t : TypeId), ∃ v, (binOp op t (.int k (a.toNat : Int)) (.int k (b.toNat : Int))).run P w = .ok v w ∧ rep L s v) → BinGo op (mk a) (mk b) s :=
  fun s hs => BinGo.int (fun L v hv => (h.rep L a v).1 hv) (fun L v hv => (h.rep L b v).1 hv) hs
 have goI : ∀ (n : Int) (x : BitVec w), n = (x.toNat : Int) → (∀ (P : Program) (w : World) (t : TypeId), (binOp op t (.int k (a.toNat : Int)) (.int k (b.toNat : Int))).run P w = .ok (.int k n) w) → BinGo op (mk a) (mk b) (mk x) :=
  fun n x hn hrun => go _ fun P L w t => ⟨_, hrun P w t, (h.rep _ _ _).2 (by rw [hn])⟩
 have goB : ∀ (n c : Bool), n = c → (∀ (P : Program) (w : World) (t : TypeId), (binOp op t (.int k (a.toNat : Int)) (.int k (b.toNat : Int))).run P w = .ok (.bool n) w) → BinGo op (mk a) (mk b) (.bool c) :=
  fun n x hn hrun => go _ fun P L w t => ⟨_, hrun P w t, by simp only [rep, hn]⟩
 have hb := h.bits
 have bitsOp : ∀ (f : BitVec k.bits → BitVec k.bits → BitVec k.bits) (g : BitVec w → BitVec w → BitVec w), (∀ e : k.bits = w, ∀ x y, (f x y).toNat = (g (x.cast e) (y.cast e)).toNat) →
   k.wrap ((f (BitVec.ofInt k.bits (a.toNat : Int)) (BitVec.ofInt k.bits (b.toNat : Int))).toNat : Int) = ((g a b).toNat : Int) := by
  intro f g hfg
  rw [h.wrap, hfg hb]
  have e1 : ∀ c : BitVec w, (BitVec.ofInt k.bits (c.toNat : Int)).cast hb = c := by
   intro c; apply BitVec.eq_of_toNat_eq; rw [BitVec.toNat_cast, BitVec.toNat_ofInt, hb]
   have := c.isLt
   have h2 : ((c.toNat : Int) % ((2 ^ w : Nat) : Int)).toNat = c.toNat % 2 ^ w := by rw [← Int.natCast_emod]; rfl
   simp only [Int.natCast_pow, Int.cast_ofNat_Int] at h2 ⊢
   rw [h2, Nat.mod_eq_of_lt this]
  rw [e1, e1]
  simp
 cases op <;> simp only [binU, reduceCtorEq] at hr
 case add => exact ⟨_, hr, goI (k.wrap ((a.toNat : Int) + (b.toNat : Int))) _ (by rw [h.wrap]; simp [BitVec.ofInt_add]) fun P w t => by simp only [binOp_add, Op.intArith, Sem.run_pure]⟩
 case sub => exact ⟨_, hr, goI (k.wrap ((a.toNat : Int) - (b.toNat : Int))) _ (by rw [h.wrap, ofInt_sub']) fun P w t => by simp only [binOp_sub, Op.intArith, Sem.run_pure]⟩
 case mul => exact ⟨_, hr, goI (k.wrap ((a.toNat : Int) * (b.toNat : Int))) _ (by rw [h.wrap]; simp [BitVec.ofInt_mul]) fun P w t => by simp only [binOp_mul, Op.intArith, Sem.run_pure]⟩
 case quo =>
  split at hr
  ·cases hr
  ·rename_i hb0
   have hb1 : ¬ (b.toNat : Int) = 0 := fun e => hb0 (BitVec.eq_of_toNat_eq (by simp; omega))
   refine ⟨_, hr, goI (k.wrap ((a.toNat : Int).tdiv (b.toNat : Int))) _ ?_ fun P w t => by simp only [binOp_quo, Op.intDiv, hb1, if_false, Sem.run_pure]⟩
   have : (a.toNat : Int).tdiv (b.toNat : Int) = ((a / b).toNat : Int) := by simp [Int.tdiv_eq_ediv_of_nonneg]
   rw [h.wrap, this, ofInt_toNat]
 case rem =>
  split at hr
  ·cases hr
  ·rename_i hb0
   have hb1 : ¬ (b.toNat : Int) = 0 := fun e => hb0 (BitVec.eq_of_toNat_eq (by simp; omega))
   refine ⟨_, hr, goI ((a.toNat : Int).tmod (b.toNat : Int)) _ ?_ fun P w t => by simp only [binOp_rem, Op.intDiv, hb1, if_false, Sem.run_pure]⟩
   simp [Int.tmod_eq_emod_of_nonneg]
 case and => exact ⟨_, hr, goI (k.wrap ((BitVec.ofInt k.bits (a.toNat : Int) &&& BitVec.ofInt k.bits (b.toNat : Int)).toNat : Int)) _ (bitsOp (· &&& ·) (· &&& ·) (fun e x y => by simp)) fun P w t => by simp only [binOp_and, Op.intBits, Sem.run_pure]⟩
 case or => exact ⟨_, hr, goI (k.wrap ((BitVec.ofInt k.bits (a.toNat : Int) ||| BitVec.ofInt k.bits (b.toNat : Int)).toNat : Int)) _ (bitsOp (· ||| ·) (· ||| ·) (fun e x y => by simp)) fun P w t => by simp only [binOp_or, Op.intBits, Sem.run_pure]⟩
 case xor => exact ⟨_, hr, goI (k.wrap ((BitVec.ofInt k.bits (a.toNat : Int) ^^^ BitVec.ofInt k.bits (b.toNat : Int)).toNat : Int)) _ (bitsOp (· ^^^ ·) (· ^^^ ·) (fun e x y => by simp)) fun P w t => by simp only [binOp_xor, Op.intBits, Sem.run_pure]⟩
 case andNot => exact ⟨_, hr, goI (k.wrap ((BitVec.ofInt k.bits (a.toNat : Int) &&& ~~~BitVec.ofInt k.bits (b.toNat : Int)).toNat : Int)) _ (bitsOp (fun x y => x &&& ~~~y) (fun x y => x &&& ~~~y) (fun e x y => by subst e; simp)) fun P w t => by simp only [binOp_andNot, Op.intBits, Sem.run_pure]⟩
 case eql => exact ⟨_, hr, goB ((a.toNat : Int) == (b.toNat : Int)) _ (bv_beq a b).symm fun P w t => by simp only [binOp_eql, Sem.run_pure]⟩
 case neq => exact ⟨_, hr, goB ((a.toNat : Int) != (b.toNat : Int)) _ (by rw [bv_beq]; rfl) fun P w t => by simp only [binOp_neq, Sem.run_pure]⟩
 case lss => exact ⟨_, hr, goB (decide ((a.toNat : Int) < (b.toNat : Int))) _ (by simp only [BitVec.lt_def, Int.ofNat_lt]) fun P w t => by simp only [binOp_lss, Sem.run_pure]⟩
 case leq => exact ⟨_, hr, goB (decide ((a.toNat : Int) ≤ (b.toNat : Int))) _ (by simp only [BitVec.le_def, Int.ofNat_le]) fun P w t => by simp only [binOp_leq, Sem.run_pure]⟩
 case gtr => exact ⟨_, hr, goB (decide ((a.toNat : Int) > (b.toNat : Int))) _ (by simp only [BitVec.lt_def, Int.ofNat_lt, gt_iff_lt]) fun P w t => by simp only [binOp_gtr, Sem.run_pure]⟩
 case geq => exact ⟨_, hr, goB (decide ((a.toNat : Int) ≥ (b.toNat : Int))) _ (by simp only [BitVec.le_def, Int.ofNat_le, ge_iff_le]) fun P w t => by simp only [binOp_geq, Sem.run_pure]⟩
theorem binI_ok {k : IntKind} {op : BinOp} {a b : Int} {K : SV → Option α} {r : α} (hr : binI k op a b K = some r) :
  ∃ s, K s = some r ∧ BinGo op (.i k a) (.i k b) s := by
 have go : ∀ (s : SV), (∀ (P : Program) (L : List (Option Loc)) (w : World) (t : TypeId), ∃ v, (binOp op t (.int k a) (.int k b)).run P w = .ok v w ∧ rep L s v) → BinGo op (.i k a) (.i k b) s :=
  fun s hs => BinGo.int (fun L v hv => by simpa only [rep] using hv) (fun L v hv => by simpa only [rep] using hv) hs
 have goI : ∀ (n : Int), (∀ (P : Program) (w : World) (t : TypeId), (binOp op t (.int k a) (.int k b)).run P w = .ok (.int k n) w) → BinGo op (.i k a) (.i k b) (.i k n) :=
  fun n hrun => go _ fun P L w t => ⟨_, hrun P w t, by simp only [rep]⟩
 have goB : ∀ (n : Bool), (∀ (P : Program) (w : World) (t : TypeId), (binOp op t (.int k a) (.int k b)).run P w = .ok (.bool n) w) → BinGo op (.i k a) (.i k b) (.bool n) :=
  fun n hrun => go _ fun P L w t => ⟨_, hrun P w t, by simp only [rep]⟩
 cases op <;> simp only [binI, reduceCtorEq] at hr
 case add => exact ⟨_, hr, goI (k.wrap (a + b)) fun P w t => by simp only [binOp_add, Op.intArith, Sem.run_pure]⟩
 case sub => exact ⟨_, hr, goI (k.wrap (a - b)) fun P w t => by simp only [binOp_sub, Op.intArith, Sem.run_pure]⟩
 case mul => exact ⟨_, hr, goI (k.wrap (a * b)) fun P w t => by simp only [binOp_mul, Op.intArith, Sem.run_pure]⟩
 case quo =>
  split at hr
  ·cases hr
  ·rename_i hb0
   exact ⟨_, hr, goI (k.wrap (a.tdiv b)) fun P w t => by simp only [binOp_quo, Op.intDiv, hb0, if_false, Sem.run_pure]⟩
 case rem =>
  split at hr
  ·cases hr
  ·rename_i hb0
   exact ⟨_, hr, goI (a.tmod b) fun P w t => by simp only [binOp_rem, Op.intDiv, hb0, if_false, Sem.run_pure]⟩
 case and => exact ⟨_, hr, goI (k.wrap (BitVec.ofInt k.bits a &&& BitVec.ofInt k.bits b).toNat) fun P w t => by simp only [binOp_and, Op.intBits, Sem.run_pure]⟩
 case or => exact ⟨_, hr, goI (k.wrap (BitVec.ofInt k.bits a ||| BitVec.ofInt k.bits b).toNat) fun P w t => by simp only [binOp_or, Op.intBits, Sem.run_pure]⟩
 case xor => exact ⟨_, hr, goI (k.wrap (BitVec.ofInt k.bits a ^^^ BitVec.ofInt k.bits b).toNat) fun P w t => by simp only [binOp_xor, Op.intBits, Sem.run_pure]⟩
 case eql => exact ⟨_, hr, goB (a == b) fun P w t => by simp only [binOp_eql, Sem.run_pure]⟩
 case neq => exact ⟨_, hr, goB (!(a == b)) fun P w t => by simp only [binOp_neq, Sem.run_pure, bne]⟩
 case lss => exact ⟨_, hr, goB (decide (a < b)) fun P w t => by simp only [binOp_lss, Sem.run_pure]⟩
 case leq => exact ⟨_, hr, goB (decide (a ≤ b)) fun P w t => by simp only [binOp_leq, Sem.run_pure]⟩
 case gtr => exact ⟨_, hr, goB (decide (b < a)) fun P w t => by simp only [binOp_gtr, Sem.run_pure, gt_iff_lt]⟩
 case geq => exact ⟨_, hr, goB (decide (b ≤ a)) fun P w t => by simp only [binOp_geq, Sem.run_pure, ge_iff_le]⟩
end Go.Ev
namespace Go.Ev
open Go.RowKit
variable {α : Type}
theorem shAmt_ok {y : SV} {n : Nat} (h : shAmt y = some n) : ∀ L v, rep L y v → ∃ k, v = .int k (n : Int) := by
 intro L v hv
 cases y <;> simp only [shAmt, reduceCtorEq, Option.some.injEq] at h
 case u8 x => subst h; exact ⟨_, by simpa only [rep] using hv⟩
 case u16 x => subst h; exact ⟨_, by simpa only [rep] using hv⟩
 case u32 x => subst h; exact ⟨_, by simpa only [rep] using hv⟩
 case u64 x => subst h; exact ⟨_, by simpa only [rep] using hv⟩
 case i k m =>
  split at h
  ·rename_i h0
   simp only [Option.some.injEq] at h; subst h
   exact ⟨k, by rw [Int.toNat_of_nonneg h0]; simpa only [rep] using hv⟩
  ·cases h
theorem shift_run (op : BinOp) (hop : isSh op = true) (P : Program) (w : World) (t : TypeId) (k yk : IntKind) (a : Int) (n : Nat) :
  (binOp op t (.int k a) (.int yk (n : Int))).run P w = .ok (.int k (match op with | .shl => k.wrap (a * 2 ^ min n k.bits) | _ => a.fdiv (2 ^ min n k.bits))) w := by
 have hn : ¬ (n : Int) < 0 := by omega
 cases op <;> simp only [isSh, Bool.false_eq_true] at hop
 ·simp only [binOp_shl, Op.shift, hn, if_false, Int.toNat_natCast, Sem.run_pure]
 ·simp only [binOp_shr, Op.shift, hn, if_false, Int.toNat_natCast, Sem.run_pure]
theorem fdiv_two_pow (a : Int) (n : Nat) : a.fdiv (2 ^ n) = a / 2 ^ n := Int.fdiv_eq_ediv_of_nonneg a (by
 have h1 : (2:Int) ^ n = ((2 ^ n : Nat) : Int) := by simp
 rw [h1]; exact Int.natCast_nonneg _)
theorem BinGo.sh {op : BinOp} {x y s : SV} {n : Nat} (hop : isSh op = true) (hy : shAmt y = some n) {k : IntKind} {a : Int} (hx : ∀ L v, rep L x v → v = .int k a)
  (hs : ∀ L, rep L s (.int k (match op with | .shl => k.wrap (a * 2 ^ min n k.bits) | _ => a.fdiv (2 ^ min n k.bits)))) : BinGo op x y s := by
 intro P L w vx vy t ox oy rx ry
 rw [hx L vx rx]
 obtain ⟨yk, rfl⟩ := shAmt_ok hy L vy ry
 refine ⟨_, w, ?_, hs L, Below.refl _ _⟩
 rw [Sem.run_bind, eqGuard_at_int, Sem.run_pure, Result.andThen_ok]
 exact shift_run op hop P w t k yk a n
theorem shU_val {w : Nat} (a : BitVec w) (n : Nat) : BitVec.ofInt w ((a.toNat : Int) * 2 ^ min n w) = a <<< n := by
 apply BitVec.eq_of_toNat_eq
 have e1 : ((a.toNat : Int) * 2 ^ min n w) = ((a.toNat * 2 ^ min n w : Nat) : Int) := by simp
 rw [e1, BitVec.toNat_ofInt, BitVec.toNat_shiftLeft, Nat.shiftLeft_eq]
 have e2 : (((a.toNat * 2 ^ min n w : Nat) : Int) % ((2 ^ w : Nat) : Int)).toNat = (a.toNat * 2 ^ min n w) % 2 ^ w := by rw [← Int.natCast_emod]; rfl
 rw [e2]
 rcases Nat.le_total n w with h | h
 ·rw [Nat.min_eq_left h]
 ·rw [Nat.min_eq_right h, Nat.mul_mod_left]
  obtain ⟨m, rfl⟩ := Nat.exists_eq_add_of_le h
  rw [Nat.pow_add, ← Nat.mul_assoc, Nat.mul_right_comm, Nat.mul_mod_left]
theorem shrU_val {w : Nat} (a : BitVec w) (n : Nat) : (a.toNat : Int) / 2 ^ min n w = ((a >>> n).toNat : Int) := by
 have e1 : ((2 : Int) ^ min n w) = ((2 ^ min n w : Nat) : Int) := by simp
 rw [e1, ← Int.natCast_ediv, BitVec.toNat_ushiftRight, Nat.shiftRight_eq_div_pow]
 rcases Nat.le_total n w with h | h
 ·rw [Nat.min_eq_left h]
 ·rw [Nat.min_eq_right h, Nat.div_eq_of_lt a.isLt, Nat.div_eq_of_lt]
  exact Nat.lt_of_lt_of_le a.isLt (Nat.pow_le_pow_right (by decide) h)
theorem shU_ok {k : IntKind} {w : Nat} {mk : BitVec w → SV} (h : UK k w mk) {op : BinOp} (hop : isSh op = true) {a : BitVec w} {y : SV} {n : Nat} (hy : shAmt y = some n) {K : SV → Option α} {r : α} (hr : shU mk op a n K = some r) :
  ∃ s, K s = some r ∧ BinGo op (mk a) y s := by
 cases op <;> simp only [isSh, Bool.false_eq_true] at hop <;> simp only [shU] at hr
 ·refine ⟨_, hr, BinGo.sh rfl hy (fun L v hv => (h.rep L a v).1 hv) fun L => (h.rep L _ _).2 ?_⟩
  simp only [h.wrap, h.bits, shU_val]
 ·refine ⟨_, hr, BinGo.sh rfl hy (fun L v hv => (h.rep L a v).1 hv) fun L => (h.rep L _ _).2 ?_⟩
  simp only [h.bits, fdiv_two_pow, shrU_val]
theorem shI_ok {k : IntKind} {op : BinOp} (hop : isSh op = true) {a : Int} {y : SV} {n : Nat} (hy : shAmt y = some n) {K : SV → Option α} {r : α} (hr : shI k op a n K = some r) :
  ∃ s, K s = some r ∧ BinGo op (.i k a) y s := by
 cases op <;> simp only [isSh, Bool.false_eq_true] at hop <;> simp only [shI] at hr
 ·exact ⟨_, hr, BinGo.sh rfl hy (fun L v hv => by simpa only [rep] using hv) fun L => by simp only [rep]⟩
 ·exact ⟨_, hr, BinGo.sh rfl hy (fun L v hv => by simpa only [rep] using hv) fun L => by simp only [rep, fdiv_two_pow]⟩
theorem shSV_ok {op : BinOp} (hop : isSh op = true) {x y : SV} {n : Nat} (hy : shAmt y = some n) {K : SV → Option α} {r : α} (hr : shSV op x n K = some r) :
  ∃ s, K s = some r ∧ BinGo op x y s := by
 cases x <;> simp only [shSV, reduceCtorEq] at hr
 ·exact shI_ok hop hy hr
 ·exact shU_ok uk8 hop hy hr
 ·exact shU_ok uk16 hop hy hr
 ·exact shU_ok uk32 hop hy hr
 ·exact shU_ok uk64 hop hy hr
theorem BinGo.flt {op : BinOp} {x y s : SV} {k : FloatKind} (hx : ∀ L v, rep L x v → ∃ a, v = .float k a ∧ rep L x (.float k a)) (hy : ∀ L v, rep L y v → ∃ b, v = .float k b ∧ rep L y (.float k b))
  (h : ∀ (P : Program) (L : List (Option Loc)) (w : World) (t : TypeId) (a b : Nat), rep L x (.float k a) → rep L y (.float k b) → ∃ v w', (binOp op t (.float k a) (.float k b)).run P w = .ok v w' ∧ rep L s v ∧ Below w.heap.size w w') : BinGo op x y s := by
 intro P L w vx vy t ox oy rx ry
 obtain ⟨a, rfl, ra⟩ := hx L vx rx
 obtain ⟨b, rfl, rb⟩ := hy L vy ry
 obtain ⟨v, w', h1, h2, h3⟩ := h P L w t a b ra rb
 refine ⟨v, w', ?_, h2, h3⟩
 rw [Sem.run_bind, eqGuard_at_float]
 simpa using h1
theorem arith_some (op : BinOp) (P : Program) (w : World) (t : TypeId) (k : FloatKind) (a b r : Nat) :
  (op = .add ∧ k.format.add a b = some r ∨ op = .sub ∧ k.format.sub a b = some r ∨ op = .mul ∧ k.format.mul a b = some r ∨ op = .quo ∧ k.format.div a b = some r) →
  (binOp op t (.float k a) (.float k b)).run P w = .ok (.float k r) w := by
 rintro (⟨rfl, h⟩ | ⟨rfl, h⟩ | ⟨rfl, h⟩ | ⟨rfl, h⟩) <;> simp [binOp, Op.floatArith, h]
theorem read_nan (k : FloatKind) (x : Nat) (h : k.format.infRung < x % k.format.signWeight) : (k.decode x).isNaN = true := by
 unfold FloatKind.decode Ieee.Format.read
 have hb : k.format.binade ≤ k.format.infRung := by cases k <;> decide
 simp only []
 split
 ·omega
 ·split
  ·omega
  ·split
   ·omega
   ·rfl
theorem cut_nan0 (k : FloatKind) (a b t : Nat) : (k.decode ((Question.nanBits k a b).cut t)).isNaN = true := by
 apply read_nan
 cases k
 ·show 2139095040 < ((t % 2) * 2 ^ 31 + 2139095040 + 1 + t / 2 % (2 ^ 23 - 1)) % 2147483648
  have h1 : t / 2 % (2 ^ 23 - 1) < 2 ^ 23 - 1 := Nat.mod_lt _ (by decide)
  have h2 : t % 2 < 2 := Nat.mod_lt _ (by decide)
  generalize t / 2 % (2 ^ 23 - 1) = q at *
  generalize t % 2 = p at *
  omega
 ·show 9218868437227405312 < ((t % 2) * 2 ^ 63 + 9218868437227405312 + 1 + t / 2 % (2 ^ 52 - 1)) % 9223372036854775808
  have h1 : t / 2 % (2 ^ 52 - 1) < 2 ^ 52 - 1 := Nat.mod_lt _ (by decide)
  have h2 : t % 2 < 2 := Nat.mod_lt _ (by decide)
  generalize t / 2 % (2 ^ 52 - 1) = q at *
  generalize t % 2 = p at *
  omega
theorem cut_nan (k : FloatKind) (a b t : Nat) : nanOK k ((Question.nanBits k a b).cut t) := by
 refine ⟨cut_nan0 k a b t, ?_⟩
 cases k
 ·show (t % 2) * 2 ^ 31 + 2139095040 + 1 + t / 2 % (2 ^ 23 - 1) < 4294967296
  have h1 : t / 2 % (2 ^ 23 - 1) < 2 ^ 23 - 1 := Nat.mod_lt _ (by decide)
  have h2 : t % 2 < 2 := Nat.mod_lt _ (by decide)
  generalize t / 2 % (2 ^ 23 - 1) = q at *
  generalize t % 2 = p at *
  omega
 ·show (t % 2) * 2 ^ 63 + 9218868437227405312 + 1 + t / 2 % (2 ^ 52 - 1) < 18446744073709551616
  have h1 : t / 2 % (2 ^ 52 - 1) < 2 ^ 52 - 1 := Nat.mod_lt _ (by decide)
  have h2 : t % 2 < 2 := Nat.mod_lt _ (by decide)
  generalize t / 2 % (2 ^ 52 - 1) = q at *
  generalize t % 2 = p at *
  omega
theorem below_drew (w : World) : Below w.heap.size w { w with drawn := w.drawn + 1 } := ⟨rfl, rfl, rfl, Nat.le_refl _, fun _ _ => rfl⟩
theorem arith_none (op : BinOp) (P : Program) (w : World) (t : TypeId) (k : FloatKind) (a b : Nat)
  (h : op = .add ∧ k.format.add a b = none ∨ op = .sub ∧ k.format.sub a b = none ∨ op = .mul ∧ k.format.mul a b = none ∨ op = .quo ∧ k.format.div a b = none) :
  ∃ v w', (binOp op t (.float k a) (.float k b)).run P w = .ok v w' ∧ (∃ x, v = .float k x ∧ nanOK k x) ∧ Below w.heap.size w w' := by
 have go : (binOp op t (.float k a) (.float k b)).run P w = .ok (.float k ((Question.nanBits k a b).cut (w.tape w.drawn (.nanBits k a b)))) { w with drawn := w.drawn + 1 } := by
  rcases h with (⟨rfl, h⟩ | ⟨rfl, h⟩ | ⟨rfl, h⟩ | ⟨rfl, h⟩) <;> simp [binOp, Op.floatArith, h, Question.forced] <;> rfl
 exact ⟨_, _, go, ⟨_, rfl, cut_nan k a b _⟩, below_drew w⟩
theorem sum_nan {d e : Ieee.Datum} (h : d.isNaN = true ∨ e.isNaN = true) : d.sum e = none ∧ d.product e = none ∧ ∀ n, d.quotient n e = none := by
 cases d <;> cases e <;> simp [Ieee.Datum.isNaN, Ieee.Datum.sum, Ieee.Datum.product, Ieee.Datum.quotient] at h ⊢
theorem opp_nan {d : Ieee.Datum} (h : d.isNaN = true) : d.opposite.isNaN = true := by
 cases d <;> simp [Ieee.Datum.isNaN, Ieee.Datum.opposite] at h ⊢
theorem flt_rep {k : FloatKind} {a : Nat} : ∀ L v, rep L (.f k a) v → ∃ x, v = .float k x ∧ rep L (.f k a) (.float k x) := by
 intro L v hv
 simp only [rep] at hv
 exact ⟨a, hv, by simp only [rep]⟩
theorem nan_rep {k : FloatKind} : ∀ L v, rep L (.nan k) v → ∃ x, v = .float k x ∧ rep L (.nan k) (.float k x) := by
 intro L v hv
 simp only [rep] at hv
 obtain ⟨x, rfl, h⟩ := hv
 exact ⟨x, rfl, by simp only [rep]; exact ⟨x, rfl, h⟩⟩
theorem binF_ok {k : FloatKind} {op : BinOp} {a b : Nat} {K : SV → Option α} {r : α} (hr : binF k op a b K = some r) : ∃ s, K s = some r ∧ BinGo op (.f k a) (.f k b) s := by
 have go : ∀ s, (∀ (P : Program) (L : List (Option Loc)) (w : World) (t : TypeId), ∃ v w', (binOp op t (.float k a) (.float k b)).run P w = .ok v w' ∧ rep L s v ∧ Below w.heap.size w w') → BinGo op (.f k a) (.f k b) s := by
  intro s h
  refine BinGo.flt flt_rep flt_rep fun P L w t a' b' ha hb => ?_
  simp only [rep, Value.float.injEq, true_and] at ha hb
  subst ha; subst hb
  exact h P L w t
 have goS : ∀ n, (∀ (P : Program) (w : World) (t : TypeId), (binOp op t (.float k a) (.float k b)).run P w = .ok (.float k n) w) → BinGo op (.f k a) (.f k b) (.f k n) :=
  fun n h => go _ fun P L w t => ⟨_, w, h P w t, by simp only [rep], Below.refl _ _⟩
 have goN : (op = .add ∧ k.format.add a b = none ∨ op = .sub ∧ k.format.sub a b = none ∨ op = .mul ∧ k.format.mul a b = none ∨ op = .quo ∧ k.format.div a b = none) → BinGo op (.f k a) (.f k b) (.nan k) :=
  fun h => go _ fun P L w t => by
   obtain ⟨v, w', h1, h2, h3⟩ := arith_none op P w t k a b h
   exact ⟨v, w', h1, by simpa only [rep] using h2, h3⟩
 have goB : ∀ n : Bool, (∀ (P : Program) (w : World) (t : TypeId), (binOp op t (.float k a) (.float k b)).run P w = .ok (.bool n) w) → BinGo op (.f k a) (.f k b) (.bool n) :=
  fun n h => go _ fun P L w t => ⟨_, w, h P w t, by simp only [rep], Below.refl _ _⟩
 cases op <;> simp only [binF, reduceCtorEq] at hr
 case add =>
  split at hr
  ·rename_i h; exact ⟨_, hr, goS _ fun P w t => arith_some _ P w t k a b _ (.inl ⟨rfl, h⟩)⟩
  ·rename_i h; exact ⟨_, hr, goN (.inl ⟨rfl, h⟩)⟩
 case sub =>
  split at hr
  ·rename_i h; exact ⟨_, hr, goS _ fun P w t => arith_some _ P w t k a b _ (.inr (.inl ⟨rfl, h⟩))⟩
  ·rename_i h; exact ⟨_, hr, goN (.inr (.inl ⟨rfl, h⟩))⟩
 case mul =>
  split at hr
  ·rename_i h; exact ⟨_, hr, goS _ fun P w t => arith_some _ P w t k a b _ (.inr (.inr (.inl ⟨rfl, h⟩)))⟩
  ·rename_i h; exact ⟨_, hr, goN (.inr (.inr (.inl ⟨rfl, h⟩)))⟩
 case quo =>
  split at hr
  ·rename_i h; exact ⟨_, hr, goS _ fun P w t => arith_some _ P w t k a b _ (.inr (.inr (.inr ⟨rfl, h⟩)))⟩
  ·rename_i h; exact ⟨_, hr, goN (.inr (.inr (.inr ⟨rfl, h⟩)))⟩
 case eql => exact ⟨_, hr, goB _ fun P w t => by simp only [binOp_float_cmp_eql, Sem.run_pure]⟩
 case neq => exact ⟨_, hr, goB _ fun P w t => by simp only [binOp_float_cmp_neq, Sem.run_pure, bne]⟩
 case lss => exact ⟨_, hr, goB _ fun P w t => by simp only [binOp_float_cmp_lss, Sem.run_pure]⟩
 case leq => exact ⟨_, hr, goB _ fun P w t => by simp only [binOp_float_cmp_leq, Sem.run_pure]⟩
 case gtr => exact ⟨_, hr, goB _ fun P w t => by simp only [binOp_float_cmp_gtr, Sem.run_pure]⟩
 case geq => exact ⟨_, hr, goB _ fun P w t => by simp only [binOp_float_cmp_geq, Sem.run_pure]⟩
theorem binN_ok {k : FloatKind} {op : BinOp} {x y : SV} (hx : ∀ L v, rep L x v → ∃ a, v = .float k a ∧ rep L x (.float k a)) (hy : ∀ L v, rep L y v → ∃ b, v = .float k b ∧ rep L y (.float k b))
  (hn : ∀ L a b, rep L x (.float k a) → rep L y (.float k b) → (k.format.read a).isNaN = true ∨ (k.format.read b).isNaN = true) {K : SV → Option α} {r : α} (hr : binN k op K = some r) : ∃ s, K s = some r ∧ BinGo op x y s := by
 have ord : ∀ L a b, rep L x (.float k a) → rep L y (.float k b) → k.format.order a b = none := fun L a b ha hb => (hn L a b ha hb).elim order_nan order_nan'
 have goB : ∀ n : Bool, (∀ (P : Program) (L : List (Option Loc)) (w : World) (t : TypeId) (a b : Nat), k.format.order a b = none → (binOp op t (.float k a) (.float k b)).run P w = .ok (.bool n) w) → BinGo op x y (.bool n) :=
  fun n h => BinGo.flt hx hy fun P L w t a b ha hb => ⟨_, w, h P L w t a b (ord L a b ha hb), by simp only [rep], Below.refl _ _⟩
 have goN : (∀ a b, ((k.format.read a).isNaN = true ∨ (k.format.read b).isNaN = true) → (op = .add ∧ k.format.add a b = none ∨ op = .sub ∧ k.format.sub a b = none ∨ op = .mul ∧ k.format.mul a b = none ∨ op = .quo ∧ k.format.div a b = none)) → BinGo op x y (.nan k) :=
  fun h => BinGo.flt hx hy fun P L w t a b ha hb => by
   obtain ⟨v, w', h1, h2, h3⟩ := arith_none op P w t k a b (h a b (hn L a b ha hb))
   exact ⟨v, w', h1, by simpa only [rep] using h2, h3⟩
 cases op <;> simp only [binN, reduceCtorEq] at hr
 case add => exact ⟨_, hr, goN fun a b h => .inl ⟨rfl, by simp [Ieee.Format.add, (sum_nan h).1]⟩⟩
 case sub => exact ⟨_, hr, goN fun a b h => .inr (.inl ⟨rfl, by simp [Ieee.Format.sub, (sum_nan (h.imp id opp_nan)).1]⟩)⟩
 case mul => exact ⟨_, hr, goN fun a b h => .inr (.inr (.inl ⟨rfl, by simp [Ieee.Format.mul, (sum_nan h).2.1]⟩))⟩
 case quo => exact ⟨_, hr, goN fun a b h => .inr (.inr (.inr ⟨rfl, by simp [Ieee.Format.div, (sum_nan h).2.2]⟩))⟩
 case eql => exact ⟨_, hr, goB _ fun P L w t a b h => by simp only [binOp_float_cmp_eql, Sem.run_pure, h]; rfl⟩
 case neq => exact ⟨_, hr, goB _ fun P L w t a b h => by simp only [binOp_float_cmp_neq, Sem.run_pure, h]; rfl⟩
 case lss => exact ⟨_, hr, goB _ fun P L w t a b h => by simp only [binOp_float_cmp_lss, Sem.run_pure, h]; rfl⟩
 case leq => exact ⟨_, hr, goB _ fun P L w t a b h => by simp only [binOp_float_cmp_leq, Sem.run_pure, h]; rfl⟩
 case gtr => exact ⟨_, hr, goB _ fun P L w t a b h => by simp only [binOp_float_cmp_gtr, Sem.run_pure, h]; rfl⟩
 case geq => exact ⟨_, hr, goB _ fun P L w t a b h => by simp only [binOp_float_cmp_geq, Sem.run_pure, h]; rfl⟩
theorem binSV_ok {op : BinOp} {x y : SV} {K : SV → Option α} {r : α} (hr : binSV op x y K = some r) : ∃ s, K s = some r ∧ BinGo op x y s := by
 unfold binSV at hr
 split at hr
 ·rename_i hop
  split at hr
  ·rename_i n hn
   exact shSV_ok hop hn hr
  ·cases hr
 ·split at hr
  ·exact binU_ok uk8 hr
  ·exact binU_ok uk16 hr
  ·exact binU_ok uk32 hr
  ·exact binU_ok uk64 hr
  ·split at hr
   ·rename_i hk; subst hk; exact binI_ok hr
   ·cases hr
  ·split at hr
   ·rename_i hk; subst hk; exact binF_ok hr
   ·cases hr
  ·split at hr
   ·rename_i hk; subst hk
    exact binN_ok nan_rep flt_rep (fun L a b ha _ => .inl (by simp only [rep] at ha; obtain ⟨x, e, hx⟩ := ha; cases e; exact hx.1)) hr
   ·cases hr
  ·split at hr
   ·rename_i hk; subst hk
    exact binN_ok flt_rep nan_rep (fun L a b _ hb => .inr (by simp only [rep] at hb; obtain ⟨x, e, hx⟩ := hb; cases e; exact hx.1)) hr
   ·cases hr
  ·split at hr
   ·rename_i hk; subst hk
    exact binN_ok nan_rep nan_rep (fun L a b ha _ => .inl (by simp only [rep] at ha; obtain ⟨x, e, hx⟩ := ha; cases e; exact hx.1)) hr
   ·cases hr
  ·cases hr
end Go.Ev
namespace Go.Ev
open Go.RowKit
variable {α : Type}
def unSV (op : UnOp) (x : SV) (K : SV → Option α) : Option α :=
 match op, x with
 | .not, .bool b => K (.bool (!b))
 | .neg, .i k n => K (.i k (k.wrap (0 - n)))
 | .neg, .u8 x => K (.u8 (-x))
 | .neg, .u16 x => K (.u16 (-x))
 | .neg, .u32 x => K (.u32 (-x))
 | .neg, .u64 x => K (.u64 (-x))
 | .xor, .u8 x => K (.u8 (~~~x))
 | .xor, .u16 x => K (.u16 (~~~x))
 | .xor, .u32 x => K (.u32 (~~~x))
 | .xor, .u64 x => K (.u64 (~~~x))
 | .neg, .f k b => K (.f k (Op.negFloat k b))
 | .xor, .i k n => K (.i k (k.wrap (BitVec.ofInt k.bits (if k.signed then -1 else k.max) ^^^ BitVec.ofInt k.bits n).toNat))
 | _, _ => none
def UnGo (op : UnOp) (x s : SV) : Prop :=
 ∀ (P : Program) (L : List (Option Loc)) (w : World) (vx : Value), rep L x vx → ∃ v, (Op.unary op vx).run P w = .ok v w ∧ rep L s v
theorem unU_neg {k : IntKind} {w : Nat} {mk : BitVec w → SV} (h : UK k w mk) (x : BitVec w) : UnGo .neg (mk x) (mk (-x)) := by
 intro P L wd vx hv
 rw [(h.rep L x vx).1 hv]
 refine ⟨.int k (k.wrap (0 - (x.toNat : Int))), by simp only [unary_neg, Op.intArith, Sem.run_pure], (h.rep _ _ _).2 ?_⟩
 have e : BitVec.ofInt w (0 - (x.toNat : Int)) = -x := by
  have := ofInt_sub' (0#w) x
  simpa using this
 rw [h.wrap, e]
theorem unU_xor {k : IntKind} {w : Nat} {mk : BitVec w → SV} (h : UK k w mk) (hm : k.max = ((BitVec.allOnes w).toNat : Int)) (x : BitVec w) : UnGo .xor (mk x) (mk (~~~x)) := by
 intro P L wd vx hv
 rw [(h.rep L x vx).1 hv]
 obtain ⟨s, hs, hg⟩ := binU_ok h (op := .xor) (a := BitVec.allOnes w) (b := x) (K := some) rfl
 simp only [Option.some.injEq] at hs; subst hs
 obtain ⟨v, w', h1, h2, h3⟩ := hg P L wd (.int k ((BitVec.allOnes w).toNat : Int)) (.int k (x.toNat : Int)) 0 (.tmp 0) (.tmp 0) ((h.rep _ _ _).2 rfl) ((h.rep _ _ _).2 rfl)
 rw [BitVec.allOnes_xor] at h2
 refine ⟨_, ?_, h2⟩
 rw [unary_xor, h.sign]
 simp only [Bool.false_eq_true, if_false, hm]
 rw [Sem.run_bind, eqGuard_at_int, Sem.run_pure, Result.andThen_ok, binOp_xor] at h1
 have hw : wd = w' := by
  simp only [Op.intBits, Sem.run_pure, Result.ok.injEq] at h1; exact h1.2
 rw [hw] at h1 ⊢; exact h1
theorem unSV_ok {op : UnOp} {x : SV} {K : SV → Option α} {r : α} (hr : unSV op x K = some r) : ∃ s, K s = some r ∧ UnGo op x s := by
 unfold unSV at hr
 split at hr
 ·exact ⟨_, hr, fun P L w vx hv => by simp only [rep] at hv; subst hv; exact ⟨_, by simp only [unary_not, Sem.run_pure]; rfl, by simp only [rep]⟩⟩
 ·exact ⟨_, hr, fun P L w vx hv => by simp only [rep] at hv; subst hv; exact ⟨_, by simp only [unary_neg, Op.intArith, Sem.run_pure]; rfl, by simp only [rep]⟩⟩
 ·exact ⟨_, hr, unU_neg uk8 _⟩
 ·exact ⟨_, hr, unU_neg uk16 _⟩
 ·exact ⟨_, hr, unU_neg uk32 _⟩
 ·exact ⟨_, hr, unU_neg uk64 _⟩
 ·exact ⟨_, hr, unU_xor uk8 (by decide) _⟩
 ·exact ⟨_, hr, unU_xor uk16 (by decide) _⟩
 ·exact ⟨_, hr, unU_xor uk32 (by decide) _⟩
 ·exact ⟨_, hr, unU_xor uk64 (by decide) _⟩
 ·exact ⟨_, hr, fun P L w vx hv => by simp only [rep] at hv; subst hv; exact ⟨_, by simp only [Op.unary, Sem.run_pure]; rfl, by simp only [rep]⟩⟩
 ·exact ⟨_, hr, fun P L w vx hv => by simp only [rep] at hv; subst hv; exact ⟨_, by simp only [unary_xor, Op.intBits, Sem.run_pure]; rfl, by simp only [rep]⟩⟩
 ·cases hr
def sOfU (k : IntKind) {w : Nat} (x : BitVec w) : Int := if w < k.bits then (x.toNat : Int) else (x.setWidth k.bits).toInt
def f2f (s : FloatKind) (b : Nat) (k : FloatKind) (K : SV → Option α) : Option α :=
 if s = k then K (.f k b) else
 match s.decode b with
 | .nan _ _ => K (.nan k)
 | .infinity g => K (.f k (k.encode (.infinity g)))
 | .number g m e => if (k.decode (k.encode (.number g m e))).isInfinity then K (.xf k (fun x => x < 2 ^ 32)) else K (.f k (k.encode (.number g m e)))
def f2i (s : FloatKind) (b : Nat) (k : IntKind) : Option Int :=
 match (s.decode b).toInt .zero with
 | some n => if k.min ≤ n ∧ n ≤ k.max then some n else none
 | none => none
def convU {w : Nat} (x : BitVec w) (d : TypeDesc) (K : SV → Option α) : Option α :=
 match d with
 | .int .u8 => K (.u8 (x.setWidth 8))
 | .int .u16 => K (.u16 (x.setWidth 16))
 | .int .u32 => K (.u32 (x.setWidth 32))
 | .int .u64 => K (.u64 (x.setWidth 64))
 | .int .i8 => K (.i .i8 (sOfU .i8 x))
 | .int .i16 => K (.i .i16 (sOfU .i16 x))
 | .int .i32 => K (.i .i32 (sOfU .i32 x))
 | .int .i64 => K (.i .i64 (sOfU .i64 x))
 | .float k => K (.f k (k.nearest (x.toNat : Int)))
 | _ => none
def convI (n : Int) (d : TypeDesc) (K : SV → Option α) : Option α :=
 match d with
 | .int .u8 => K (.u8 (BitVec.ofInt 8 n))
 | .int .u16 => K (.u16 (BitVec.ofInt 16 n))
 | .int .u32 => K (.u32 (BitVec.ofInt 32 n))
 | .int .u64 => K (.u64 (BitVec.ofInt 64 n))
 | .int .i8 => K (.i .i8 (IntKind.i8.wrap n))
 | .int .i16 => K (.i .i16 (IntKind.i16.wrap n))
 | .int .i32 => K (.i .i32 (IntKind.i32.wrap n))
 | .int .i64 => K (.i .i64 (IntKind.i64.wrap n))
 | .float k => K (.f k (k.nearest n))
 | _ => none
def convF (s : FloatKind) (b : Nat) (d : TypeDesc) (K : SV → Option α) : Option α :=
 match d with
 | .float k => f2f s b k K
 | .int .u8 => match f2i s b .u8 with | some n => K (.u8 (BitVec.ofInt 8 n)) | none => none
 | .int .u16 => match f2i s b .u16 with | some n => K (.u16 (BitVec.ofInt 16 n)) | none => none
 | .int .u32 => match f2i s b .u32 with | some n => K (.u32 (BitVec.ofInt 32 n)) | none => none
 | .int .u64 => match f2i s b .u64 with | some n => K (.u64 (BitVec.ofInt 64 n)) | none => none
 | .int k => match f2i s b k with | some n => K (.i k n) | none => none
 | _ => none
def convN (_s : FloatKind) (d : TypeDesc) (K : SV → Option α) : Option α :=
 match d with
 | .float k => K (.nan k)
 | _ => none
def convX (p : Int → Prop) (d : TypeDesc) (K : SV → Option α) : Option α :=
 match d with
 | .int k => K (.xi k (fun m => ∃ n, p n ∧ m = k.wrap n))
 | _ => none
def convSV (d : TypeDesc) (x : SV) (K : SV → Option α) : Option α :=
 match x with
 | .u8 x => convU x d K
 | .u16 x => convU x d K
 | .u32 x => convU x d K
 | .u64 x => convU x d K
 | .i _ n => convI n d K
 | .f s b => convF s b d K
 | .nan s => convN s d K
 | .xi _ p => convX p d K
 | _ => none
def ConvGo (d : TypeDesc) (x s : SV) : Prop :=
 ∀ (P : Program) (L : List (Option Loc)) (w : World) (vx : Value) (src dst : TypeId) (ds : TypeDesc), P.underlying src = some ds → P.underlying dst = some d → rep L x vx →
  ∃ v w', (convert src dst vx).run P w = .ok v w' ∧ rep L s v ∧ Below w.heap.size w w'
theorem sOfU_wrap (k : IntKind) (hk : k.signed = true) {w : Nat} (x : BitVec w) : k.wrap (x.toNat : Int) = sOfU k x := by
 unfold sOfU IntKind.wrap
 rw [hk]
 have hpos : 0 < k.bits := by cases k <;> decide
 have hm : ((x.toNat : Int) % 2 ^ k.bits) = ((x.toNat % 2 ^ k.bits : Nat) : Int) := by simp
 have hhalf : (2 : Nat) ^ k.bits = 2 * 2 ^ (k.bits - 1) := by
  obtain ⟨m, hm⟩ := Nat.exists_eq_succ_of_ne_zero (Nat.pos_iff_ne_zero.1 hpos)
  rw [hm]; simp [Nat.pow_succ, Nat.mul_comm]
 have e2 : (2:Int) ^ (k.bits - 1) = ((2 ^ (k.bits - 1) : Nat) : Int) := by simp
 have e3 : (2:Int) ^ k.bits = ((2 ^ k.bits : Nat) : Int) := by simp
 simp only [Bool.true_and, decide_eq_true_eq]
 rw [hm, e2, e3]
 by_cases hw : w < k.bits
 ·have hx : x.toNat < 2 ^ (k.bits - 1) := Nat.lt_of_lt_of_le x.isLt (Nat.pow_le_pow_right (by decide) (by omega))
  rw [if_pos hw, Nat.mod_eq_of_lt (by rw [hhalf]; omega), if_neg (by omega)]
 ·rw [if_neg hw, BitVec.toInt_eq_toNat_cond, BitVec.toNat_setWidth]
  have := Nat.mod_lt x.toNat (Nat.two_pow_pos k.bits)
  generalize x.toNat % 2 ^ k.bits = m at *
  rw [hhalf] at this ⊢
  split <;> split <;> omega
theorem run_conv_int (P : Program) (w : World) (src dst : TypeId) (ds : TypeDesc) (k q : IntKind) (n : Int) (hs : P.underlying src = some ds) (hd : P.underlying dst = some (.int k)) :
  (convert src dst (.int q n)).run P w = .ok (.int k (k.wrap n)) w := by
 simp [convert, run_underlying hs, run_underlying hd, Conv.intToInt]
theorem run_conv_intf (P : Program) (w : World) (src dst : TypeId) (ds : TypeDesc) (k : FloatKind) (q : IntKind) (n : Int) (hs : P.underlying src = some ds) (hd : P.underlying dst = some (.float k)) :
  (convert src dst (.int q n)).run P w = .ok (.float k (k.nearest n)) w := by
 simp [convert, run_underlying hs, run_underlying hd, Conv.intToFloat]
theorem run_conv_fi (P : Program) (w : World) (src dst : TypeId) (ds : TypeDesc) (s : FloatKind) (k : IntKind) (b : Nat) (n : Int) (hs : P.underlying src = some ds) (hd : P.underlying dst = some (.int k)) (h : f2i s b k = some n) :
  (convert src dst (.float s b)).run P w = .ok (.int k n) w := by
 unfold f2i at h
 split at h
 ·rename_i m hm
  split at h
  ·rename_i hb
   simp only [Option.some.injEq] at h; subst h
   simp [convert, run_underlying hs, run_underlying hd, Conv.floatToInt, hm, hb]
  ·cases h
 ·cases h
theorem convU_ok {k : IntKind} {w : Nat} {mk : BitVec w → SV} (h : UK k w mk) {d : TypeDesc} {x : BitVec w} {K : SV → Option α} {r : α} (hr : convU x d K = some r) : ∃ s, K s = some r ∧ ConvGo d (mk x) s := by
 have goU : ∀ {k' : IntKind} {w' : Nat} {mk' : BitVec w' → SV}, UK k' w' mk' → ConvGo (.int k') (mk x) (mk' (x.setWidth w')) := by
  intro k' w' mk' h' P L wd vx src dst ds hs hd hv
  rw [(h.rep L x vx).1 hv]
  refine ⟨_, wd, run_conv_int P wd src dst ds k' k _ hs hd, (h'.rep _ _ _).2 ?_, Below.refl _ _⟩
  have e : (BitVec.ofInt w' (x.toNat : Int)).toNat = (x.setWidth w').toNat := by simp
  rw [h'.wrap, e]
 have goI : ∀ {k' : IntKind}, k'.signed = true → ConvGo (.int k') (mk x) (.i k' (sOfU k' x)) := by
  intro k' hk P L wd vx src dst ds hs hd hv
  rw [(h.rep L x vx).1 hv]
  exact ⟨_, wd, run_conv_int P wd src dst ds k' k _ hs hd, by simp only [rep, sOfU_wrap k' hk], Below.refl _ _⟩
 unfold convU at hr
 split at hr
 ·exact ⟨_, hr, goU uk8⟩
 ·exact ⟨_, hr, goU uk16⟩
 ·exact ⟨_, hr, goU uk32⟩
 ·exact ⟨_, hr, goU uk64⟩
 ·exact ⟨_, hr, goI rfl⟩
 ·exact ⟨_, hr, goI rfl⟩
 ·exact ⟨_, hr, goI rfl⟩
 ·exact ⟨_, hr, goI rfl⟩
 ·refine ⟨_, hr, fun P L wd vx src dst ds hs hd hv => ?_⟩
  rw [(h.rep L x vx).1 hv]
  exact ⟨_, wd, run_conv_intf P wd src dst ds _ k _ hs hd, by simp only [rep], Below.refl _ _⟩
 ·cases hr
theorem convI_ok {k : IntKind} {d : TypeDesc} {n : Int} {K : SV → Option α} {r : α} (hr : convI n d K = some r) : ∃ s, K s = some r ∧ ConvGo d (.i k n) s := by
 have goU : ∀ {k' : IntKind} {w' : Nat} {mk' : BitVec w' → SV}, UK k' w' mk' → ConvGo (.int k') (.i k n) (mk' (BitVec.ofInt w' n)) := by
  intro k' w' mk' h' P L wd vx src dst ds hs hd hv
  simp only [rep] at hv; subst hv
  exact ⟨_, wd, run_conv_int P wd src dst ds k' k _ hs hd, (h'.rep _ _ _).2 (by rw [h'.wrap]), Below.refl _ _⟩
 have goI : ∀ {k' : IntKind}, ConvGo (.int k') (.i k n) (.i k' (k'.wrap n)) := by
  intro k' P L wd vx src dst ds hs hd hv
  simp only [rep] at hv; subst hv
  exact ⟨_, wd, run_conv_int P wd src dst ds k' k _ hs hd, by simp only [rep], Below.refl _ _⟩
 unfold convI at hr
 split at hr
 ·exact ⟨_, hr, goU uk8⟩
 ·exact ⟨_, hr, goU uk16⟩
 ·exact ⟨_, hr, goU uk32⟩
 ·exact ⟨_, hr, goU uk64⟩
 ·exact ⟨_, hr, goI⟩
 ·exact ⟨_, hr, goI⟩
 ·exact ⟨_, hr, goI⟩
 ·exact ⟨_, hr, goI⟩
 ·refine ⟨_, hr, fun P L wd vx src dst ds hs hd hv => ?_⟩
  simp only [rep] at hv; subst hv
  exact ⟨_, wd, run_conv_intf P wd src dst ds _ k _ hs hd, by simp only [rep], Below.refl _ _⟩
 ·cases hr
theorem cut_nan_conv (k : FloatKind) (b t : Nat) : nanOK k ((Question.nanConv k b).cut t) := by
 have := cut_nan k b b t
 cases k <;> exact this
theorem conv_ff_nan (P : Program) (w : World) (src dst : TypeId) (ds : TypeDesc) (s k : FloatKind) (b : Nat) (hs : P.underlying src = some ds) (hd : P.underlying dst = some (.float k)) (hn : (s.decode b).isNaN = true) (hsk' : s = k → nanOK k b) :
  ∃ x w', (convert src dst (.float s b)).run P w = .ok (.float k x) w' ∧ nanOK k x ∧ Below w.heap.size w w' := by
 by_cases hsk : s = k
 ·subst hsk
  exact ⟨b, w, by simp [convert, run_underlying hs, run_underlying hd, Conv.floatToFloat], hsk' rfl, Below.refl _ _⟩
 ·cases hb : s.decode b with
  | nan g t =>
   refine ⟨(Question.nanConv k b).cut (w.tape w.drawn (.nanConv k b)), { w with drawn := w.drawn + 1 }, ?_, cut_nan_conv k b _, below_drew w⟩
   simp [convert, run_underlying hs, run_underlying hd, Conv.floatToFloat, hsk, hb, Question.forced]
  | number => rw [hb] at hn; cases hn
  | infinity => rw [hb] at hn; cases hn
theorem convF_ok {s : FloatKind} {d : TypeDesc} {b : Nat} {K : SV → Option α} {r : α} (hr : convF s b d K = some r) : ∃ t, K t = some r ∧ ConvGo d (.f s b) t := by
 have goU : ∀ {k' : IntKind} {w' : Nat} {mk' : BitVec w' → SV} {n : Int}, UK k' w' mk' → f2i s b k' = some n → (BitVec.ofInt w' n).toNat = n → ConvGo (.int k') (.f s b) (mk' (BitVec.ofInt w' n)) := by
  intro k' w' mk' n h' hn he P L wd vx src dst ds hs hd hv
  simp only [rep] at hv; subst hv
  exact ⟨_, wd, run_conv_fi P wd src dst ds s k' b n hs hd hn, (h'.rep _ _ _).2 (by rw [he]), Below.refl _ _⟩
 have goI : ∀ {k' : IntKind} {n : Int}, f2i s b k' = some n → ConvGo (.int k') (.f s b) (.i k' n) := by
  intro k' n hn P L wd vx src dst ds hs hd hv
  simp only [rep] at hv; subst hv
  exact ⟨_, wd, run_conv_fi P wd src dst ds s k' b n hs hd hn, by simp only [rep], Below.refl _ _⟩
 have rng : ∀ {k' : IntKind} {n : Int}, f2i s b k' = some n → k'.min ≤ n ∧ n ≤ k'.max := by
  intro k' n h
  unfold f2i at h
  split at h
  ·split at h
   ·rename_i hb; simp only [Option.some.injEq] at h; subst h; exact hb
   ·cases h
  ·cases h
 unfold convF at hr
 split at hr
 ·rename_i k
  unfold f2f at hr
  split at hr
  ·rename_i hsk
   subst hsk
   refine ⟨_, hr, fun P L wd vx src dst ds hs hd hv => ?_⟩
   simp only [rep] at hv; subst hv
   exact ⟨_, wd, by simp [convert, run_underlying hs, run_underlying hd, Conv.floatToFloat]; rfl, by simp only [rep], Below.refl _ _⟩
  ·rename_i hsk
   split at hr
   ·rename_i g t hb
    refine ⟨_, hr, fun P L wd vx src dst ds hs hd hv => ?_⟩
    simp only [rep] at hv; subst hv
    obtain ⟨x, w', h1, h2, h3⟩ := conv_ff_nan P wd src dst ds s k b hs hd (by rw [hb]; rfl) (fun h => absurd h hsk)
    exact ⟨_, w', h1, by simp only [rep]; exact ⟨x, rfl, h2⟩, h3⟩
   ·rename_i g hb
    refine ⟨_, hr, fun P L wd vx src dst ds hs hd hv => ?_⟩
    simp only [rep] at hv; subst hv
    exact ⟨_, wd, by simp [convert, run_underlying hs, run_underlying hd, Conv.floatToFloat, hsk, hb]; rfl, by simp only [rep], Below.refl _ _⟩
   ·rename_i g m e hb
    split at hr
    ·rename_i hi
     refine ⟨_, hr, fun P L wd vx src dst ds hs hd hv => ?_⟩
     simp only [rep] at hv; subst hv
     refine ⟨.float k ((Question.floatToFloat b).cut (wd.tape wd.drawn (.floatToFloat b))), { wd with drawn := wd.drawn + 1 }, ?_, ?_, below_drew wd⟩
     ·simp [convert, run_underlying hs, run_underlying hd, Conv.floatToFloat, hsk, hb, hi, Question.forced]
     ·simp only [rep]
      exact ⟨_, rfl, Nat.mod_lt _ (by decide)⟩
    ·rename_i hi
     refine ⟨_, hr, fun P L wd vx src dst ds hs hd hv => ?_⟩
     simp only [rep] at hv; subst hv
     exact ⟨_, wd, by simp [convert, run_underlying hs, run_underlying hd, Conv.floatToFloat, hsk, hb, hi]; rfl, by simp only [rep], Below.refl _ _⟩
 ·split at hr
  ·rename_i n hn
   refine ⟨_, hr, goU uk8 hn ?_⟩
   have := rng hn; simp [IntKind.min, IntKind.max, IntKind.bits, IntKind.signed] at this; rw [BitVec.toNat_ofInt]; omega
  ·cases hr
 ·split at hr
  ·rename_i n hn
   refine ⟨_, hr, goU uk16 hn ?_⟩
   have := rng hn; simp [IntKind.min, IntKind.max, IntKind.bits, IntKind.signed] at this; rw [BitVec.toNat_ofInt]; omega
  ·cases hr
 ·split at hr
  ·rename_i n hn
   refine ⟨_, hr, goU uk32 hn ?_⟩
   have := rng hn; simp [IntKind.min, IntKind.max, IntKind.bits, IntKind.signed] at this; rw [BitVec.toNat_ofInt]; omega
  ·cases hr
 ·split at hr
  ·rename_i n hn
   refine ⟨_, hr, goU uk64 hn ?_⟩
   have := rng hn; simp [IntKind.min, IntKind.max, IntKind.bits, IntKind.signed] at this; rw [BitVec.toNat_ofInt]; omega
  ·cases hr
 ·split at hr
  ·rename_i n hn; exact ⟨_, hr, goI hn⟩
  ·cases hr
 ·cases hr
theorem convSV_ok {d : TypeDesc} {x : SV} {K : SV → Option α} {r : α} (hr : convSV d x K = some r) : ∃ s, K s = some r ∧ ConvGo d x s := by
 unfold convSV at hr
 split at hr
 ·exact convU_ok uk8 hr
 ·exact convU_ok uk16 hr
 ·exact convU_ok uk32 hr
 ·exact convU_ok uk64 hr
 ·exact convI_ok hr
 ·exact convF_ok hr
 ·unfold convN at hr
  split at hr
  ·refine ⟨_, hr, fun P L wd vx src dst ds hs hd hv => ?_⟩
   simp only [rep] at hv
   obtain ⟨b, rfl, hb⟩ := hv
   obtain ⟨x, w', h1, h2, h3⟩ := conv_ff_nan P wd src dst ds _ _ b hs hd hb.1 (fun h => by rw [← h]; exact hb)
   exact ⟨_, w', h1, by simp only [rep]; exact ⟨x, rfl, h2⟩, h3⟩
  ·cases hr
 ·unfold convX at hr
  split at hr
  ·refine ⟨_, hr, fun P L wd vx src dst ds hs hd hv => ?_⟩
   simp only [rep] at hv
   obtain ⟨n, rfl, hn⟩ := hv
   exact ⟨_, wd, run_conv_int P wd src dst ds _ _ n hs hd, by simp only [rep]; exact ⟨_, rfl, n, hn, rfl⟩, Below.refl _ _⟩
  ·cases hr
 ·cases hr
end Go.Ev
