/-
  Part of the proof; what its functions and lemmas say stands in the text.
-/
import Derived.Test.YtakonchpkchfhaaDoorEv5
set_option linter.unusedSimpArgs false
set_option linter.unusedVariables false
/-!
Operations: what they make of symbolic values, and that the model does the same.
-/
namespace Go.Ev
open Go.RowKit
variable {α : Type}

abbrev Rows := List (Option Row)

def Goes (P : Program) (o : Oper) (a : Act) (w : World) (R : Value → World → Prop) : Prop :=
  ∀ (next : Act → World → Prop) (Q : Exit → Act → World → Prop), (∀ v w', R v w' → next (a.put o.dst v) w') → o.wp P a w next Q

theorem Goes.value {P : Program} {o : Oper} {a : Act} {w w' : World} {R : Value → World → Prop} {v : Value} (h : (execOp a.eval o).run P w = .ok (.value v) w') (hr : R v w') : Goes P o a w R := by
  intro next Q hn
  unfold Oper.wp
  rw [h]
  exact hn v w' hr
theorem Goes.skip {P : Program} {o : Oper} {a : Act} {w w' : World} {R : Value → World → Prop} (h : (execOp a.eval o).run P w = .ok .skip w') (hr : R undef w') : Goes P o a w R := by
  intro next Q hn
  unfold Oper.wp
  rw [h]
  exact hn undef w' hr

structure Ext (k : Nat) (L L' : List (Option Loc)) : Prop where
  len : L'.length = L.length
  mono : ∀ (r : Nat) (p : Loc), lo L r = some p → lo L' r = some p
  other : ∀ r, r ≠ k → lo L' r = lo L r
theorem Ext.refl (k : Nat) (L : List (Option Loc)) : Ext k L L := ⟨rfl, fun _ _ h => h, fun _ _ => rfl⟩
theorem Ext.set {k : Nat} {L : List (Option Loc)} (h : lo L k = none) (o : Loc) : Ext k L (L.set k (some o)) := ⟨by simp, lo_ext h, fun _ hr => lo_set_ne hr⟩

def setRow (rows : Rows) (k : Nat) : Option SV → Rows
  | none => rows
  | some con => rows.set k (some ⟨con, true⟩)

def sub (rows rows' : Rows) : Prop := ∀ (r : Nat) (row : Row), rows[r]? = some (some row) → rows'[r]? = some (some row)

def QGo (P : Program) (G : List (Nat × SV)) (ρ : Operand → SV) (rows : Rows) (k : Nat) (op : Op) (s : SV) (row : Option SV) : Prop :=
  ∀ (w0 : World) (o : Oper), o.op = op → ∀ (L : List (Option Loc)) (a : Act) (w : World) (rows' : Rows), (∀ x ∈ op.operands, rep L (ρ x) (a.eval x)) → RowsOK w0 L rows' w → sub rows rows' →
    (row ≠ none → k < rows'.length ∧ lo L k = none) → Glob G w0 → a.defers = [] →
    Goes P o a w (fun v w' => ∃ L', Ext k L L' ∧ rep L' s v ∧ RowsOK w0 L' (setRow rows' k row) w')

/-- An operation that makes a value and no memory. -/
theorem QGo.val {P : Program} {G : List (Nat × SV)} {ρ : Operand → SV} {rows : Rows} {k : Nat} {op : Op} {s : SV}
    (h : ∀ (w0 : World) (o : Oper), o.op = op → ∀ (L : List (Option Loc)) (a : Act) (w : World) (rows' : Rows), (∀ x ∈ op.operands, rep L (ρ x) (a.eval x)) → RowsOK w0 L rows' w → sub rows rows' → Glob G w0 →
      ∃ v w', (execOp a.eval o).run P w = .ok (.value v) w' ∧ rep L s v ∧ Below w.heap.size w w') : QGo P G ρ rows k op s none := by
  intro w0 o ho L a w rows' hρ hw hsub _ hG _
  obtain ⟨v, w', h1, h2, h3⟩ := h w0 o ho L a w rows' hρ hw hsub hG
  exact Goes.value h1 ⟨L, Ext.refl k L, h2, hw.grow h3⟩

/-! ### Types -/
def isAggD : TypeDesc → Bool
  | .struct _ | .array _ _ => true
  | _ => false
def sizeT (P : Program) (t : TypeId) : Option Nat := (P.info? t).map (·.size)

theorem run_isAgg {P : Program} {t : TypeId} {d : TypeDesc} (h : P.underlying t = some d) (w : World) : (isAgg t).run P w = .ok (isAggD d) w := by
  unfold isAgg
  rw [Sem.run_bind, run_underlying h]
  cases d <;> rfl
theorem run_sizeT {P : Program} {t : TypeId} {n : Nat} (h : sizeT P t = some n) (w : World) : (sizeOf t).run P w = .ok n w := by
  unfold sizeT at h
  cases hi : P.info? t with
  | none => rw [hi] at h; cases h
  | some i =>
    rw [hi] at h
    simp only [Option.map_some, Option.some.injEq] at h; subst h
    simp [sizeOf, run_typeInfo (w := w) hi]

/-! ### Reading -/
theorem RowOK.read {L : List (Option Loc)} {l : Loc} {row : Row} {w : World} (h : RowOK L l row w) (off : Nat) : ∀ (n : Nat), off + n ≤ row.con.len →
    ∃ cs : List Value, cs.length = n ∧ ∀ j, j < n → ∃ v, cs[j]? = some v ∧ w.cell? ⟨l.blk, l.base + off + j, none⟩ = some v ∧ rep L (row.con.cell (off + j)) v
  | 0, _ => ⟨[], rfl, fun j hj => by cases hj⟩
  | n + 1, hn => by
    obtain ⟨cs, hl, hc⟩ := RowOK.read h off n (by omega)
    obtain ⟨v, h1, h2⟩ := h.cell (off + n) (by omega)
    refine ⟨cs ++ [v], by simp [hl], fun j hj => ?_⟩
    rcases Nat.lt_or_ge j n with hlt | hge
    · obtain ⟨u, h3, h4, h5⟩ := hc j hlt
      exact ⟨u, by rw [List.getElem?_append_left (by omega)]; exact h3, h4, h5⟩
    · have : j = n := by omega
      subst this
      exact ⟨v, by rw [List.getElem?_append_right (by omega)]; simp [hl], by rw [Nat.add_assoc]; exact h1, h2⟩

theorem rep_agg_of_cells {L : List (Option Loc)} {con : SV} {cs : List Value} (hk : (∃ l, con = .agg l) ∨ (∃ k l, con = .ai k l) ∨ (∃ l, con = .a8 l) ∨ (∃ l, con = .a64 l)) (hl : cs.length = con.len)
    (h : ∀ j, j < con.len → ∃ v, cs[j]? = some v ∧ rep L (con.cell j) v) : rep L con (.agg ⟨cs⟩) := by
  rcases hk with ⟨l, rfl⟩ | ⟨k, l, rfl⟩ | ⟨l, rfl⟩ | ⟨l, rfl⟩
  · simp only [rep]; exact ⟨cs, rfl, reps_of_get hl h⟩
  · simp only [rep]
    congr 2
    apply List.ext_getElem?
    intro j
    rcases Nat.lt_or_ge j l.length with hj | hj
    · obtain ⟨v, h1, h2⟩ := h j hj
      simp only [SV.cell, rep] at h2
      rw [h1, h2]; simp [hj, vi]
    · rw [List.getElem?_eq_none (by simp only [SV.len] at hl; omega), List.getElem?_eq_none (by simpa using hj)]
  · simp only [rep]
    congr 2
    apply List.ext_getElem?
    intro j
    rcases Nat.lt_or_ge j l.length with hj | hj
    · obtain ⟨v, h1, h2⟩ := h j hj
      simp only [SV.cell, rep] at h2
      rw [h1, h2]; simp [hj, v8]
    · rw [List.getElem?_eq_none (by simp only [SV.len] at hl; omega), List.getElem?_eq_none (by simpa using hj)]
  · simp only [rep]
    congr 2
    apply List.ext_getElem?
    intro j
    rcases Nat.lt_or_ge j l.length with hj | hj
    · obtain ⟨v, h1, h2⟩ := h j hj
      simp only [SV.cell, rep] at h2
      rw [h1, h2]; simp [hj, v64]
    · rw [List.getElem?_eq_none (by simp only [SV.len] at hl; omega), List.getElem?_eq_none (by simpa using hj)]

/-- n cells of a content, as one value. -/
def partK (con : SV) (off n : Nat) (K : SV → Option α) : Option α :=
  match con with
  | .agg l => if off + n ≤ l.length then K (norm ((l.drop off).take n)) else none
  | .ai k l => match off with | 0 => if l.length = n then K (.ai k l) else none | _ + 1 => none
  | .a8 l => match off with | 0 => if l.length = n then K (.a8 l) else none | _ + 1 => none
  | .a64 l => match off with | 0 => if l.length = n then K (.a64 l) else none | _ + 1 => none
  | _ => none

theorem partK_ok {con : SV} {off n : Nat} {K : SV → Option α} {r : α} (h : partK con off n K = some r) : ∃ s, K s = some r ∧ off + n ≤ con.len ∧
    ∀ (L : List (Option Loc)) (cs : List Value), cs.length = n → (∀ j, j < n → ∃ v, cs[j]? = some v ∧ rep L (con.cell (off + j)) v) → rep L s (.agg ⟨cs⟩) := by
  unfold partK at h
  split at h
  · rename_i l
    split at h
    · rename_i hn
      refine ⟨_, h, hn, fun L cs hl hc => rep_norm (reps_of_get (by simp; omega) fun j hj => ?_)⟩
      have hj' : j < n := by simp at hj; omega
      obtain ⟨v, h1, h2⟩ := hc j hj'
      refine ⟨v, h1, ?_⟩
      simp only [SV.cell] at h2
      have e : ((l.drop off).take n).getD j .any = l.getD (off + j) .any := by
        simp [List.getD_eq_getElem?_getD, hj', List.getElem?_drop]
      rw [e]; exact h2
    · cases h
  · rename_i k l
    split at h
    · split at h
      · rename_i hn
        refine ⟨_, h, by simp [SV.len]; omega, fun L cs hl hc => rep_agg_of_cells (.inr (.inl ⟨k, l, rfl⟩)) (by simp [SV.len]; omega) fun j hj => ?_⟩
        simpa using hc j (by simp [SV.len] at hj; omega)
      · cases h
    · cases h
  · rename_i l
    split at h
    · split at h
      · rename_i hn
        refine ⟨_, h, by simp [SV.len]; omega, fun L cs hl hc => rep_agg_of_cells (.inr (.inr (.inl ⟨l, rfl⟩))) (by simp [SV.len]; omega) fun j hj => ?_⟩
        simpa using hc j (by simp [SV.len] at hj; omega)
      · cases h
    · cases h
  · rename_i l
    split at h
    · split at h
      · rename_i hn
        refine ⟨_, h, by simp [SV.len]; omega, fun L cs hl hc => rep_agg_of_cells (.inr (.inr (.inr ⟨l, rfl⟩))) (by simp [SV.len]; omega) fun j hj => ?_⟩
        simpa using hc j (by simp [SV.len] at hj; omega)
      · cases h
    · cases h
  · cases h

/-- A variable of type t in a content. -/
def loadK (P : Program) (t : TypeId) (con : SV) (off : Nat) (K : SV → Option α) : Option α :=
  match P.underlying t, sizeT P t with
  | some d, some n => if isAggD d then partK con off n K else if off < con.len then K (con.cell off) else none
  | _, _ => none

theorem run_loadCells' {P : Program} {w : World} (b o : Nat) (cs : List Value) (h : ∀ j, j < cs.length → ∃ v, cs[j]? = some v ∧ w.cell? ⟨b, o + j, none⟩ = some v) : (loadCells ⟨b, o, none⟩ cs.length).run P w = .ok ⟨cs⟩ w := by
  rw [run_loadCells_list w ⟨b, o, none⟩ cs]
  intro j v hj
  have hlt : j < cs.length := by
    rcases Nat.lt_or_ge j cs.length with h' | h'
    · exact h'
    · rw [List.getElem?_eq_none h'] at hj; cases hj
  obtain ⟨u, h1, h2⟩ := h j hlt
  rw [Addr.add_lit, h2, ← h1, hj]

theorem loadK_ok {P : Program} {t : TypeId} {con : SV} {off : Nat} {K : SV → Option α} {r : α} (h : loadK P t con off K = some r) : ∃ s, K s = some r ∧
    ∀ (L : List (Option Loc)) (w : World) (b o : Nat), (∀ n, off + n ≤ con.len → ∃ cs : List Value, cs.length = n ∧ ∀ j, j < n → ∃ v, cs[j]? = some v ∧ w.cell? ⟨b, o + off + j, none⟩ = some v ∧ rep L (con.cell (off + j)) v) →
      ∃ v, (loadVar t ⟨b, o + off, none⟩).run P w = .ok v w ∧ rep L s v := by
  unfold loadK at h
  split at h
  · rename_i d n hd hn
    split at h
    · rename_i ha
      obtain ⟨s, hs, hle, hrep⟩ := partK_ok h
      refine ⟨s, hs, fun L w b o hread => ?_⟩
      obtain ⟨cs, hl, hc⟩ := hread n hle
      refine ⟨.agg ⟨cs⟩, ?_, hrep L cs hl fun j hj => let ⟨v, h1, _, h3⟩ := hc j hj; ⟨v, h1, h3⟩⟩
      unfold loadVar
      rw [Sem.run_bind, run_isAgg hd, Result.andThen_ok]
      simp only [ha, if_true]
      rw [Sem.run_bind, run_sizeT hn, Result.andThen_ok, Sem.run_bind]
      have := run_loadCells' (P := P) (w := w) b (o + off) cs (fun j hj => let ⟨v, h1, h2, _⟩ := hc j (by omega); ⟨v, h1, h2⟩)
      rw [hl] at this
      rw [this]; rfl
    · rename_i ha
      split at h
      · rename_i hoff
        refine ⟨_, h, fun L w b o hread => ?_⟩
        obtain ⟨cs, hl, hc⟩ := hread 1 (by omega)
        obtain ⟨v, h1, h2, h3⟩ := hc 0 (by omega)
        refine ⟨v, ?_, h3⟩
        unfold loadVar
        rw [Sem.run_bind, run_isAgg hd, Result.andThen_ok]
        simp only [ha]
        rw [Nat.add_zero] at h2
        simp [run_load, h2]
      · cases h
  · cases h

/-- What an index is. -/
def idx : SV → Option Int
  | .i _ n => some n
  | .u8 x => some (x.toNat : Int)
  | .u16 x => some (x.toNat : Int)
  | .u32 x => some (x.toNat : Int)
  | .u64 x => some (x.toNat : Int)
  | _ => none
theorem idx_ok {s : SV} {n : Int} (h : idx s = some n) : ∀ L v, rep L s v → ∃ k, v = .int k n := by
  intro L v hv
  cases s <;> simp only [idx, reduceCtorEq, Option.some.injEq] at h <;> subst h <;> simp only [rep] at hv <;> exact ⟨_, hv⟩

theorem lit_add (b o n : Nat) : Addr.add ⟨b, o, none⟩ n = ⟨b, o + n, none⟩ := Addr.add_lit b o n

/-- The zero value of a type. -/
def zeroT (P : Program) (t : TypeId) : Option Value := (P.info? t).bind (·.zero)
theorem run_zeroT {P : Program} {t : TypeId} {z : Value} (h : zeroT P t = some z) (w : World) : (zeroValue t).run P w = .ok z w := by
  unfold zeroT at h
  cases hi : P.info? t with
  | none => rw [hi] at h; cases h
  | some i =>
    rw [hi] at h
    simp only [Option.bind_some] at h
    simp [zeroValue, run_typeInfo (w := w) hi, h]
end Go.Ev
