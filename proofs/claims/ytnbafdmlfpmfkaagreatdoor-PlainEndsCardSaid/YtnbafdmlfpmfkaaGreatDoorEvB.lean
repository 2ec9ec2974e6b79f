/-
  Part of the proof; what its functions and lemmas say stands in the text.
-/
import Derived.Test.YtnbafdmlfpmfkaaGreatDoorEvA
import Derived.Laws.Tables
import Derived.Great.BuildSlice
import Derived.Laws.MakeOwn
set_option linter.unusedSimpArgs false
set_option linter.unusedVariables false
namespace Go.Ev
open Go.RowKit
variable {α : Type}
abbrev Rows := List (Option Row)
def Goes (P : Program) (o : Oper) (a : Act) (w : World) (R : Value → World → Prop) : Prop :=
 ∀ (next : Act → World → Prop) (Q : Exit → Act → World → Prop), (∀ v w', R v w' → next (a.put o.dst v) w') → o.wp P a w next Q
theorem Goes.value {P : Program} {o : Oper} {a : Act} {w w' : World} {R : Value → World → Prop} {v : Value} (h : (execOp a.eval o).run P w = .ok (.value v) w') (hr : R v w') : Goes P o a w R := by
 intro next Q hn
 unfold Oper.wp
 rw [h]
 exact hn v w' hr
theorem Goes.skip {P : Program} {o : Oper} {a : Act} {w w' : World} {R : Value → World → Prop} (h : (execOp a.eval o).run P w = .ok .skip w') (hr : R undef w') : Goes P o a w R := by
 intro next Q hn
 unfold Oper.wp
 rw [h]
 exact hn undef w' hr
structure Ext (k : Nat) (L L' : List (Option Loc)) : Prop where
 len : L'.length = L.length
 mono : ∀ (r : Nat) (p : Loc), lo L r = some p → lo L' r = some p
 other : ∀ r, r ≠ k → lo L' r = lo L r
theorem Ext.refl (k : Nat) (L : List (Option Loc)) : Ext k L L := ⟨rfl, fun _ _ h => h, fun _ _ => rfl⟩
theorem Ext.set {k : Nat} {L : List (Option Loc)} (h : lo L k = none) (o : Loc) : Ext k L (L.set k (some o)) := ⟨by simp, lo_ext h, fun _ hr => lo_set_ne hr⟩
def setRow (rows : Rows) (k : Nat) : Option SV → Rows
 | none => rows
 | some con => rows.set k (some ⟨con, true⟩)
def sub (L : List (Option Loc)) (rows rows' : Rows) : Prop := ∀ (r : Nat) (row : Row) (lc : Loc), rows[r]? = some (some row) → lo L r = some lc → rows'[r]? = some (some row)
theorem sub.refl {L : List (Option Loc)} {rows : Rows} : sub L rows rows := fun _ _ _ h _ => h
def See (w0 : World) (L : List (Option Loc)) (rows : Rows) (w : World) : Prop := ∀ (r : Nat) (row : Row) (lc : Loc), rows[r]? = some (some row) → lo L r = some lc → RowOK L lc row w ∧ (row.own = true → w0.heap.size ≤ lc.blk)
theorem RowsOK.see {w0 w : World} {L : List (Option Loc)} {rows rows' : Rows} (h : RowsOK w0 L rows' w) (hs : sub L rows rows') : See w0 L rows w := fun r row lc h1 h2 => ⟨h.row r row lc (hs r row lc h1 h2) h2, h.new r row lc (hs r row lc h1 h2) h2⟩
def QGo (P : Program) (G : List (Nat × SV)) (ρ : Operand → SV) (rows : Rows) (k : Nat) (op : Op) (s : SV) (row : Option SV) : Prop :=
 ∀ (w0 : World) (o : Oper), o.op = op → ∀ (L : List (Option Loc)) (a : Act) (w : World) (rows' : Rows), (∀ x ∈ op.operands, rep L (ρ x) (a.eval x)) → RowsOK w0 L rows' w → sub L rows rows' →
  (row ≠ none → k < rows'.length ∧ lo L k = none) → Glob G w0 → a.defers = [] →
  Goes P o a w (fun v w' => ∃ L', Ext k L L' ∧ rep L' s v ∧ RowsOK w0 L' (setRow rows' k row) w')
theorem QGo.val {P : Program} {G : List (Nat × SV)} {ρ : Operand → SV} {rows : Rows} {k : Nat} {op : Op} {s : SV}
  (h : ∀ (w0 : World) (o : Oper), o.op = op → ∀ (L : List (Option Loc)) (a : Act) (w : World) (rows' : Rows), (∀ x ∈ op.operands, rep L (ρ x) (a.eval x)) → RowsOK w0 L rows' w → sub L rows rows' → Glob G w0 →
   ∃ v w', (execOp a.eval o).run P w = .ok (.value v) w' ∧ rep L s v ∧ Below w.heap.size w w') : QGo P G ρ rows k op s none := by
 intro w0 o ho L a w rows' hρ hw hsub _ hG _
 obtain ⟨v, w', h1, h2, h3⟩ := h w0 o ho L a w rows' hρ hw hsub hG
 exact Goes.value h1 ⟨L, Ext.refl k L, h2, hw.grow h3⟩
def isAggD : TypeDesc → Bool
 | .struct _ | .array _ _ => true
 | _ => false
def sizeT (P : Program) (t : TypeId) : Option Nat := (P.info? t).map (·.size)
theorem run_isAgg {P : Program} {t : TypeId} {d : TypeDesc} (h : P.underlying t = some d) (w : World) : (isAgg t).run P w = .ok (isAggD d) w := by
 unfold isAgg
 rw [Sem.run_bind, run_underlying h]
 cases d <;> rfl
theorem run_sizeT {P : Program} {t : TypeId} {n : Nat} (h : sizeT P t = some n) (w : World) : (sizeOf t).run P w = .ok n w := by
 unfold sizeT at h
 cases hi : P.info? t with
 | none => rw [hi] at h; cases h
 | some i =>
  rw [hi] at h
  simp only [Option.map_some, Option.some.injEq] at h; subst h
  simp [sizeOf, run_typeInfo (w := w) hi]
theorem RowOK.read {L : List (Option Loc)} {l : Loc} {row : Row} {w : World} (h : RowOK L l row w) (off : Nat) : ∀ (n : Nat), off + n ≤ row.con.len →
  ∃ cs : List Value, cs.length = n ∧ ∀ j, j < n → ∃ v, cs[j]? = some v ∧ w.cell? ⟨l.blk, l.base + off + j, none⟩ = some v ∧ rep L (row.con.cell (off + j)) v
 | 0, _ => ⟨[], rfl, fun j hj => by cases hj⟩
 | n + 1, hn => by
  obtain ⟨cs, hl, hc⟩ := RowOK.read h off n (by omega)
  obtain ⟨v, h1, h2⟩ := h.cell (off + n) (by omega)
  refine ⟨cs ++ [v], by simp [hl], fun j hj => ?_⟩
  rcases Nat.lt_or_ge j n with hlt | hge
  ·obtain ⟨u, h3, h4, h5⟩ := hc j hlt
   exact ⟨u, by rw [List.getElem?_append_left (by omega)]; exact h3, h4, h5⟩
  ·have : j = n := by omega
   subst this
   exact ⟨v, by rw [List.getElem?_append_right (by omega)]; simp [hl], by rw [Nat.add_assoc]; exact h1, h2⟩
theorem rep_agg_of_cells {L : List (Option Loc)} {con : SV} {cs : List Value} (hk : (∃ l, con = .agg l) ∨ (∃ k l, con = .ai k l) ∨ (∃ l, con = .a8 l) ∨ (∃ l, con = .a64 l)) (hl : cs.length = con.len)
  (h : ∀ j, j < con.len → ∃ v, cs[j]? = some v ∧ rep L (con.cell j) v) : rep L con (.agg ⟨cs⟩) := by
 rcases hk with ⟨l, rfl⟩ | ⟨k, l, rfl⟩ | ⟨l, rfl⟩ | ⟨l, rfl⟩
 ·simp only [rep]; exact ⟨cs, rfl, reps_of_get hl h⟩
 ·simp only [rep]
  congr 2
  apply List.ext_getElem?
  intro j
  rcases Nat.lt_or_ge j l.length with hj | hj
  ·obtain ⟨v, h1, h2⟩ := h j hj
   simp only [SV.cell, rep] at h2
   rw [h1, h2]; simp [hj, vi]
  ·rw [List.getElem?_eq_none (by simp only [SV.len] at hl; omega), List.getElem?_eq_none (by simpa using hj)]
 ·simp only [rep]
  congr 2
  apply List.ext_getElem?
  intro j
  rcases Nat.lt_or_ge j l.length with hj | hj
  ·obtain ⟨v, h1, h2⟩ := h j hj
   simp only [SV.cell, rep] at h2
   rw [h1, h2]; simp [hj, v8]
  ·rw [List.getElem?_eq_none (by simp only [SV.len] at hl; omega), List.getElem?_eq_none (by simpa using hj)]
 ·simp only [rep]
  congr 2
  apply List.ext_getElem?
  intro j
  rcases Nat.lt_or_ge j l.length with hj | hj
  ·obtain ⟨v, h1, h2⟩ := h j hj
   simp only [SV.cell, rep] at h2
   rw [h1, h2]; simp [hj, v64]
  ·rw [List.getElem?_eq_none (by simp only [SV.len] at hl; omega), List.getElem?_eq_none (by simpa using hj)]
def partK (con : SV) (off n : Nat) (K : SV → Option α) : Option α :=
 match con with
 | .agg l => if off + n ≤ l.length then K (norm ((l.drop off).take n)) else none
 | .ai k l => match off with | 0 => if l.length = n then K (.ai k l) else none | _ + 1 => none
 | .a8 l => match off with | 0 => if l.length = n then K (.a8 l) else none | _ + 1 => none
 | .a64 l => if n = 2 then if off + 2 ≤ l.length then K (.agg (((l.drop off).take 2).map SV.u64)) else none else match off with | 0 => if l.length = n then K (.a64 l) else none | _ + 1 => none
 | _ => none
theorem partK_ok {con : SV} {off n : Nat} {K : SV → Option α} {r : α} (h : partK con off n K = some r) : ∃ s, K s = some r ∧ off + n ≤ con.len ∧
  ∀ (L : List (Option Loc)) (cs : List Value), cs.length = n → (∀ j, j < n → ∃ v, cs[j]? = some v ∧ rep L (con.cell (off + j)) v) → rep L s (.agg ⟨cs⟩) := by
 unfold partK at h
 split at h
 ·rename_i l
  split at h
  ·rename_i hn
   refine ⟨_, h, hn, fun L cs hl hc => rep_norm (reps_of_get (by simp; omega) fun j hj => ?_)⟩
   have hj' : j < n := by simp at hj; omega
   obtain ⟨v, h1, h2⟩ := hc j hj'
   refine ⟨v, h1, ?_⟩
   simp only [SV.cell] at h2
   have e : ((l.drop off).take n).getD j .any = l.getD (off + j) .any := by
    simp [List.getD_eq_getElem?_getD, hj', List.getElem?_drop]
   rw [e]; exact h2
  ·cases h
 ·rename_i k l
  split at h
  ·split at h
   ·rename_i hn
    refine ⟨_, h, by simp [SV.len]; omega, fun L cs hl hc => rep_agg_of_cells (.inr (.inl ⟨k, l, rfl⟩)) (by simp [SV.len]; omega) fun j hj => ?_⟩
    simpa using hc j (by simp [SV.len] at hj; omega)
   ·cases h
  ·cases h
 ·rename_i l
  split at h
  ·split at h
   ·rename_i hn
    refine ⟨_, h, by simp [SV.len]; omega, fun L cs hl hc => rep_agg_of_cells (.inr (.inr (.inl ⟨l, rfl⟩))) (by simp [SV.len]; omega) fun j hj => ?_⟩
    simpa using hc j (by simp [SV.len] at hj; omega)
   ·cases h
  ·cases h
 ·rename_i l
  split at h
  ·rename_i hn2
   subst hn2
   split at h
   ·rename_i hn
    refine ⟨_, h, hn, fun L cs hl hc => ?_⟩
    simp only [rep]
    refine ⟨cs, rfl, reps_of_get (by simp; omega) fun j hj => ?_⟩
    have hj' : j < 2 := by simp at hj; omega
    obtain ⟨v, h1, h2⟩ := hc j hj'
    refine ⟨v, h1, ?_⟩
    simp only [SV.cell] at h2
    have e : (((l.drop off).take 2).map SV.u64).getD j .any = SV.u64 (l.getD (off + j) 0) := by
     have : off + j < l.length := by omega
     simp [List.getD_eq_getElem?_getD, hj', List.getElem?_drop, this]
    rw [e]; exact h2
   ·cases h
  ·split at h
   ·split at h
    ·rename_i hn
     refine ⟨_, h, by simp [SV.len]; omega, fun L cs hl hc => rep_agg_of_cells (.inr (.inr (.inr ⟨l, rfl⟩))) (by simp [SV.len]; omega) fun j hj => ?_⟩
     simpa using hc j (by simp [SV.len] at hj; omega)
    ·cases h
   ·cases h
 ·cases h
def loadK (P : Program) (t : TypeId) (con : SV) (off : Nat) (K : SV → Option α) : Option α :=
 match P.underlying t, sizeT P t with
 | some d, some n => if isAggD d then partK con off n K else if off < con.len then K (con.cell off) else none
 | _, _ => none
theorem run_loadCells' {P : Program} {w : World} (b o : Nat) (cs : List Value) (h : ∀ j, j < cs.length → ∃ v, cs[j]? = some v ∧ w.cell? ⟨b, o + j, none⟩ = some v) : (loadCells ⟨b, o, none⟩ cs.length).run P w = .ok ⟨cs⟩ w := by
 rw [run_loadCells_list w ⟨b, o, none⟩ cs]
 intro j v hj
 have hlt : j < cs.length := by
  rcases Nat.lt_or_ge j cs.length with h' | h'
  ·exact h'
  ·rw [List.getElem?_eq_none h'] at hj; cases hj
 obtain ⟨u, h1, h2⟩ := h j hlt
 rw [Addr.add_lit, h2, ← h1, hj]
theorem loadK_ok {P : Program} {t : TypeId} {con : SV} {off : Nat} {K : SV → Option α} {r : α} (h : loadK P t con off K = some r) : ∃ s, K s = some r ∧
  ∀ (L : List (Option Loc)) (w : World) (b o : Nat), (∀ n, off + n ≤ con.len → ∃ cs : List Value, cs.length = n ∧ ∀ j, j < n → ∃ v, cs[j]? = some v ∧ w.cell? ⟨b, o + off + j, none⟩ = some v ∧ rep L (con.cell (off + j)) v) →
   ∃ v, (loadVar t ⟨b, o + off, none⟩).run P w = .ok v w ∧ rep L s v := by
 unfold loadK at h
 split at h
 ·rename_i d n hd hn
  split at h
  ·rename_i ha
   obtain ⟨s, hs, hle, hrep⟩ := partK_ok h
   refine ⟨s, hs, fun L w b o hread => ?_⟩
   obtain ⟨cs, hl, hc⟩ := hread n hle
   refine ⟨.agg ⟨cs⟩, ?_, hrep L cs hl fun j hj => let ⟨v, h1, _, h3⟩ := hc j hj; ⟨v, h1, h3⟩⟩
   unfold loadVar
   rw [Sem.run_bind, run_isAgg hd, Result.andThen_ok]
   simp only [ha, if_true]
   rw [Sem.run_bind, run_sizeT hn, Result.andThen_ok, Sem.run_bind]
   have := run_loadCells' (P := P) (w := w) b (o + off) cs (fun j hj => let ⟨v, h1, h2, _⟩ := hc j (by omega); ⟨v, h1, h2⟩)
   rw [hl] at this
   rw [this]; rfl
  ·rename_i ha
   split at h
   ·rename_i hoff
    refine ⟨_, h, fun L w b o hread => ?_⟩
    obtain ⟨cs, hl, hc⟩ := hread 1 (by omega)
    obtain ⟨v, h1, h2, h3⟩ := hc 0 (by omega)
    refine ⟨v, ?_, h3⟩
    unfold loadVar
    rw [Sem.run_bind, run_isAgg hd, Result.andThen_ok]
    simp only [ha]
    rw [Nat.add_zero] at h2
    simp [run_load, h2]
   ·cases h
 ·cases h
def idx : SV → Option Int
 | .i _ n => some n
 | .u8 x => some (x.toNat : Int)
 | .u16 x => some (x.toNat : Int)
 | .u32 x => some (x.toNat : Int)
 | .u64 x => some (x.toNat : Int)
 | _ => none
theorem idx_ok {s : SV} {n : Int} (h : idx s = some n) : ∀ L v, rep L s v → ∃ k, v = .int k n := by
 intro L v hv
 cases s <;> simp only [idx, reduceCtorEq, Option.some.injEq] at h <;> subst h <;> simp only [rep] at hv <;> exact ⟨_, hv⟩
theorem lit_add (b o n : Nat) : Addr.add ⟨b, o, none⟩ n = ⟨b, o + n, none⟩ := Addr.add_lit b o n
def zeroT (P : Program) (t : TypeId) : Option Value := (P.info? t).bind (·.zero)
theorem run_zeroT {P : Program} {t : TypeId} {z : Value} (h : zeroT P t = some z) (w : World) : (zeroValue t).run P w = .ok z w := by
 unfold zeroT at h
 cases hi : P.info? t with
 | none => rw [hi] at h; cases h
 | some i =>
  rw [hi] at h
  simp only [Option.bind_some] at h
  simp [zeroValue, run_typeInfo (w := w) hi, h]
end Go.Ev
namespace Go.Ev
open Go.RowKit
variable {α : Type}
abbrev OpK (α : Type) := SV → Option SV → Option α
def operandSV (tmps : List SV) : Operand → SV
 | .tmp t => tmps.getD t .any
 | .const v => ofValue v
 | .global g => .gl g
 | .func f => .clo f []
theorem operand_rep {L : List (Option Loc)} {tmps : List SV} {a : Act} (h : reps L tmps a.tmps.toList) (x : Operand) : rep L (operandSV tmps x) (a.eval x) := by
 cases x with
 | tmp t =>
  simp only [operandSV, Act.eval]
  rcases Nat.lt_or_ge t tmps.length with ht | ht
  ·obtain ⟨v, h1, h2⟩ := reps_get h t ht
   have : a.tmps.getD t undef = v := by
    rw [Array.getElem?_toList] at h1
    simp [Array.getD_eq_getD_getElem?, h1]
   rw [this]; exact h2
  ·rw [List.getD_eq_getElem?_getD, List.getElem?_eq_none ht]
   simp [rep]
 | const v => simp only [operandSV, Act.eval]; exact rep_ofValue L v
 | global g => simp only [operandSV, Act.eval, rep]
 | func f => simp only [operandSV, Act.eval, rep]; exact ⟨[], rfl, by simp [reps]⟩
def globOf : List (Nat × SV) → Nat → Option SV
 | [], _ => none
 | (g, c) :: l, n => if g = n then some c else globOf l n
theorem globOf_mem {G : List (Nat × SV)} {n : Nat} {c : SV} (h : globOf G n = some c) : (n, c) ∈ G := by
 induction G with
 | nil => cases h
 | cons x l ih =>
  obtain ⟨g, d⟩ := x
  simp only [globOf] at h
  split at h
  ·rename_i e; subst e; cases h; exact List.mem_cons_self
  ·exact List.mem_cons_of_mem _ (ih h)
def evLoad (P : Program) (G : List (Nat × SV)) (rows : Rows) (t : TypeId) (x : SV) (K : OpK α) : Option α :=
 match x with
 | .ptr r off => match rows[r]? with
  | some (some row) => loadK P t row.con off (fun s => K s none)
  | _ => none
 | .gl g => match globOf G g with
  | some c => loadK P t c 0 (fun s => K s none)
  | none => none
 | .c (.pointer (some ⟨g, off, none⟩)) => match globOf G g with
  | some c => loadK P t c off (fun s => K s none)
  | none => none
 | _ => none
section
variable {P : Program} {G : List (Nat × SV)} {ρ : Operand → SV} {rows : Rows} {k : Nat}
theorem evLoad_ok {t : TypeId} {x : Operand} {K : OpK α} {r : α} (h : evLoad P G rows t (ρ x) K = some r) : ∃ s row, K s row = some r ∧ QGo P G ρ rows k (.load t x) s row := by
 unfold evLoad at h
 split at h
 ·rename_i n off hx
  split at h
  ·rename_i row hrow
   obtain ⟨s, hs, hgo⟩ := loadK_ok h
   refine ⟨s, none, hs, QGo.val fun w0 o ho L a w rows' hρ hw hsub hG => ?_⟩
   have hr := hρ x (by simp [Op.operands])
   rw [hx] at hr
   simp only [rep] at hr
   obtain ⟨l, hl, hv⟩ := hr
   obtain ⟨v, h1, h2⟩ := hgo L w l.blk l.base (fun m hm => (hw.row n row l (hsub n row l hrow hl) hl).read off m hm)
   refine ⟨v, w, ?_, h2, Below.refl _ _⟩
   simp only [execOp, ho, hv, Instr.loadAt, Instr.sureAddr]
   simp [h1]
  ·cases h
 ·rename_i g hx
  split at h
  ·rename_i c hc
   obtain ⟨s, hs, hgo⟩ := loadK_ok h
   refine ⟨s, none, hs, QGo.val fun w0 o ho L a w rows' hρ hw hsub hG => ?_⟩
   have hr := hρ x (by simp [Op.operands])
   rw [hx] at hr
   simp only [rep] at hr
   obtain ⟨hg, hcell⟩ := hG g c (globOf_mem hc)
   have read : ∀ n, 0 + n ≤ c.len → ∃ cs : List Value, cs.length = n ∧ ∀ j, j < n → ∃ v, cs[j]? = some v ∧ w.cell? ⟨g, 0 + 0 + j, none⟩ = some v ∧ rep L (c.cell (0 + j)) v := by
    intro n
    induction n with
    | zero => intro _; exact ⟨[], rfl, fun j hj => by cases hj⟩
    | succ n ih =>
     intro hn
     obtain ⟨cs, h1, h2⟩ := ih (by omega)
     obtain ⟨v, h3, h4⟩ := hcell n (by omega)
     have h3' : w.cell? ⟨g, n, none⟩ = some v := by rw [hw.below.cell (p := ⟨g, n, none⟩) hg]; exact h3
     refine ⟨cs ++ [v], by simp [h1], fun j hj => ?_⟩
     rcases Nat.lt_or_ge j n with hlt | hge
     ·obtain ⟨u, h5, h6, h7⟩ := h2 j hlt
      exact ⟨u, by rw [List.getElem?_append_left (by omega)]; exact h5, h6, h7⟩
     ·have : j = n := by omega
      subst this
      exact ⟨v, by rw [List.getElem?_append_right (by omega)]; simp [h1], by simpa using h3', by simpa using rep_mono (L := []) (fun r p hp => by simp [lo] at hp) h4⟩
   obtain ⟨v, h1, h2⟩ := hgo L w g 0 read
   refine ⟨v, w, ?_, h2, Below.refl _ _⟩
   simp only [execOp, ho, hr, Instr.loadAt, Instr.sureAddr]
   simp [h1]
  ·cases h
 ·rename_i g off hx
  split at h
  ·rename_i c hc
   obtain ⟨s, hs, hgo⟩ := loadK_ok h
   refine ⟨s, none, hs, QGo.val fun w0 o ho L a w rows' hρ hw hsub hG => ?_⟩
   have hr := hρ x (by simp [Op.operands])
   rw [hx] at hr
   simp only [rep] at hr
   obtain ⟨hg, hcell⟩ := hG g c (globOf_mem hc)
   have read : ∀ n, off + n ≤ c.len → ∃ cs : List Value, cs.length = n ∧ ∀ j, j < n → ∃ v, cs[j]? = some v ∧ w.cell? ⟨g, 0 + off + j, none⟩ = some v ∧ rep L (c.cell (off + j)) v := by
    intro n
    induction n with
    | zero => intro _; exact ⟨[], rfl, fun j hj => by cases hj⟩
    | succ n ih =>
     intro hn
     obtain ⟨cs, h1, h2⟩ := ih (by omega)
     obtain ⟨v, h3, h4⟩ := hcell (off + n) (by omega)
     have h3' : w.cell? ⟨g, 0 + off + n, none⟩ = some v := by rw [Nat.zero_add, hw.below.cell (p := ⟨g, off + n, none⟩) hg]; exact h3
     refine ⟨cs ++ [v], by simp [h1], fun j hj => ?_⟩
     rcases Nat.lt_or_ge j n with hlt | hge
     ·obtain ⟨u, h5, h6, h7⟩ := h2 j hlt
      exact ⟨u, by rw [List.getElem?_append_left (by omega)]; exact h5, h6, h7⟩
     ·have : j = n := by omega
      subst this
      exact ⟨v, by rw [List.getElem?_append_right (by omega)]; simp [h1], by simpa using h3', by simpa using rep_mono (L := []) (fun r p hp => by simp [lo] at hp) h4⟩
   obtain ⟨v, h1, h2⟩ := hgo L w g 0 read
   refine ⟨v, w, ?_, h2, Below.refl _ _⟩
   rw [Nat.zero_add] at h1
   simp only [execOp, ho, hr, Instr.loadAt, Instr.sureAddr]
   simp [h1]
  ·cases h
 ·cases h
def evField (P : Program) (t : TypeId) (x : SV) (f : Nat) (K : OpK α) : Option α :=
 match x, P.underlying t with
 | .agg l, some (.struct fs) => match fs[f]? with
  | some fd => loadK P fd.type (.agg l) fd.offset (fun s => K s none)
  | none => none
 | _, _ => none
theorem evField_ok {t : TypeId} {x : Operand} {f : Nat} {K : OpK α} {r : α} (h : evField P t (ρ x) f K = some r) : ∃ s row, K s row = some r ∧ QGo P G ρ rows k (.field t x f) s row := by
 unfold evField at h
 split at h
 ·rename_i l fs hx hfs
  split at h
  ·rename_i fd hfd
   unfold loadK at h
   split at h
   ·rename_i d n hd hn
    split at h
    ·rename_i ha
     obtain ⟨s, hs, hle, hrep⟩ := partK_ok h
     refine ⟨s, none, hs, QGo.val fun w0 o ho L a w rows' hρ hw hsub hG => ?_⟩
     have hr := hρ x (by simp [Op.operands])
     rw [hx] at hr
     simp only [rep] at hr
     obtain ⟨cs, hv, hcs⟩ := hr
     have hlen : cs.length = l.length := reps_length hcs
     simp only [SV.len] at hle
     refine ⟨.agg ⟨(cs.drop fd.offset).take n⟩, w, ?_, hrep L _ (by simp; omega) fun j hj => ?_, Below.refl _ _⟩
     ·simp only [execOp, ho, hv]
      unfold Instr.field
      simp only [Sem.run_bind, run_underlying hfs, Result.andThen_ok, hfd, asAgg, Sem.run_pure]
      unfold part
      simp only [Sem.run_bind, run_isAgg hd, Result.andThen_ok, ha, if_true, run_sizeT hn, Sem.run_pure]
      simp
     ·obtain ⟨v, h1, h2⟩ := reps_get hcs (fd.offset + j) (by omega)
      exact ⟨v, by simp [hj, List.getElem?_drop, h1], h2⟩
    ·rename_i ha
     split at h
     ·rename_i hoff
      refine ⟨_, none, h, QGo.val fun w0 o ho L a w rows' hρ hw hsub hG => ?_⟩
      have hr := hρ x (by simp [Op.operands])
      rw [hx] at hr
      simp only [rep] at hr
      obtain ⟨cs, hv, hcs⟩ := hr
      obtain ⟨v, h1, h2⟩ := reps_get hcs fd.offset hoff
      refine ⟨v, w, ?_, h2, Below.refl _ _⟩
      simp only [execOp, ho, hv]
      unfold Instr.field
      simp only [Sem.run_bind, run_underlying hfs, Result.andThen_ok, hfd, asAgg, Sem.run_pure]
      unfold part
      simp only [Sem.run_bind, run_isAgg hd, Result.andThen_ok, ha, Bool.false_eq_true, if_false]
      have : (⟨cs⟩ : Array Value)[fd.offset]? = some v := by simpa using h1
      rw [this]
      rfl
     ·cases h
   ·cases h
  ·cases h
 ·cases h
def evFieldAddr (P : Program) (t : TypeId) (x : SV) (f : Nat) (K : OpK α) : Option α :=
 match x, P.underlying t with
 | .ptr r off, some (.struct fs) => match fs[f]? with
  | some fd => match sizeT P fd.type with
   | some n => if n = 0 then none else K (.ptr r (off + fd.offset)) none
   | none => none
  | none => none
 | _, _ => none
theorem evFieldAddr_ok {t : TypeId} {x : Operand} {f : Nat} {K : OpK α} {r : α} (h : evFieldAddr P t (ρ x) f K = some r) : ∃ s row, K s row = some r ∧ QGo P G ρ rows k (.fieldAddr t x f) s row := by
 unfold evFieldAddr at h
 split at h
 ·rename_i n off fs hx hfs
  split at h
  ·rename_i fd hfd
   split at h
   ·rename_i sz hsz
    split at h
    ·cases h
    ·rename_i h0
     refine ⟨_, none, h, QGo.val fun w0 o ho L a w rows' hρ hw hsub hG => ?_⟩
     have hr := hρ x (by simp [Op.operands])
     rw [hx] at hr
     simp only [rep] at hr
     obtain ⟨l, hl, hv⟩ := hr
     refine ⟨.pointer (some ⟨l.blk, l.base + (off + fd.offset), none⟩), w, ?_, by simp only [rep]; exact ⟨l, hl, rfl⟩, Below.refl _ _⟩
     simp only [execOp, ho, hv]
     unfold Instr.fieldAt
     simp only [Sem.run_bind, run_underlying hfs, Result.andThen_ok, hfd, Instr.sureAddr, Sem.run_pure]
     unfold fieldPlace
     simp only [Sem.run_bind, run_sizeT hsz, Result.andThen_ok, h0, if_false, Sem.run_pure, lit_add, Nat.add_assoc]
   ·cases h
  ·cases h
 ·cases h
def evIndexAddr (P : Program) (t : TypeId) (x i : SV) (K : OpK α) : Option α :=
 match x, P.underlying t, idx i with
 | .ptr r off, some (.array len e), some n => match sizeT P e with
  | some z => if 0 ≤ n ∧ n < (len : Int) then K (.ptr r (off + n.toNat * z)) none else none
  | none => none
 | .gl g, some (.array len e), some n => match sizeT P e with
  | some z => if 0 ≤ n ∧ n < (len : Int) then K (.c (.pointer (some ⟨g, n.toNat * z, none⟩))) none else none
  | none => none
 | .sl r off len, some (.slice e), some n => match sizeT P e with
  | some z => if 0 ≤ n ∧ n < (len : Int) then K (.ptr r (off + n.toNat * z)) none else none
  | none => none
 | .slm _ r off len, some (.slice e), some n => match sizeT P e with
  | some z => if 0 ≤ n ∧ n < (len : Int) then K (.ptr r (off + n.toNat * z)) none else none
  | none => none
 | _, _, _ => none
theorem evIndexAddr_ok {t : TypeId} {x i : Operand} {K : OpK α} {r : α} (h : evIndexAddr P t (ρ x) (ρ i) K = some r) : ∃ s row, K s row = some r ∧ QGo P G ρ rows k (.indexAddr t x i) s row := by
 unfold evIndexAddr at h
 split at h
 ·rename_i n off len e m hx ht hi
  split at h
  ·rename_i z hz
   split at h
   ·rename_i hb
    refine ⟨_, none, h, QGo.val fun w0 o ho L a w rows' hρ hw hsub hG => ?_⟩
    have hr := hρ x (by simp [Op.operands])
    have hri := hρ i (by simp [Op.operands])
    obtain ⟨ki, hvi⟩ := idx_ok hi L _ hri
    rw [hx] at hr
    simp only [rep] at hr
    obtain ⟨l, hl, hv⟩ := hr
    refine ⟨.pointer (some ⟨l.blk, l.base + (off + m.toNat * z), none⟩), w, ?_, by simp only [rep]; exact ⟨l, hl, rfl⟩, Below.refl _ _⟩
    simp only [execOp, ho, hv, hvi]
    unfold Instr.indexAt
    simp only [Sem.run_bind, asIntOf, Sem.run_pure, run_underlying ht, Result.andThen_ok, Instr.sureAddr, hb, and_self, if_true, run_sizeT hz, lit_add, Nat.add_assoc]
   ·cases h
  ·cases h
 ·rename_i g len e m hx ht hi
  split at h
  ·rename_i z hz
   split at h
   ·rename_i hb
    refine ⟨_, none, h, QGo.val fun w0 o ho L a w rows' hρ hw hsub hG => ?_⟩
    have hr := hρ x (by simp [Op.operands])
    have hri := hρ i (by simp [Op.operands])
    obtain ⟨ki, hvi⟩ := idx_ok hi L _ hri
    rw [hx] at hr
    simp only [rep] at hr
    refine ⟨.pointer (some ⟨g, m.toNat * z, none⟩), w, ?_, by simp only [rep], Below.refl _ _⟩
    simp only [execOp, ho, hr, hvi]
    unfold Instr.indexAt
    simp only [Sem.run_bind, asIntOf, Sem.run_pure, run_underlying ht, Result.andThen_ok, Instr.sureAddr, hb, and_self, if_true, run_sizeT hz, lit_add, Nat.zero_add]
   ·cases h
  ·cases h
 ·rename_i n off len e m hx ht hi
  split at h
  ·rename_i z hz
   split at h
   ·rename_i hb
    refine ⟨_, none, h, QGo.val fun w0 o ho L a w rows' hρ hw hsub hG => ?_⟩
    have hr := hρ x (by simp [Op.operands])
    have hri := hρ i (by simp [Op.operands])
    obtain ⟨ki, hvi⟩ := idx_ok hi L _ hri
    rw [hx] at hr
    simp only [rep] at hr
    obtain ⟨l, cap, hl, _, _, hv⟩ := hr
    refine ⟨.pointer (some ⟨l.blk, l.base + (off + m.toNat * z), none⟩), w, ?_, by simp only [rep]; exact ⟨l, hl, rfl⟩, Below.refl _ _⟩
    simp only [execOp, ho, hv, hvi]
    unfold Instr.indexAt
    simp only [Sem.run_bind, asIntOf, Sem.run_pure, run_underlying ht, Result.andThen_ok, hb, and_self, if_true, run_sizeT hz, lit_add, Nat.add_assoc]
   ·cases h
  ·cases h
 ·rename_i z0 n off len e m hx ht hi
  split at h
  ·rename_i z hz
   split at h
   ·rename_i hb
    refine ⟨_, none, h, QGo.val fun w0 o ho L a w rows' hρ hw hsub hG => ?_⟩
    have hr := hρ x (by simp [Op.operands])
    have hri := hρ i (by simp [Op.operands])
    obtain ⟨ki, hvi⟩ := idx_ok hi L _ hri
    rw [hx] at hr
    simp only [rep] at hr
    obtain ⟨l, cap, hl, _, _, hv⟩ := hr
    refine ⟨.pointer (some ⟨l.blk, l.base + (off + m.toNat * z), none⟩), w, ?_, by simp only [rep]; exact ⟨l, hl, rfl⟩, Below.refl _ _⟩
    simp only [execOp, ho, hv, hvi]
    unfold Instr.indexAt
    simp only [Sem.run_bind, asIntOf, Sem.run_pure, run_underlying ht, Result.andThen_ok, hb, and_self, if_true, run_sizeT hz, lit_add, Nat.add_assoc]
   ·cases h
  ·cases h
 ·cases h
def evIndex (P : Program) (t : TypeId) (x i : SV) (K : OpK α) : Option α :=
 match P.underlying t, idx i with
 | some (.array len e), some n => match P.underlying e, sizeT P e with
  | some d, some z => if isAggD d then none else if z = 1 then if 0 ≤ n ∧ n < (len : Int) then if n.toNat < x.len then K (x.cell n.toNat) none else none else none else none
  | _, _ => none
 | some .string, some n => match x with
  | .c (.string s) => if 0 ≤ n ∧ n.toNat < s.size then K (.u8 (s.data.getD n.toNat 0).toBitVec) none else none
  | _ => none
 | _, _ => none
theorem rep_arr {L : List (Option Loc)} {x : SV} {v : Value} (h : rep L x v) {n : Nat} (hn : n < x.len) : ∃ cs u, v = .agg ⟨cs⟩ ∧ cs[n]? = some u ∧ rep L (x.cell n) u := by
 cases x <;> simp only [SV.len, Nat.not_lt_zero] at hn
 case agg l =>
  simp only [rep] at h
  obtain ⟨cs, rfl, hr⟩ := h
  obtain ⟨u, h1, h2⟩ := reps_get hr n hn
  exact ⟨cs, u, rfl, h1, h2⟩
 case ai q l =>
  simp only [rep] at h
  subst h
  exact ⟨_, vi q (l.getD n 0), rfl, by simp [hn], by simp only [SV.cell, rep, vi]⟩
 case a8 l =>
  simp only [rep] at h
  subst h
  exact ⟨_, v8 (l.getD n 0), rfl, by simp [hn], by simp only [SV.cell, rep, v8]⟩
 case a64 l =>
  simp only [rep] at h
  subst h
  exact ⟨_, v64 (l.getD n 0), rfl, by simp [hn], by simp only [SV.cell, rep, v64]⟩
theorem evIndex_ok {t : TypeId} {x i : Operand} {K : OpK α} {r : α} (h : evIndex P t (ρ x) (ρ i) K = some r) : ∃ s row, K s row = some r ∧ QGo P G ρ rows k (.index t x i) s row := by
 unfold evIndex at h
 split at h
 ·rename_i len e n ht hi
  split at h
  ·rename_i d z hd hz
   split at h
   ·cases h
   ·rename_i ha
    split at h
    ·rename_i hz1
     subst hz1
     split at h
     ·rename_i hb
      split at h
      ·rename_i hlen
       refine ⟨_, none, h, QGo.val fun w0 o ho L a w rows' hρ hw hsub hG => ?_⟩
       have hr := hρ x (by simp [Op.operands])
       have hri := hρ i (by simp [Op.operands])
       obtain ⟨ki, hvi⟩ := idx_ok hi L _ hri
       obtain ⟨cs, u, hv, hu, hrep⟩ := rep_arr hr hlen
       refine ⟨u, w, ?_, hrep, Below.refl _ _⟩
       simp only [execOp, ho, hv, hvi]
       unfold Instr.index
       simp only [Sem.run_bind, asIntOf, Sem.run_pure, run_underlying ht, Result.andThen_ok, hb, and_self, if_true, run_sizeT hz, Nat.mul_one]
       unfold part
       simp only [Sem.run_bind, run_isAgg hd, Result.andThen_ok, ha, Bool.false_eq_true, if_false]
       have : (⟨cs⟩ : Array Value)[n.toNat]? = some u := by simpa using hu
       rw [this]; rfl
      ·cases h
     ·cases h
    ·cases h
  ·cases h
 ·rename_i n ht hi
  split at h
  ·rename_i s hx
   split at h
   ·rename_i h0
    refine ⟨_, none, h, QGo.val fun w0 o ho L a w rows' hρ hw hsub hG => ?_⟩
    have hr := hρ x (by simp [Op.operands])
    have hri := hρ i (by simp [Op.operands])
    obtain ⟨ki, hvi⟩ := idx_ok hi L _ hri
    rw [hx] at hr
    simp only [rep] at hr
    have hb : s[n.toNat]? = some (s.data.getD n.toNat 0) := by
     have h1 : n.toNat < s.data.size := h0.2
     have e : s.data.getD n.toNat 0 = s.data[n.toNat]'h1 := by rw [Array.getD_eq_getD_getElem?, Array.getElem?_eq_getElem h1]; rfl
     rw [getElem?_pos s n.toNat h0.2, e]
     rfl
    refine ⟨.int .u8 ((s.data.getD n.toNat 0).toNat : Int), w, ?_, by simp only [rep]; rfl, Below.refl _ _⟩
    simp only [execOp, ho, hr, hvi]
    unfold Instr.index
    simp only [Sem.run_bind, asIntOf, Sem.run_pure, run_underlying ht, Result.andThen_ok, h0.1, if_true, hb]
   ·cases h
  ·cases h
 ·cases h
end
end Go.Ev
namespace Go.Ev
open Go.RowKit
variable {α : Type}
def eqS (d : TypeDesc) (x y : SV) : Option Bool :=
 match d, x, y with
 | .bool, .bool a, .bool b => some (a == b)
 | .int _, .i k a, .i k' b => if k = k' then some (a == b) else none
 | .int _, .u8 a, .u8 b => some (a == b)
 | .int _, .u16 a, .u16 b => some (a == b)
 | .int _, .u32 a, .u32 b => some (a == b)
 | .int _, .u64 a, .u64 b => some (a == b)
 | _, _, _ => none
def eqFs (P : Program) (l m : List SV) : List Field → Option Bool
 | [] => some true
 | f :: fs =>
  if f.name = "_" then none else if l.length ≤ f.offset ∨ m.length ≤ f.offset then none else
  match P.underlying f.type with
  | some d => match eqS d (l.getD f.offset .any) (m.getD f.offset .any) with
   | some b => match fs with
    | [] => some b
    | _ :: _ => match eqFs P l m fs with | some c => some (b && c) | none => none
   | none => none
  | none => none
def eqT (P : Program) (t : TypeId) (x y : SV) : Option Bool :=
 if P.eqGuardType P.depth t || P.stoodInHeld t then none else
 match P.underlying t, x, y with
 | some (.struct fs), .agg l, .agg m => eqFs P l m fs.toList
 | _, _, _ => none
def eqArr (P : Program) (t : TypeId) (x y : SV) : Option (Nat × Bool × Nat × Nat) :=
 if P.eqGuardType P.depth t then none else
 match P.underlying t with
 | some (.array n e) => match P.underlying e, sizeT P e, x, y with
  | some (.int .u8), some 1, .a8 l, .a8 m => some (n, (l == m), l.length, m.length)
  | some (.int .u64), some 1, .a64 l, .a64 m => some (n, (l == m), l.length, m.length)
  | _, _, _, _ => none
 | _ => none
def evBin (P : Program) (op : BinOp) (t : TypeId) (x y : SV) (K : OpK α) : Option α :=
 match x, y with
 | .agg _, .agg _ => match op, eqT P t x y with
  | .eql, some b => K (.bool b) none
  | .neq, some b => K (.bool (!b)) none
  | _, _ => none
 | .a8 _, .a8 _ => match op, eqArr P t x y with
  | .eql, some (n, b, i, j) => if i = n ∧ j = n then K (.bool b) none else none
  | .neq, some (n, b, i, j) => if i = n ∧ j = n then K (.bool (!b)) none else none
  | _, _ => none
 | .a64 _, .a64 _ => match op, eqArr P t x y with
  | .eql, some (n, b, i, j) => if i = n ∧ j = n then K (.bool b) none else none
  | .neq, some (n, b, i, j) => if i = n ∧ j = n then K (.bool (!b)) none else none
  | _, _ => none
 | .bool a, .bool b => match op, P.underlying t with
  | .eql, some .bool => K (.bool (a == b)) none
  | .neq, some .bool => K (.bool (!(a == b))) none
  | _, _ => none
 | .c (.string a), .c (.string b) => match op with
  | .eql => K (.bool (a.data.toList == b.data.toList)) none
  | .neq => K (.bool (!(a.data.toList == b.data.toList))) none
  | .add => if a.data.toList.length + b.data.toList.length ≤ 1048576 then K (.c (.string ⟨⟨a.data.toList ++ b.data.toList⟩⟩)) none else none
  | _ => none
 | _, _ => binSV op x y (fun s => K s none)
section
variable {P : Program} {G : List (Nat × SV)} {ρ : Operand → SV} {rows : Rows} {k : Nat}
theorem eqS_ok {dt : TypeDesc} {x y : SV} {b : Bool} (h : eqS dt x y = some b) (d : Nat) (t : TypeId) (ht : P.underlying t = some dt) : isAggD dt = false ∧ ∀ (L : List (Option Loc)) (w : World) (vx vy : Value), rep L x vx → rep L y vy →
  (Op.equalIn (d + 1) t vx vy).run P w = .ok b w := by
 unfold eqS at h
 split at h <;> (try simp only [reduceCtorEq, Option.some.injEq] at h)
 ·refine ⟨rfl, fun L w vx vy hx hy => ?_⟩
  simp only [rep] at hx hy
  subst hx; subst hy; subst h
  exact run_equalIn_bool' w d t _ _ ht
 ·split at h
  ·rename_i e; subst e
   simp only [Option.some.injEq] at h
   refine ⟨rfl, fun L w vx vy hx hy => ?_⟩
   simp only [rep] at hx hy
   subst hx; subst hy; subst h
   exact run_equalIn_int w d t _ _ _ _ ht
  ·cases h
 all_goals
  refine ⟨rfl, fun L w vx vy hx hy => ?_⟩
  simp only [rep] at hx hy
  subst hx; subst hy; subst h
  rw [bv_beq]
  exact run_equalIn_int w d t _ _ _ _ ht
theorem eqFs_ok {l m : List SV} : ∀ {fs : List Field} {b : Bool}, eqFs P l m fs = some b → ∀ (d : Nat) (L : List (Option Loc)) (w : World) (cs ds : List Value), reps L l cs → reps L m ds →
  (Op.eqFields (d + 1) ⟨cs⟩ ⟨ds⟩ fs).run P w = .ok b w
 | [], b, h, d, L, w, cs, ds, hc, hd => by simp only [eqFs, Option.some.injEq] at h; subst h; simp [Op.eqFields]
 | f :: fs, b, h, d, L, w, cs, ds, hc, hd => by
  rw [eqFs] at h
  split at h
  ·cases h
  ·rename_i hname
   split at h
   ·cases h
   ·rename_i hoff
    split at h
    ·rename_i dt hdt
     split at h
     ·rename_i b1 hb1
      obtain ⟨ha, heq⟩ := eqS_ok hb1 d f.type hdt
      obtain ⟨u, h1, h2⟩ := reps_get hc f.offset (by omega)
      obtain ⟨v, h3, h4⟩ := reps_get hd f.offset (by omega)
      have e1 : (part f.type ⟨cs⟩ f.offset).run P w = .ok u w := by
       unfold part
       rw [Sem.run_bind, run_isAgg hdt, Result.andThen_ok, ha]
       have : (⟨cs⟩ : Array Value)[f.offset]? = some u := by simpa using h1
       simp only [Bool.false_eq_true, if_false, this]; rfl
      have e2 : (part f.type ⟨ds⟩ f.offset).run P w = .ok v w := by
       unfold part
       rw [Sem.run_bind, run_isAgg hdt, Result.andThen_ok, ha]
       have : (⟨ds⟩ : Array Value)[f.offset]? = some v := by simpa using h3
       simp only [Bool.false_eq_true, if_false, this]; rfl
      have hn : (f.name ≠ "_") = True := eq_true hname
      rw [Op.eqFields]
      simp only [hn, if_true, Sem.run_bind, e1, e2, Result.andThen_ok, heq L w u v h2 h4]
      split at h
      ·simp only [Option.some.injEq] at h; subst h
       cases b1 <;> simp [Op.eqFields]
      ·split at h
       ·rename_i c hc'
        simp only [Option.some.injEq] at h; subst h
        have ih := eqFs_ok hc' d L w cs ds hc hd
        cases b1
        ·simp
        ·simpa using ih
       ·cases h
     ·cases h
    ·cases h
theorem eqT_ok {t : TypeId} {x y : SV} {b : Bool} (h : eqT P t x y = some b) (L : List (Option Loc)) (w : World) (vx vy : Value) (hx : rep L x vx) (hy : rep L y vy) (ox oy : Operand) :
  (do eqGuard .eql t ox oy vx vy; binOp .eql t vx vy : Sem Value).run P w = .ok (.bool b) w ∧ (do eqGuard .neq t ox oy vx vy; binOp .neq t vx vy : Sem Value).run P w = .ok (.bool (!b)) w := by
 unfold eqT at h
 split at h
 ·cases h
 ·rename_i hg
  simp only [Bool.or_eq_true, not_or, Bool.not_eq_true] at hg
  split at h
  ·rename_i fs l m ht
   simp only [rep] at hx hy
   obtain ⟨cs, rfl, hc⟩ := hx
   obtain ⟨ds, rfl, hd⟩ := hy
   have hf : P.fieldsOf t = fs := by simp [Program.fieldsOf, ht]
   have hrun : (Op.equalIn 10000 t (.agg ⟨cs⟩) (.agg ⟨ds⟩)).run P w = .ok b w := by
    rw [run_equalIn_struct w 9999 t _ _ (by rw [hf]; exact ht) hg.2, hf]
    exact eqFs_ok h 9998 L w cs ds hc hd
   constructor
   ·rw [Sem.run_bind, run_eqGuard_agg w .eql t ox oy _ _ hg.1, Result.andThen_ok, run_eql_struct, hrun, Result.andThen_ok]
   ·rw [Sem.run_bind, run_eqGuard_agg w .neq t ox oy _ _ hg.1, Result.andThen_ok, run_neq_struct, hrun, Result.andThen_ok]
  ·cases h
theorem run_eq_arr {q k : IntKind} {t e : TypeId} {n : Nat} (d : Nat) (ht : P.underlying t = some (.array n e)) (he : P.underlying e = some (.int q)) (hz : sizeT P e = some 1) (w : World) (xs ys : List Int) (hx : xs.length = n) (hy : ys.length = n) :
  (Op.equalIn (d + 2) t (.agg ⟨xs.map (vi k)⟩) (.agg ⟨ys.map (vi k)⟩)).run P w = .ok (xs == ys) w := by
 have parts : ∀ (zs : List Int) (j : Nat), j < zs.length → ∀ w, (part e ⟨zs.map (vi k)⟩ (j * 1)).run P w = .ok (.int k (zs.getD j 0)) w := by
  intro zs j hj w
  unfold part
  rw [Sem.run_bind, run_isAgg he, Result.andThen_ok]
  have : (⟨zs.map (vi k)⟩ : Array Value)[j * 1]? = some (.int k (zs.getD j 0)) := by simp [hj, vi]
  simp only [isAggD, Bool.false_eq_true, if_false, this]; rfl
 rw [Op.equalIn, Sem.run_bind, run_underlying ht, Result.andThen_ok]
 simp only [Sem.run_bind, run_sizeT hz, Result.andThen_ok, Std.Legacy.Range.forIn_eq_forIn_range', Std.Legacy.Range.size, Nat.sub_zero, Nat.add_sub_cancel, Nat.div_one]
 have dropc : ∀ (zs : List Int) (o : Nat), o < zs.length → zs.drop o = zs.getD o 0 :: zs.drop (o + 1) := by
  intro zs o ho
  rw [List.drop_eq_getElem_cons ho]; simp [List.getD_eq_getElem?_getD, ho]
 have loop : ∀ (m o : Nat), o + m = n → ∀ w, (forIn (List.range' o m) ((none, ()) : Option Bool × Unit) fun i __s => do
           let __do_lift ← part e { toList := List.map (vi k) xs } (i * 1)
           let __do_lift_1 ← part e { toList := List.map (vi k) ys } (i * 1)
           let __do_lift ← Op.equalIn (d + 1) e __do_lift __do_lift_1
           if (!__do_lift) = true then pure (ForInStep.done (some false, ())) else pure (ForInStep.yield (none, ())) : Sem (Option Bool × Unit)).run P w = .ok (if xs.drop o == ys.drop o then (none, ()) else (some false, ())) w := by
  intro m
  induction m with
  | zero =>
   intro o ho w
   have h1 : xs.drop o = [] := List.drop_eq_nil_of_le (by omega)
   have h2 : ys.drop o = [] := List.drop_eq_nil_of_le (by omega)
   simp [h1, h2]
  | succ m ih =>
   intro o ho w
   rw [List.range'_succ, List.forIn_cons]
   simp only [Sem.run_bind, parts xs o (by omega), parts ys o (by omega), Result.andThen_ok, run_equalIn_int w d e k q _ _ he]
   rw [dropc xs o (by omega), dropc ys o (by omega)]
   by_cases hc : xs.getD o 0 = ys.getD o 0
   ·rw [hc]
    simp only [beq_self_eq_true, Bool.not_true, Bool.false_eq_true, if_false, Sem.run_pure, Result.andThen_ok, List.cons_beq_cons, Bool.true_and]
    exact ih (o + 1) (by omega) w
   ·have hb : (xs.getD o 0 == ys.getD o 0) = false := beq_eq_false_iff_ne.2 hc
    simp only [hb, Bool.not_false, if_true, Sem.run_pure, Result.andThen_ok, List.cons_beq_cons, Bool.false_and, Bool.false_eq_true, if_false]
 rw [loop n 0 (by omega) w]
 simp only [List.drop_zero, Result.andThen_ok]
 cases h : xs == ys <;> simp
theorem map_inj_beq {w : Nat} (l m : List (BitVec w)) : ((l.map fun x => (x.toNat : Int)) == (m.map fun x => (x.toNat : Int))) = (l == m) := by
 rw [Bool.eq_iff_iff]
 simp only [beq_iff_eq]
 constructor
 ·intro h
  refine List.map_inj_right ?_ |>.1 h
  intro a b e
  exact BitVec.eq_of_toNat_eq (by omega)
 ·rintro rfl; rfl
theorem eqArr_ok {t : TypeId} {x y : SV} {n : Nat} {b : Bool} {i j : Nat} (h : eqArr P t x y = some (n, b, i, j)) (hi : i = n) (hj : j = n) (L : List (Option Loc)) (w : World) (vx vy : Value) (hx : rep L x vx) (hy : rep L y vy) (ox oy : Operand) :
  (do eqGuard .eql t ox oy vx vy; binOp .eql t vx vy : Sem Value).run P w = .ok (.bool b) w ∧ (do eqGuard .neq t ox oy vx vy; binOp .neq t vx vy : Sem Value).run P w = .ok (.bool (!b)) w := by
 unfold eqArr at h
 split at h
 ·cases h
 ·rename_i hg
  simp only [Bool.not_eq_true] at hg
  split at h
  ·rename_i m e ht
   have fin : ∀ xs ys : Array Value, (Op.equalIn 10000 t (.agg xs) (.agg ys)).run P w = .ok b w → vx = .agg xs → vy = .agg ys →
     (do eqGuard .eql t ox oy vx vy; binOp .eql t vx vy : Sem Value).run P w = .ok (.bool b) w ∧ (do eqGuard .neq t ox oy vx vy; binOp .neq t vx vy : Sem Value).run P w = .ok (.bool (!b)) w := by
    intro xs ys hrun e1 e2
    subst e1; subst e2
    constructor
    ·rw [Sem.run_bind, run_eqGuard_agg w .eql t ox oy _ _ hg, Result.andThen_ok, run_eql_struct, hrun, Result.andThen_ok]
    ·rw [Sem.run_bind, run_eqGuard_agg w .neq t ox oy _ _ hg, Result.andThen_ok, run_neq_struct, hrun, Result.andThen_ok]
   split at h
   ·rename_i l m' he hz
    simp only [Option.some.injEq, Prod.mk.injEq] at h
    obtain ⟨rfl, rfl, rfl, rfl⟩ := h
    simp only [rep] at hx hy
    have := run_eq_arr (k := .u8) 9998 ht he hz w (l.map fun x => (x.toNat : Int)) (m'.map fun x => (x.toNat : Int)) (by simpa using hi) (by simpa using hj)
    rw [map_inj_beq, List.map_map, List.map_map] at this
    exact fin _ _ this hx hy
   ·rename_i l m' he hz
    simp only [Option.some.injEq, Prod.mk.injEq] at h
    obtain ⟨rfl, rfl, rfl, rfl⟩ := h
    simp only [rep] at hx hy
    have := run_eq_arr (k := .u64) 9998 ht he hz w (l.map fun x => (x.toNat : Int)) (m'.map fun x => (x.toNat : Int)) (by simpa using hi) (by simpa using hj)
    rw [map_inj_beq, List.map_map, List.map_map] at this
    exact fin _ _ this hx hy
   ·cases h
  ·cases h
theorem text_cut (s : ByteArray) (i j : Nat) : s.extract i j = ⟨⟨(s.data.toList.drop i).take (j - i)⟩⟩ := by
 apply ByteArray.ext
 rw [ByteArray.data_extract]
 apply Array.ext'
 simp
theorem text_add (a b : ByteArray) : a ++ b = ⟨⟨a.data.toList ++ b.data.toList⟩⟩ := by
 apply ByteArray.ext
 rw [ByteArray.data_append]
 apply Array.ext'
 simp
theorem evBin_ok {op : BinOp} {t yt : TypeId} {x y : Operand} {K : OpK α} {r : α} (h : evBin P op t (ρ x) (ρ y) K = some r) : ∃ s row, K s row = some r ∧ QGo P G ρ rows k (.binOp op t x y yt) s row := by
 have go : ∀ s, (∀ (L : List (Option Loc)) (w : World) (vx vy : Value), rep L (ρ x) vx → rep L (ρ y) vy → ∃ v w', (do eqGuard op t x y vx vy; binOp op t vx vy : Sem Value).run P w = .ok v w' ∧ rep L s v ∧ Below w.heap.size w w') →
   QGo P G ρ rows k (.binOp op t x y yt) s none := by
  intro s hs
  refine QGo.val fun w0 o ho L a w rows' hρ hw hsub hG => ?_
  obtain ⟨v, w', h1, h2, h3⟩ := hs L w (a.eval x) (a.eval y) (hρ x (by simp [Op.operands])) (hρ y (by simp [Op.operands]))
  refine ⟨v, w', ?_, h2, h3⟩
  simp only [execOp, ho]
  rw [Sem.run_bind, h1]; rfl
 unfold evBin at h
 split at h
 ·rename_i l m hx hy
  split at h
  ·rename_i b hb
   exact ⟨_, _, h, go _ fun L w vx vy rx ry => ⟨_, w, (eqT_ok (by rw [hx, hy] at *; exact hb) L w vx vy (hx ▸ rx) (hy ▸ ry) x y).1, by simp only [rep], Below.refl _ _⟩⟩
  ·rename_i b hb
   exact ⟨_, _, h, go _ fun L w vx vy rx ry => ⟨_, w, (eqT_ok (by rw [hx, hy] at *; exact hb) L w vx vy (hx ▸ rx) (hy ▸ ry) x y).2, by simp only [rep], Below.refl _ _⟩⟩
  ·cases h
 ·rename_i l m hx hy
  split at h
  ·rename_i n b i j hb
   split at h
   ·rename_i hl
    exact ⟨_, _, h, go _ fun L w vx vy rx ry => ⟨_, w, (eqArr_ok hb hl.1 hl.2 L w vx vy (hx ▸ rx) (hy ▸ ry) x y).1, by simp only [rep], Below.refl _ _⟩⟩
   ·cases h
  ·rename_i n b i j hb
   split at h
   ·rename_i hl
    exact ⟨_, _, h, go _ fun L w vx vy rx ry => ⟨_, w, (eqArr_ok hb hl.1 hl.2 L w vx vy (hx ▸ rx) (hy ▸ ry) x y).2, by simp only [rep], Below.refl _ _⟩⟩
   ·cases h
  ·cases h
 ·rename_i l m hx hy
  split at h
  ·rename_i n b i j hb
   split at h
   ·rename_i hl
    exact ⟨_, _, h, go _ fun L w vx vy rx ry => ⟨_, w, (eqArr_ok hb hl.1 hl.2 L w vx vy (hx ▸ rx) (hy ▸ ry) x y).1, by simp only [rep], Below.refl _ _⟩⟩
   ·cases h
  ·rename_i n b i j hb
   split at h
   ·rename_i hl
    exact ⟨_, _, h, go _ fun L w vx vy rx ry => ⟨_, w, (eqArr_ok hb hl.1 hl.2 L w vx vy (hx ▸ rx) (hy ▸ ry) x y).2, by simp only [rep], Below.refl _ _⟩⟩
   ·cases h
  ·cases h
 ·rename_i p q hx hy
  have run : ∀ w, P.underlying t = some .bool → (Op.equal t (.bool p) (.bool q)).run P w = .ok (p == q) w := fun w ht => run_equalIn_bool' w 9999 t p q ht
  split at h
  ·rename_i ht
   refine ⟨_, _, h, go _ fun L w vx vy rx ry => ?_⟩
   rw [hx] at rx; rw [hy] at ry
   simp only [rep] at rx ry; subst rx; subst ry
   exact ⟨_, w, by rw [Sem.run_bind, eqGuard_at_bool, Sem.run_pure, Result.andThen_ok]; simp [binOp, run w ht]; rfl, by simp only [rep], Below.refl _ _⟩
  ·rename_i ht
   refine ⟨_, _, h, go _ fun L w vx vy rx ry => ?_⟩
   rw [hx] at rx; rw [hy] at ry
   simp only [rep] at rx ry; subst rx; subst ry
   exact ⟨_, w, by rw [Sem.run_bind, eqGuard_at_bool, Sem.run_pure, Result.andThen_ok]; simp [binOp, run w ht]; rfl, by simp only [rep], Below.refl _ _⟩
  ·cases h
 ·rename_i p q hx hy
  split at h
  ·refine ⟨_, _, h, go _ fun L w vx vy rx ry => ?_⟩
   rw [hx] at rx; rw [hy] at ry
   simp only [rep] at rx ry; subst rx; subst ry
   exact ⟨_, w, by rw [Sem.run_bind, eqGuard_at_string, Sem.run_pure, Result.andThen_ok]; simp only [binOp, Op.stringOp, ByteArray.toList_eq]; rfl, by simp only [rep], Below.refl _ _⟩
  ·refine ⟨_, _, h, go _ fun L w vx vy rx ry => ?_⟩
   rw [hx] at rx; rw [hy] at ry
   simp only [rep] at rx ry; subst rx; subst ry
   exact ⟨_, w, by rw [Sem.run_bind, eqGuard_at_string, Sem.run_pure, Result.andThen_ok]; simp only [binOp, Op.stringOp, ByteArray.toList_eq]; rfl, by simp only [rep], Below.refl _ _⟩
  ·split at h
   ·rename_i hlen
    refine ⟨_, _, h, go _ fun L w vx vy rx ry => ?_⟩
    rw [hx] at rx; rw [hy] at ry
    simp only [rep] at rx ry; subst rx; subst ry
    have hne : ¬ ((p.size + q.size : Nat) : Int) > IntKind.i64.max := by
     have e1 : p.size = p.data.toList.length := rfl
     have e2 : q.size = q.data.toList.length := rfl
     have e3 : IntKind.i64.max = 9223372036854775807 := by decide
     rw [e1, e2, e3]; omega
    refine ⟨.string (p ++ q), w, ?_, by simp only [rep, text_add], Below.refl _ _⟩
    rw [Sem.run_bind, eqGuard_at_string, Sem.run_pure, Result.andThen_ok]
    simp only [binOp, Op.stringOp, if_neg hne]
    rfl
   ·cases h
  ·cases h
 ·obtain ⟨s, hs, hg⟩ := binSV_ok h
  exact ⟨_, _, hs, go _ fun L w vx vy rx ry => hg P L w vx vy t x y rx ry⟩
end
end Go.Ev
namespace Go.Ev
open Go.RowKit
variable {α : Type}
def cellsL : SV → Option (List SV)
 | .agg l => some l
 | .any => none
 | .tup _ => none
 | .ai _ _ => none
 | .a8 _ => none
 | .a64 _ => none
 | .c (.agg _) => none
 | s => some [s]
def setAllS : List SV → Nat → List SV → List SV
 | l, _, [] => l
 | l, o, s :: t => setAllS (l.set o s) (o + 1) t
def setAllV : List Value → Nat → List Value → List Value
 | l, _, [] => l
 | l, o, s :: t => setAllV (l.set o s) (o + 1) t
theorem reps_setAll {L : List (Option Loc)} : ∀ {ss : List SV} {us : List Value} {l : List SV} {cs : List Value} (o : Nat), reps L l cs → reps L ss us → reps L (setAllS l o ss) (setAllV cs o us)
 | [], us, l, cs, o, h, hs => by simp only [reps] at hs; subst hs; simpa [setAllS, setAllV] using h
 | s :: ss, us, l, cs, o, h, hs => by
  simp only [reps] at hs
  obtain ⟨u, t, rfl, hu, hs⟩ := hs
  simp only [setAllS, setAllV]
  exact reps_setAll (o + 1) (reps_set o h hu) hs
theorem foldl_set (off : Nat) : ∀ (us : List Value) (i : Nat) (cells : Array Value), ((us.zipIdx i).foldl (fun (cs : Array Value) (p : Value × Nat) => cs.setIfInBounds (off + p.2) p.1) cells).toList = setAllV cells.toList (off + i) us
 | [], i, cells => by simp [setAllV]
 | u :: us, i, cells => by
  simp only [List.zipIdx_cons, List.foldl_cons, setAllV]
  rw [foldl_set off us (i + 1)]
  simp [Nat.add_assoc]
def fillS (place : Nat → Option (Nat × Nat)) : List SV → List (Nat × SV) → Option (List SV)
 | cells, [] => some cells
 | cells, (i, s) :: rest =>
  match place i, cellsL s with
  | some (off, size), some ss => if ss.length ≠ size ∨ cells.length < off + ss.length then none else fillS place (setAllS cells off ss) rest
  | _, _ => none
theorem cellsL_ok {L : List (Option Loc)} {s : SV} {ss : List SV} {v : Value} (h : cellsL s = some ss) (hv : rep L s v) : reps L ss v.cells.toList := by
 have one : ∀ u : Value, u.cells = #[u] → rep L s u → ss = [s] → reps L ss u.cells.toList := by
  intro u hu hr e
  rw [hu, e]
  simp only [reps]
  exact ⟨u, [], rfl, hr, rfl⟩
 cases s with
 | agg l =>
  simp only [cellsL, Option.some.injEq] at h; subst h
  simp only [rep] at hv
  obtain ⟨cs, rfl, hr⟩ := hv
  exact hr
 | any => cases h
 | tup l => cases h
 | ai k l => cases h
 | a8 l => cases h
 | a64 l => cases h
 | c u =>
  have hv' := hv
  simp only [rep] at hv; subst hv
  cases v with
  | agg cs => cases h
  | _ => simp only [cellsL, Option.some.injEq] at h; exact one _ rfl hv' h.symm
 | nan k => have hv' := hv; simp only [rep] at hv; obtain ⟨x, rfl, _⟩ := hv; simp only [cellsL, Option.some.injEq] at h; exact one _ rfl hv' h.symm
 | xi k p => have hv' := hv; simp only [rep] at hv; obtain ⟨x, rfl, _⟩ := hv; simp only [cellsL, Option.some.injEq] at h; exact one _ rfl hv' h.symm
 | xf k p => have hv' := hv; simp only [rep] at hv; obtain ⟨x, rfl, _⟩ := hv; simp only [cellsL, Option.some.injEq] at h; exact one _ rfl hv' h.symm
 | xs => have hv' := hv; simp only [rep] at hv; obtain ⟨_, _, _, rfl⟩ := hv; simp only [cellsL, Option.some.injEq] at h; exact one _ rfl hv' h.symm
 | sl r o n => have hv' := hv; simp only [rep] at hv; obtain ⟨_, x, _, _, _, rfl⟩ := hv; simp only [cellsL, Option.some.injEq] at h; exact one _ rfl hv' h.symm
 | slm z r o n => have hv' := hv; simp only [rep] at hv; obtain ⟨_, x, _, _, _, rfl⟩ := hv; simp only [cellsL, Option.some.injEq] at h; exact one _ rfl hv' h.symm
 | sit s p => simp only [rep] at hv
 | clo f l => have hv' := hv; simp only [rep] at hv; obtain ⟨x, rfl, _⟩ := hv; simp only [cellsL, Option.some.injEq] at h; exact one _ rfl hv' h.symm
 | ptr => have hv' := hv; simp only [rep] at hv; obtain ⟨_, _, rfl⟩ := hv; simp only [cellsL, Option.some.injEq] at h; exact one _ rfl hv' h.symm
 | bool | i | u8 | u16 | u32 | u64 | f | gl => have hv' := hv; simp only [rep] at hv; subst hv; simp only [cellsL, Option.some.injEq] at h; exact one _ rfl hv' h.symm
theorem fillS_ok {L : List (Option Loc)} {place : Nat → Option (Nat × Nat)} : ∀ {parts : List (Nat × SV)} {cells out : List SV} {pv : List (Nat × Value)} {cs : List Value}, fillS place cells parts = some out →
  reps L cells cs → pv.length = parts.length → (∀ j, j < parts.length → ∃ i s v, parts[j]? = some (i, s) ∧ pv[j]? = some (i, v) ∧ rep L s v) →
  ∃ os, Instr.fill place ⟨cs⟩ pv = some ⟨os⟩ ∧ reps L out os
 | [], cells, out, [], cs, h, hc, _, _ => by
  simp only [fillS, Option.some.injEq] at h; subst h
  exact ⟨cs, rfl, hc⟩
 | [], cells, out, p :: pv, cs, h, hc, hl, _ => by simp at hl
 | q :: parts, cells, out, [], cs, h, hc, hl, _ => by simp at hl
 | (i, s) :: parts, cells, out, p :: pv, cs, h, hc, hl, hp => by
  obtain ⟨i', s', v, h1, h2, h3⟩ := hp 0 (by simp)
  simp only [List.getElem?_cons_zero, Option.some.injEq, Prod.mk.injEq] at h1 h2
  obtain ⟨rfl, rfl⟩ := h1
  subst h2
  rw [fillS] at h
  split at h
  ·rename_i off size ss hpl hss
   split at h
   ·cases h
   ·rename_i hb
    have hcv := cellsL_ok hss h3
    have hvl : v.cells.size = ss.length := by have := reps_length hcv; simpa using this
    have hcl := reps_length hc
    obtain ⟨os, h4, h5⟩ := fillS_ok (pv := pv) (cs := setAllV cs off v.cells.toList) h (reps_setAll off hc hcv) (by simpa using hl) (fun j hj => by simpa using hp (j + 1) (by simpa using hj))
    refine ⟨os, ?_, h5⟩
    rw [Instr.fill]
    simp only [hpl]
    have hc1 : ¬ (v.cells.size ≠ size || decide (off + v.cells.size > (⟨cs⟩ : Array Value).size)) = true := by
     simp only [Bool.or_eq_true, decide_eq_true_eq, not_or]
     exact ⟨by omega, by simp only [List.size_toArray]; omega⟩
    rw [if_neg hc1, ← h4]
    congr 1
    apply Array.ext'
    rw [← Array.foldl_toList, Array.toList_zipIdx, foldl_set]
    simp
  ·cases h
def placesOf (P : Program) (t : TypeId) : Option (Nat → Option (Nat × Nat)) :=
 match P.info? t, P.underlying t with
 | some _, some (.array _ e) => match P.info? e with
  | some ie => some (fun i => some (i * ie.size, ie.size))
  | none => none
 | some _, some (.struct fields) =>
  match fields.toList.mapM (fun f => (P.info? f.type).map fun i => (f.offset, i.size)) with
  | some places => some (places.toArray[·]?)
  | none => none
 | _, _ => none
theorem placesOf_built {P : Program} {t : TypeId} {place : Nat → Option (Nat × Nat)} {z : Value} (h : placesOf P t = some place) (hz : zeroT P t = some z) (parts : List (Nat × Value)) : P.built t parts = Instr.fill place z.cells parts := by
 unfold placesOf at h
 unfold zeroT at hz
 unfold Program.built
 split at h
 ·rename_i it n e hi hu
  rw [hi] at hz
  simp only [Option.bind_some] at hz
  split at h
  ·rename_i ie hie
   simp only [Option.some.injEq] at h; subst h
   simp only [hi, hu, hz, hie]
  ·cases h
 ·rename_i it fields hi hu
  rw [hi] at hz
  simp only [Option.bind_some] at hz
  split at h
  ·rename_i places hp
   simp only [Option.some.injEq] at h; subst h
   simp only [hi, hu, hz, hp]
  ·cases h
 ·cases h
def partsSV (ρ : Operand → SV) : List (Nat × Operand) → List (Nat × SV)
 | [] => []
 | (i, x) :: l => (i, ρ x) :: partsSV ρ l
theorem partsSV_get {ρ : Operand → SV} : ∀ (l : List (Nat × Operand)) (j : Nat), j < l.length → ∃ i x, l[j]? = some (i, x) ∧ (partsSV ρ l)[j]? = some (i, ρ x)
 | [], j, hj => by cases hj
 | (i, x) :: l, 0, _ => ⟨i, x, rfl, rfl⟩
 | (i, x) :: l, j + 1, hj => by simpa [partsSV] using partsSV_get l j (by simpa using hj)
theorem partsSV_length {ρ : Operand → SV} : ∀ (l : List (Nat × Operand)), (partsSV ρ l).length = l.length
 | [] => rfl
 | (i, x) :: l => by simp [partsSV, partsSV_length l]
def evBuild (P : Program) (ρ : Operand → SV) (t : TypeId) (parts : List (Nat × Operand)) (K : OpK α) : Option α :=
 match placesOf P t, zeroT P t with
 | some place, some (.agg ⟨zs⟩) => match fillS place (ofScalars zs) (partsSV ρ parts) with
  | some out => K (norm out) none
  | none => none
 | _, _ => none
def normT (d : TypeDesc) (l : List SV) : SV :=
 match d with
 | .int .u64 => match all64 l with | some t => .a64 t | none => .agg l
 | .int .u8 => match all8 l with | some t => .a8 t | none => .agg l
 | .int k => match allI k l with | some t => .ai k t | none => .agg l
 | _ => .agg l
def evBuildSlice (P : Program) (ρ : Operand → SV) (t : TypeId) (len : Nat) (parts : List (Nat × Operand)) (k : Nat) (K : OpK α) : Option α :=
 match P.underlying t with
 | some (.slice e) => match P.underlying e, sizeT P e, zeroT P e with
  | some d, some size, some z =>
   if len * size > 4096 ∨ len * size = 0 then none else
   match fillS (fun i => some (i * size, size)) (ofScalars (((Array.range (len * size)).map (z.cells[· % z.cells.size]!)).toList)) (partsSV ρ parts) with
   | some out => if size = 1 then K (.sl k 0 len) (some (normT d out)) else K (.slm size k 0 len) (some (normT d out))
   | none => none
  | _, _, _ => none
 | _ => none
section
variable {P : Program} {G : List (Nat × SV)} {ρ : Operand → SV} {rows : Rows} {k : Nat}
theorem parts_rep {L : List (Option Loc)} {a : Act} {parts : Array (Nat × Operand)} (h : ∀ x ∈ (parts.toList.map (·.2)).toArray, rep L (ρ x) (a.eval x)) :
  ∀ j, j < (partsSV ρ parts.toList).length → ∃ i s v, (partsSV ρ parts.toList)[j]? = some (i, s) ∧ (parts.map fun (i, x) => (i, a.eval x)).toList[j]? = some (i, v) ∧ rep L s v := by
 intro j hj
 rw [partsSV_length] at hj
 obtain ⟨i, x, h1, h2⟩ := partsSV_get (ρ := ρ) parts.toList j hj
 refine ⟨i, ρ x, a.eval x, h2, ?_, h x ?_⟩
 ·rw [Array.toList_map, List.getElem?_map, h1]; rfl
 ·rw [List.mem_toArray, List.mem_map]
  exact ⟨(i, x), List.mem_of_getElem? h1, rfl⟩
theorem evBuild_ok {t : TypeId} {parts : Array (Nat × Operand)} {K : OpK α} {r : α} (h : evBuild P ρ t parts.toList K = some r) : ∃ s row, K s row = some r ∧ QGo P G ρ rows k (.build t parts) s row := by
 unfold evBuild at h
 split at h
 ·rename_i place zs hpl hz
  split at h
  ·rename_i out hout
   refine ⟨_, _, h, QGo.val fun w0 o ho L a w rows' hρ hw hsub hG => ?_⟩
   obtain ⟨os, h1, h2⟩ := fillS_ok hout (reps_ofScalars L zs) (by simp [partsSV_length]) (parts_rep (fun x hx => hρ x (by simpa [Op.operands] using hx)))
   refine ⟨.agg ⟨os⟩, w, ?_, rep_norm h2, Below.refl _ _⟩
   simp only [execOp, ho]
   rw [Sem.run_bind, run_build w t _ ⟨os⟩ (by rw [placesOf_built hpl hz]; exact h1)]
   rfl
  ·cases h
 ·cases h
theorem normT_isit (d : TypeDesc) (l : List SV) : (normT d l).isit = false := by
 unfold normT
 split <;> first | rfl | (split <;> rfl)
theorem normT_ok {L : List (Option Loc)} {d : TypeDesc} {l : List SV} {vs : List Value} (h : reps L l vs) : (normT d l).len = vs.length ∧ ∀ j, j < (normT d l).len → ∃ u, (⟨vs⟩ : Array Value)[j]? = some u ∧ rep L ((normT d l).cell j) u := by
 have base : (SV.agg l).len = vs.length ∧ ∀ j, j < (SV.agg l).len → ∃ u, (⟨vs⟩ : Array Value)[j]? = some u ∧ rep L ((SV.agg l).cell j) u :=
  ⟨by simp [SV.len, reps_length h], fun j hj => by simpa [SV.cell] using reps_get h j (by simpa [SV.len] using hj)⟩
 unfold normT
 split
 ·split
  ·rename_i t ht
   have e := reps_all64 ht h
   subst e
   refine ⟨by simp [SV.len], fun j hj => ?_⟩
   have hj' : j < t.length := by simpa [SV.len] using hj
   exact ⟨v64 (t.getD j 0), by simp [hj'], by simp only [SV.cell, rep, v64]⟩
  ·exact base
 ·split
  ·rename_i t ht
   have e := reps_all8 ht h
   subst e
   refine ⟨by simp [SV.len], fun j hj => ?_⟩
   have hj' : j < t.length := by simpa [SV.len] using hj
   exact ⟨v8 (t.getD j 0), by simp [hj'], by simp only [SV.cell, rep, v8]⟩
  ·exact base
 ·split
  ·rename_i q _ _ _ t ht
   have e := reps_allI ht h
   subst e
   refine ⟨by simp [SV.len], fun j hj => ?_⟩
   have hj' : j < t.length := by simpa [SV.len] using hj
   exact ⟨vi q (t.getD j 0), by simp [hj'], by simp only [SV.cell, rep, vi]⟩
  ·exact base
 ·exact base
theorem QGo.new {op : Op} {s : SV} {con : SV} (hi : con.isit = false) (h : ∀ (w0 : World) (o : Oper), o.op = op → ∀ (L : List (Option Loc)) (a : Act) (w : World) (rows' : Rows), (∀ x ∈ op.operands, rep L (ρ x) (a.eval x)) → RowsOK w0 L rows' w → sub L rows rows' →
  ∃ v cells ty, (execOp a.eval o).run P w = .ok (.value v) (w.alloc (.cells cells ty)) ∧ con.len = cells.size ∧ (∀ j, j < con.len → ∃ u, cells[j]? = some u ∧ rep L (con.cell j) u) ∧
   (∀ L' : List (Option Loc), lo L' k = some ⟨w.heap.size, 0, cells.size⟩ → rep L' s v)) : QGo P G ρ rows k op s (some con) := by
 intro w0 o ho L a w rows' hρ hw hsub hk hG _
 obtain ⟨v, cells, ty, h1, h2, h3, h4⟩ := h w0 o ho L a w rows' hρ hw hsub
 obtain ⟨hk1, hk2⟩ := hk (by simp)
 exact Goes.value h1 ⟨_, Ext.set hk2 _, h4 _ (lo_set_self (by rw [hw.size]; exact hk1)), hw.alloc hk1 hk2 cells ty h2 h3 hi⟩
theorem evBuildSlice_ok {t : TypeId} {len : Nat} {parts : Array (Nat × Operand)} {K : OpK α} {r : α} (h : evBuildSlice P ρ t len parts.toList k K = some r) : ∃ s row, K s row = some r ∧ QGo P G ρ rows k (.buildSlice t len parts) s row := by
 unfold evBuildSlice at h
 split at h
 ·rename_i e hu
  split at h
  ·rename_i d size z hd hsize hz
   split at h
   ·cases h
   ·rename_i hb
    split at h
    ·rename_i out hout
     have go : ∀ sv : SV, ((size = 1 ∧ sv = .sl k 0 len) ∨ sv = .slm size k 0 len) → QGo P G ρ rows k (.buildSlice t len parts) sv (some (normT d out)) := fun sv hsv => QGo.new (normT_isit _ _) fun w0 o ho L a w rows' hρ hw hsub => by
      obtain ⟨os, h1, h2⟩ := fillS_ok hout (reps_ofScalars L _) (by simp [partsSV_length]) (parts_rep (fun x hx => hρ x (by simpa [Op.operands] using hx)))
      unfold sizeT at hsize
      unfold zeroT at hz
      cases hi : P.info? e with
      | none => rw [hi] at hz; cases hz
      | some ie =>
       rw [hi] at hz hsize
       simp only [Option.bind_some, Option.map_some, Option.some.injEq] at hz hsize
       subst hsize
       have hos : os.length = len * ie.size := by
        have e1 := reps_length h2
        have e2 : ∀ (place : Nat → Option (Nat × Nat)) (ps : List (Nat × SV)) (cs out : List SV), fillS place cs ps = some out → out.length = cs.length := by
         intro place ps
         induction ps with
         | nil => intro cs out h; simp only [fillS, Option.some.injEq] at h; rw [h]
         | cons p ps ih =>
          obtain ⟨i, s⟩ := p
          intro cs out h
          rw [fillS] at h
          split at h
          ·split at h
           ·cases h
           ·rw [ih _ _ h]
            have : ∀ (us : List SV) (cs : List SV) (o : Nat), (setAllS cs o us).length = cs.length := by
             intro us
             induction us with
             | nil => intro _ _; rfl
             | cons u us ih => intro cs o; simp only [setAllS]; rw [ih]; simp
            exact this _ _ _
          ·cases h
        have e3 := e2 _ _ _ _ hout
        have e4 := reps_length (reps_ofScalars L ((Array.map (fun x => z.cells[x % z.cells.size]!) (Array.range (len * ie.size))).toList))
        rw [e1, e3, ← e4]; simp
       refine ⟨.slice (some ⟨w.heap.size, 0, none⟩) len len, ⟨os⟩, e, ?_, (normT_ok h2).1, (normT_ok h2).2, fun L' hL' => ?_⟩
       ·simp only [execOp, ho]
        have hpos : ¬ len * ie.size = 0 := by omega
        rw [Sem.run_bind, run_buildSlice w t e len _ ⟨os⟩ ie z hu hi hz (by omega) hpos h1]
        rfl
       ·rcases hsv with ⟨h1, rfl⟩ | rfl
        ·simp only [rep]
         refine ⟨_, len, hL', Nat.le_refl _, ?_, rfl⟩
         simp only [Nat.zero_add, List.size_toArray, hos, h1, Nat.mul_one]
         exact Nat.le_refl _
        ·simp only [rep]
         refine ⟨_, len, hL', Nat.le_refl _, ?_, rfl⟩
         simp only [Nat.zero_add, List.size_toArray, hos]
         exact Nat.le_refl _
     split at h
     ·rename_i hs1
      exact ⟨_, _, h, go _ (.inl ⟨hs1, rfl⟩)⟩
     ·exact ⟨_, _, h, go _ (.inr rfl)⟩
    ·cases h
  ·cases h
 ·cases h
def okCells : SV → Bool
 | .any => false
 | .tup _ => false
 | .sit _ _ => false
 | .c (.agg _) => false
 | _ => true
theorem okCells_isit {s : SV} (h : okCells s = true) : s.cells.isit = false := SV.cells_isit s (by cases s <;> first | rfl | cases h)
theorem okCells_ok {L : List (Option Loc)} {s : SV} {v : Value} (h : okCells s = true) (hr : rep L s v) : s.cells.len = v.cells.size ∧ ∀ j, j < s.cells.len → ∃ u, v.cells[j]? = some u ∧ rep L (s.cells.cell j) u := by
 have := rep_cells hr (fun l e => by subst e; cases h) (fun e => by subst e; cases h) (fun u e => by subst e; cases u <;> first | rfl | cases h)
 exact ⟨this.1.symm, this.2⟩
def evAlloc (P : Program) (t : TypeId) (k : Nat) (K : OpK α) : Option α :=
 match zeroT P t with
 | some z => if okCells (ofValue z) then K (.ptr k 0) (some (ofValue z).cells) else none
 | none => none
theorem evAlloc_ok {t : TypeId} {K : OpK α} {r : α} (h : evAlloc P t k K = some r) : ∃ s row, K s row = some r ∧ QGo P G ρ rows k (.alloc t) s row := by
 unfold evAlloc at h
 split at h
 ·rename_i z hz
  split at h
  ·rename_i hok
   refine ⟨_, _, h, QGo.new (okCells_isit hok) fun w0 o ho L a w rows' hρ hw hsub => ?_⟩
   obtain ⟨h1, h2⟩ := okCells_ok hok (rep_ofValue L z)
   refine ⟨.pointer (some ⟨w.heap.size, 0, none⟩), z.cells, t, ?_, h1, h2, fun L' hL' => by simp only [rep]; exact ⟨_, hL', by simp⟩⟩
   simp only [execOp, ho, Instr.alloc]
   simp only [Sem.run_bind, run_zeroT hz, Result.andThen_ok, newVar, newRow, run_newObj, Sem.run_pure]
   rfl
  ·cases h
 ·cases h
def evBox (x : SV) (k : Nat) (K : OpK α) : Option α := if okCells x then K (.ptr k 0) (some x.cells) else none
theorem evBox_ok {t : TypeId} {x : Operand} {K : OpK α} {r : α} (h : evBox (ρ x) k K = some r) : ∃ s row, K s row = some r ∧ QGo P G ρ rows k (.box t x) s row := by
 unfold evBox at h
 split at h
 ·rename_i hok
  refine ⟨_, _, h, QGo.new (okCells_isit hok) fun w0 o ho L a w rows' hρ hw hsub => ?_⟩
  obtain ⟨h1, h2⟩ := okCells_ok hok (hρ x (by simp [Op.operands]))
  refine ⟨.pointer (some ⟨w.heap.size, 0, none⟩), (a.eval x).cells, t, ?_, h1, h2, fun L' hL' => by simp only [rep]; exact ⟨_, hL', by simp⟩⟩
  simp only [execOp, ho, Instr.box]
  simp only [Sem.run_bind, Result.andThen_ok, newVar, newRow, run_newObj, Sem.run_pure]
  rfl
 ·cases h
end
end Go.Ev
namespace Go.Ev
open Go.RowKit
variable {α : Type}
def sameOp : Operand → Operand → Bool
 | .tmp a, .tmp b => a == b
 | _, _ => false
def zeros (d : TypeDesc) (n : Nat) : Option SV :=
 match d with
 | .int .u8 => some (.a8 (List.replicate n 0#8))
 | .int .u64 => some (.a64 (List.replicate n 0#64))
 | .int .i64 => some (.ai .i64 (List.replicate n 0))
 | .string => some (.agg (List.replicate n (.c (.string ⟨#[]⟩))))
 | _ => none
def isZero : TypeDesc → Value → Bool
 | .int .u8, .int .u8 0 => true
 | .int .u64, .int .u64 0 => true
 | .int .i64, .int .i64 0 => true
 | .string, .string ⟨⟨[]⟩⟩ => true
 | _, _ => false
def evMake (P : Program) (ρ : Operand → SV) (t : TypeId) (x y : Operand) (k : Nat) (K : OpK α) : Option α :=
 match P.underlying t, idx (ρ x), idx (ρ y) with
 | some (.slice e), some n, some m => match P.underlying e, P.info? e with
  | some d, some ie => match ie.zero, zeros d n.toNat with
   | some z, some con => if isZero d z && ie.size == 1 && decide (ie.bytes ≤ 16) then
     if (sameOp x y || decide (n = m)) then if 0 ≤ n ∧ n ≤ 1048576 then K (.sl k 0 n.toNat) (some con) else none else none
    else none
   | _, _ => none
  | _, _ => none
 | _, _, _ => none
def optIdx (ρ : Operand → SV) : Option Operand → Option (Option Int)
 | none => some none
 | some x => match idx (ρ x) with | some n => some (some n) | none => none
def evSlice (P : Program) (ρ : Operand → SV) (rows : Rows) (t : TypeId) (x : Operand) (lo hi mx : Option Operand) (K : OpK α) : Option α :=
 match ρ x, P.underlying t with
 | .sl r off len, some (.slice e) => match sizeT P e, optIdx ρ lo, optIdx ρ hi, optIdx ρ mx with
  | some z, some l, some h, some m => if z = 1 then
    let l' := l.getD 0
    let h' := h.getD len
    let m' := m.getD len
    if 0 ≤ l' ∧ l' ≤ h' ∧ h' ≤ m' ∧ m' ≤ (len : Int) ∧ (l' = 0 ∨ l' < m') then if m = none ∨ hi ≠ none then K (.sl r (off + l'.toNat) (h'.toNat - l'.toNat)) none else none else none
   else none
  | _, _, _, _ => none
 | .ptr r off, some (.array n e) => match sizeT P e, lo, hi, mx, rows[r]? with
  | some z, none, none, none, some (some row) => if z = 1 ∧ n ≠ 0 then if off + n ≤ row.con.len then K (.sl r off n) none else none else none   -- the whole
  | _, _, _, _, _ => none
 | .c (.string s), some .string => match optIdx ρ lo, optIdx ρ hi, mx with
  | some l, some h, none =>
    let l' := l.getD 0
    let h' := h.getD s.size
    if 0 ≤ l' ∧ l' ≤ h' ∧ h' ≤ (s.size : Int) then K (.c (.string ⟨⟨(s.data.toList.drop l'.toNat).take (h'.toNat - l'.toNat)⟩⟩)) none else none
  | _, _, _ => none
 | _, _ => none
def evLen (P : Program) (t : TypeId) (x : SV) (K : OpK α) : Option α :=
 match P.underlying t, x with
 | some (.array n _), _ => K (.i .i64 n) none
 | some (.slice _), .sl _ _ len => K (.i .i64 len) none
 | some (.slice _), .slm _ _ _ len => K (.i .i64 len) none
 | some (.slice _), .c (.slice _ n _) => K (.i .i64 n) none
 | some .string, .c (.string s) => K (.i .i64 s.size) none
 | _, _ => none
def evMin (lt : Bool) (x y : SV) (K : OpK α) : Option α :=
 match x, y with
 | .i k a, .i k' b => if k = k' then K (.i k (if lt then (if b < a then b else a) else (if a < b then b else a))) none else none
 | .u64 a, .u64 b => K (.u64 (if lt then (if b < a then b else a) else (if a < b then b else a))) none
 | _, _ => none
def evCall1 (P : Program) (ρ : Operand → SV) (c : Call) (K : OpK α) : Option α :=
 match c.callee, c.args.toList, c.argTypes.toList with
 | .builtin .len, [x], t :: _ => evLen P t (ρ x) K
 | .builtin .min, [x, y], _ => evMin true (ρ x) (ρ y) K
 | .builtin .max, [x, y], _ => evMin false (ρ x) (ρ y) K
 | _, _, _ => none
def mapSV (ρ : Operand → SV) : List Operand → List SV
 | [] => []
 | x :: l => ρ x :: mapSV ρ l
def evOp (P : Program) (G : List (Nat × SV)) (ρ : Operand → SV) (rows : Rows) (k : Nat) (op : Op) (K : OpK α) : Option α :=
 match op with
 | .move x => K (ρ x) none
 | .assign x => K (ρ x) none
 | .pick c x y => match ρ c with
  | .bool t => if t = true then K (ρ x) none else K (ρ y) none
  | _ => none
 | .load t x => evLoad P G rows t (ρ x) K
 | .field t x f => evField P t (ρ x) f K
 | .fieldAddr t x f => evFieldAddr P t (ρ x) f K
 | .indexAddr t x i => evIndexAddr P t (ρ x) (ρ i) K
 | .index t x i => evIndex P t (ρ x) (ρ i) K
 | .binOp op t x y _ => evBin P op t (ρ x) (ρ y) K
 | .unOp op _ x => unSV op (ρ x) (fun s => K s none)
 | .convert s d x => match P.underlying s, P.underlying d with
  | some _, some dd => convSV dd (ρ x) (fun s => K s none)
  | _, _ => none
 | .build t parts => evBuild P ρ t parts.toList K
 | .buildSlice t n parts => evBuildSlice P ρ t n parts.toList k K
 | .alloc t => evAlloc P t k K
 | .box _ x => evBox (ρ x) k K
 | .makeSlice t x y => evMake P ρ t x y k K
 | .slice t x lo hi mx => evSlice P ρ rows t x lo hi mx K
 | .extract x i => match ρ x with
  | .tup l => if i < l.length then K (l.getD i .any) none else none
  | _ => none
 | .makeFunc (.func f) first cap => if first.isEmpty then K (.clo f (mapSV ρ cap.toList)) none else none
 | .nilCheck x => match ρ x with
  | .ptr r off => K (.ptr r off) none
  | .gl g => K (.gl g) none
  | _ => none
 | .sliceToArrayPointer d x => match ρ x, P.underlying d with
  | .sl r off len, some (.array n _) => if n ≤ len then K (.ptr r off) none else none
  | _, _ => none
 | .call c => evCall1 P ρ c K
 | .range t x => match P.underlying t, ρ x with
  | some .string, .c (.string s) => K (.ptr k 0) (some (.sit s 0))
  | _, _ => none
 | _ => none
section
variable {P : Program} {G : List (Nat × SV)} {ρ : Operand → SV} {rows : Rows} {k : Nat}
theorem run_make1 {w : World} {t e : TypeId} {ie : TypeInfo} {z : Value} (ht : P.underlying t = some (.slice e)) (hi : P.info? e = some ie) (hz : ie.zero = some z) (hs : ie.size = 1) (hb : ie.bytes ≤ 16) (kl kc : IntKind) (n : Int) (h0 : 0 ≤ n) (h1 : n ≤ 1048576) :
  (Instr.makeSlice t (.int kl n) (.int kc n)).run P w = .ok (.slice (some ⟨w.heap.size, 0, none⟩) n.toNat n.toNat) (w.alloc (.cells (madeCells z.cells n.toNat) e)) := by
 have hbytes : (ie.bytes : Int) * n ≤ 281474976710656 := by
  have h2 : (ie.bytes : Int) * n ≤ 16 * n := Int.mul_le_mul_of_nonneg_right (by omega) h0
  omega
 have := run_make w t e ie z ht hi hz kl kc n n h0 (Int.le_refl _) hbytes (by omega)
 rw [this, hs, Nat.mul_one]
theorem zeros_ok {d : TypeDesc} {z : Value} (hz : isZero d z = true) {n : Nat} {con : SV} (hc : zeros d n = some con) (L : List (Option Loc)) :
  con.len = (madeCells z.cells n).size ∧ ∀ j, j < con.len → ∃ u, (madeCells z.cells n)[j]? = some u ∧ rep L (con.cell j) u := by
 unfold isZero at hz
 split at hz
 ·simp only [zeros, Option.some.injEq] at hc; subst hc
  refine ⟨by simp [SV.len, madeCells], fun j hj => ⟨.int .u8 0, ?_, ?_⟩⟩
  ·have hj' : j < n := by simpa [SV.len] using hj
   simp [madeCells, hj', Value.cells, Nat.mod_one]
  ·have hj' : j < n := by simpa [SV.len] using hj
   simp [SV.cell, rep, List.getD_eq_getElem?_getD, hj']
 ·simp only [zeros, Option.some.injEq] at hc; subst hc
  refine ⟨by simp [SV.len, madeCells], fun j hj => ⟨.int .u64 0, ?_, ?_⟩⟩
  ·have hj' : j < n := by simpa [SV.len] using hj
   simp [madeCells, hj', Value.cells, Nat.mod_one]
  ·have hj' : j < n := by simpa [SV.len] using hj
   simp [SV.cell, rep, List.getD_eq_getElem?_getD, hj']
 ·simp only [zeros, Option.some.injEq] at hc; subst hc
  refine ⟨by simp [SV.len, madeCells], fun j hj => ⟨.int .i64 0, ?_, ?_⟩⟩
  ·have hj' : j < n := by simpa [SV.len] using hj
   simp [madeCells, hj', Value.cells, Nat.mod_one]
  ·have hj' : j < n := by simpa [SV.len] using hj
   simp [SV.cell, rep, List.getD_eq_getElem?_getD, hj']
 ·simp only [zeros, Option.some.injEq] at hc; subst hc
  refine ⟨by simp [SV.len, madeCells], fun j hj => ⟨.string ⟨⟨[]⟩⟩, ?_, ?_⟩⟩
  ·have hj' : j < n := by simpa [SV.len] using hj
   simp [madeCells, hj', Value.cells, Nat.mod_one]
  ·have hj' : j < n := by simpa [SV.len] using hj
   simp [SV.cell, rep, List.getD_eq_getElem?_getD, hj']
 ·cases hz
theorem zeros_isit {d : TypeDesc} {n : Nat} {con : SV} (hc : zeros d n = some con) : con.isit = false := by
 unfold zeros at hc
 split at hc <;> first | (cases hc; rfl) | cases hc
theorem evMake_ok {t : TypeId} {x y : Operand} {K : OpK α} {r : α} (h : evMake P ρ t x y k K = some r) : ∃ s row, K s row = some r ∧ QGo P G ρ rows k (.makeSlice t x y) s row := by
 unfold evMake at h
 split at h
 ·rename_i e n m ht hx hy
  split at h
  ·rename_i d ie hd hi
   split at h
   ·rename_i z con hz hcon
    split at h
    ·rename_i hok
     simp only [Bool.and_eq_true, beq_iff_eq, decide_eq_true_eq] at hok
     split at h
     ·rename_i hsame
      split at h
      ·rename_i hn
       refine ⟨_, _, h, QGo.new (zeros_isit hcon) fun w0 o ho L a w rows' hρ hw hsub => ?_⟩
       obtain ⟨kx, hvx⟩ := idx_ok hx L _ (hρ x (by simp [Op.operands]))
       obtain ⟨ky, hvy⟩ := idx_ok hy L _ (hρ y (by simp [Op.operands]))
       have hvy' : a.eval y = .int ky n := by
        rw [hvy]
        simp only [Bool.or_eq_true, decide_eq_true_eq] at hsame
        rcases hsame with h1 | h1
        ·unfold sameOp at h1
         split at h1
         ·rename_i p q
          have e : p = q := by simpa using h1
          subst e
          rw [hx] at hy
          cases hy; rfl
         ·cases h1
        ·rw [h1]
       obtain ⟨z1, z2⟩ := zeros_ok hok.1.1 hcon L
       refine ⟨.slice (some ⟨w.heap.size, 0, none⟩) n.toNat n.toNat, madeCells z.cells n.toNat, e, ?_, z1, z2, fun L' hL' => ?_⟩
       ·simp only [execOp, ho, hvx, hvy']
        rw [Sem.run_bind, run_make1 ht hi hz hok.1.2 hok.2 kx ky n hn.1 hn.2]
        rfl
       ·simp only [rep]
        exact ⟨_, n.toNat, hL', Nat.le_refl _, by simp [madeCells], rfl⟩
      ·cases h
     ·cases h
    ·cases h
   ·cases h
  ·cases h
 ·cases h
theorem optIdx_ok {x : Option Operand} {n : Option Int} (h : optIdx ρ x = some n) (L : List (Option Loc)) (a : Act) (hr : ∀ y, x = some y → rep L (ρ y) (a.eval y)) :
  (x = none ∧ n = none) ∨ ∃ y q m, x = some y ∧ n = some m ∧ a.eval y = .int q m := by
 unfold optIdx at h
 split at h
 ·simp only [Option.some.injEq] at h; exact .inl ⟨rfl, h.symm⟩
 ·rename_i y
  split at h
  ·rename_i m hm
   simp only [Option.some.injEq] at h
   obtain ⟨q, hq⟩ := idx_ok hm L _ (hr y rfl)
   exact .inr ⟨y, q, m, rfl, h.symm, hq⟩
  ·cases h
theorem run_bound (P : Program) (w : World) (q : IntKind) (i : Int) (y : Nat) (code : BoundsCode) (h : 0 ≤ i ∧ i ≤ (y : Int)) : (Instr.sliceBound (.int q i) y code).run P w = .ok i.toNat w := by
 simp [Instr.sliceBound, asIntOf, h]
theorem evSlice_ok {t : TypeId} {x : Operand} {lo hi mx : Option Operand} {K : OpK α} {r : α} (h : evSlice P ρ rows t x lo hi mx K = some r) : ∃ s row, K s row = some r ∧ QGo P G ρ rows k (.slice t x lo hi mx) s row := by
 unfold evSlice at h
 split at h
 ·rename_i n off len e hx ht
  split at h
  ·rename_i z l hh m hz hl hhi hm
   split at h
   ·rename_i hz1
    subst hz1
    simp only [] at h
    split at h
    ·rename_i hb
     split at h
     ·rename_i hmn
      refine ⟨_, _, h, QGo.val fun w0 o ho L a w rows' hρ hw hsub hG => ?_⟩
      have hr := hρ x (by simp [Op.operands])
      rw [hx] at hr
      simp only [rep] at hr
      obtain ⟨lc, cap, hlc, h1, h2, hv⟩ := hr
      have o1 := optIdx_ok hl L a (fun y hy => hρ y (by subst hy; simp [Op.operands]))
      have o2 := optIdx_ok hhi L a (fun y hy => hρ y (by subst hy; simp [Op.operands]))
      have o3 := optIdx_ok hm L a (fun y hy => hρ y (by subst hy; simp [Op.operands]))
      obtain ⟨b1, b2, b3, b4, b5⟩ := hb
      -- the bounds
      have key : ∃ M : Nat, (Instr.sliceBounds true len cap (lo.map a.eval) (hi.map a.eval) (mx.map a.eval)).run P w = .ok ((l.getD 0).toNat, (hh.getD len).toNat, M) w ∧ (hh.getD len).toNat ≤ M ∧ M ≤ cap ∧ ((l.getD 0) = 0 ∨ (l.getD 0).toNat < M) := by
       rcases o3 with ⟨rfl, rfl⟩ | ⟨my, mq, mm, rfl, rfl, hme⟩
       ·refine ⟨cap, ?_, by simp only [Option.getD_none] at b3; omega, Nat.le_refl _, ?_⟩
        ·rcases o2 with ⟨rfl, rfl⟩ | ⟨hy, hq, hn, rfl, rfl, hhe⟩ <;> rcases o1 with ⟨rfl, rfl⟩ | ⟨ly, lq, ln, rfl, rfl, hle⟩
         ·simp [Instr.sliceBounds]
         ·simp only [Option.getD_some, Option.getD_none] at b1 b2 b3 b4 ⊢
          simp [Instr.sliceBounds, hle, run_bound P w lq ln len _ ⟨b1, b2⟩]
         ·simp only [Option.getD_some, Option.getD_none] at b1 b2 b3 b4 ⊢
          simp [Instr.sliceBounds, hhe, run_bound P w hq hn cap _ ⟨b2, by omega⟩]
         ·simp only [Option.getD_some, Option.getD_none] at b1 b2 b3 b4 ⊢
          simp [Instr.sliceBounds, hhe, hle, run_bound P w hq hn cap _ ⟨by omega, by omega⟩, run_bound P w lq ln hn.toNat _ ⟨b1, by omega⟩]
        ·simp only [Option.getD_none] at b4 b5
         omega
       ·simp only [Option.getD_some] at b3 b4 b5
        have : hi ≠ none := by rcases hmn with e | e; · cases e
                               ·exact e
        rcases o2 with ⟨rfl, rfl⟩ | ⟨hy, hq, hn, rfl, rfl, hhe⟩
        ·exact absurd rfl this
        ·simp only [Option.getD_some] at b2 b3 ⊢
         refine ⟨mm.toNat, ?_, by omega, by omega, by omega⟩
         rcases o1 with ⟨rfl, rfl⟩ | ⟨ly, lq, ln, rfl, rfl, hle⟩
         ·simp only [Option.getD_none] at b1 b2 ⊢
          simp [Instr.sliceBounds, hhe, hme, run_bound P w mq mm cap _ ⟨by omega, by omega⟩, run_bound P w hq hn mm.toNat _ ⟨by omega, by omega⟩]
         ·simp only [Option.getD_some] at b1 b2 ⊢
          simp [Instr.sliceBounds, hhe, hme, hle, run_bound P w mq mm cap _ ⟨by omega, by omega⟩, run_bound P w hq hn mm.toNat _ ⟨by omega, by omega⟩, run_bound P w lq ln hn.toNat _ ⟨by omega, by omega⟩]
      obtain ⟨M, k1, k2, k3, k4⟩ := key
      refine ⟨.slice (some ⟨lc.blk, lc.base + (off + (l.getD 0).toNat), none⟩) ((hh.getD len).toNat - (l.getD 0).toNat) (M - (l.getD 0).toNat), w, ?_, ?_, Below.refl _ _⟩
      ·simp only [execOp, ho, hv]
       unfold Instr.sliceAt
       simp only [Sem.run_bind, run_underlying ht, Result.andThen_ok]
       unfold Instr.slice
       simp only [Sem.run_bind, run_underlying ht, Result.andThen_ok, k1, run_sizeT hz, Sem.run_pure, Option.map_some, Nat.mul_one, lit_add]
       rcases k4 with k4 | k4
       ·simp [k4]
       ·rw [if_neg (by omega)]; simp [Nat.add_assoc]
      ·simp only [rep]
       exact ⟨lc, _, hlc, by omega, by omega, rfl⟩
     ·cases h
    ·cases h
   ·cases h
  ·cases h
 ·rename_i n off len e hx ht
  split at h
  ·rename_i z row hz hrow
   split at h
   ·rename_i hz1
    obtain ⟨hz1, hn0⟩ := hz1
    split at h
    ·rename_i hle
     refine ⟨_, _, h, QGo.val fun w0 o ho L a w rows' hρ hw hsub hG => ?_⟩
     have hr := hρ x (by simp [Op.operands])
     rw [hx] at hr
     simp only [rep] at hr
     obtain ⟨lc, hlc, hv⟩ := hr
     have hsz := (hw.row n row lc (hsub n row lc hrow hlc) hlc).len
     refine ⟨.slice (some ⟨lc.blk, lc.base + off, none⟩) len len, w, ?_, by simp only [rep]; exact ⟨lc, len, hlc, Nat.le_refl _, by omega, rfl⟩, Below.refl _ _⟩
     simp only [execOp, ho, hv]
     unfold Instr.sliceAt
     simp only [Sem.run_bind, run_underlying ht, Result.andThen_ok, Instr.sureAddr, Sem.run_pure, Option.map_none]
     simp [Instr.sliceBounds, run_sizeT hz, hn0, lit_add]
    ·cases h
   ·cases h
  ·cases h
 ·rename_i s hx ht
  split at h
  ·rename_i l hh hl hhi
   simp only [] at h
   split at h
   ·rename_i hb
    refine ⟨_, _, h, QGo.val fun w0 o ho L a w rows' hρ hw hsub hG => ?_⟩
    have hr := hρ x (by simp [Op.operands])
    rw [hx] at hr
    simp only [rep] at hr
    have o1 := optIdx_ok hl L a (fun y hy => hρ y (by subst hy; simp [Op.operands]))
    have o2 := optIdx_ok hhi L a (fun y hy => hρ y (by subst hy; simp [Op.operands]))
    obtain ⟨b1, b2, b3⟩ := hb
    have key : (Instr.sliceBounds false s.size s.size (lo.map a.eval) (hi.map a.eval) none).run P w = .ok ((l.getD 0).toNat, (hh.getD s.size).toNat, s.size) w := by
     rcases o2 with ⟨rfl, rfl⟩ | ⟨hy, hq, hn, rfl, rfl, hhe⟩ <;> rcases o1 with ⟨rfl, rfl⟩ | ⟨ly, lq, ln, rfl, rfl, hle⟩
     ·simp [Instr.sliceBounds]
     ·simp only [Option.getD_some, Option.getD_none] at b1 b2 b3 ⊢
      simp [Instr.sliceBounds, hle, run_bound P w lq ln s.size _ ⟨b1, b2⟩]
     ·simp only [Option.getD_some, Option.getD_none] at b1 b2 b3 ⊢
      simp [Instr.sliceBounds, hhe, run_bound P w hq hn s.size _ ⟨b2, by omega⟩]
     ·simp only [Option.getD_some] at b1 b2 b3 ⊢
      simp [Instr.sliceBounds, hhe, hle, run_bound P w hq hn s.size _ ⟨by omega, by omega⟩, run_bound P w lq ln hn.toNat _ ⟨b1, by omega⟩]
    refine ⟨.string (s.extract (l.getD 0).toNat (hh.getD s.size).toNat), w, ?_, by simp only [rep, text_cut], Below.refl _ _⟩
    simp only [execOp, ho, hr]
    unfold Instr.sliceAt
    simp only [Sem.run_bind, run_underlying ht, Result.andThen_ok]
    unfold Instr.slice
    simp only [Sem.run_bind, run_underlying ht, Result.andThen_ok, Option.map_none, key, Option.isSome_none, Bool.false_eq_true, if_false, Sem.run_pure]
   ·cases h
  ·cases h
 ·cases h
theorem evCall1_ok {c : Call} {K : OpK α} {r : α} (h : evCall1 P ρ c K = some r) : ∃ s row, K s row = some r ∧ QGo P G ρ rows k (.call c) s row := by
 obtain ⟨callee, ⟨args⟩, ⟨tys⟩⟩ := c
 unfold evCall1 at h
 have mm : ∀ (b : Builtin) (lt : Bool) (x y : Operand) (tys : List TypeId), (b = .min ∧ lt = true ∨ b = .max ∧ lt = false) → evMin lt (ρ x) (ρ y) K = some r →
   ∃ s row, K s row = some r ∧ QGo P G ρ rows k (.call { callee := .builtin b, args := ⟨[x, y]⟩, argTypes := ⟨tys⟩ }) s row := by
  intro b lt x y tys hb h
  unfold evMin at h
  have fin : ∀ (s : SV), (∀ (L : List (Option Loc)) (vx vy : Value), rep L (ρ x) vx → rep L (ρ y) vy → ∃ v, rep L s v ∧ (∀ w, (if lt then Builtin.min2 vx vy else Builtin.max2 vx vy : Sem Value).run P w = .ok v w)) →
    QGo P G ρ rows k (.call { callee := .builtin b, args := ⟨[x, y]⟩, argTypes := ⟨tys⟩ }) s none := by
   intro s hs
   refine QGo.val fun w0 o ho L a w rows' hρ hw hsub hG => ?_
   obtain ⟨v, h1, h2⟩ := hs L (a.eval x) (a.eval y) (hρ x (by simp [Op.operands, Call.operands])) (hρ y (by simp [Op.operands, Call.operands]))
   refine ⟨v, w, ?_, h1, Below.refl _ _⟩
   rcases hb with ⟨rfl, rfl⟩ | ⟨rfl, rfl⟩
   ·have := h2 w
    simp only [if_true] at this
    simp only [execOp, ho, resolve]
    simp [invoke, builtin, Builtin.min_, this]
   ·have := h2 w
    simp only [Bool.false_eq_true, if_false] at this
    simp only [execOp, ho, resolve]
    simp [invoke, builtin, Builtin.max_, this]
  split at h
  ·rename_i q n q' m hx hy
   split at h
   ·rename_i e; subst e
    refine ⟨_, _, h, fin _ fun L vx vy rx ry => ?_⟩
    rw [hx] at rx; rw [hy] at ry
    simp only [rep] at rx ry; subst rx; subst ry
    cases lt
    ·exact ⟨.int q (if m > n then m else n), by simp [rep], fun w => by simp [Builtin.max2]⟩
    ·exact ⟨.int q (if m < n then m else n), by simp [rep], fun w => by simp [Builtin.min2]⟩
   ·cases h
  ·rename_i n m hx hy
   refine ⟨_, _, h, fin _ fun L vx vy rx ry => ?_⟩
   rw [hx] at rx; rw [hy] at ry
   simp only [rep] at rx ry; subst rx; subst ry
   cases lt
   ·refine ⟨.int .u64 (if (m.toNat : Int) > n.toNat then (m.toNat : Int) else n.toNat), ?_, fun w => by simp [Builtin.max2]⟩
    simp only [rep, Bool.false_eq_true, if_false, BitVec.lt_def]
    congr 1
    by_cases hc : n.toNat < m.toNat
    ·rw [if_pos hc, if_pos (by omega)]
    ·rw [if_neg hc, if_neg (by omega)]
   ·refine ⟨.int .u64 (if (m.toNat : Int) < n.toNat then (m.toNat : Int) else n.toNat), ?_, fun w => by simp [Builtin.min2]⟩
    simp only [rep, if_true, BitVec.lt_def]
    congr 1
    by_cases hc : m.toNat < n.toNat
    ·rw [if_pos hc, if_pos (by omega)]
    ·rw [if_neg hc, if_neg (by omega)]
  ·cases h
 simp only [] at h
 split at h
 ·rename_i _ _ _ x t rest
  unfold evLen at h
  have fin : ∀ (n : Nat), (∀ (L : List (Option Loc)) (w : World) (vx : Value), rep L (ρ x) vx → (Builtin.len_ ⟨t :: rest⟩ 0 #[vx]).run P w = .ok (.int .i64 n) w ∧ ∀ ty, Builtin.len_ ⟨t :: rest⟩ ty #[vx] = Builtin.len_ ⟨t :: rest⟩ 0 #[vx]) →
    QGo P G ρ rows k (.call { callee := .builtin .len, args := ⟨[x]⟩, argTypes := ⟨t :: rest⟩ }) (.i .i64 n) none := by
   intro n hn
   refine QGo.val fun w0 o ho L a w rows' hρ hw hsub hG => ?_
   obtain ⟨h1, h2⟩ := hn L w (a.eval x) (hρ x (by simp [Op.operands, Call.operands]))
   refine ⟨.int .i64 n, w, ?_, by simp only [rep], Below.refl _ _⟩
   simp only [execOp, ho, resolve]
   simp [invoke, builtin, h2, h1]
  split at h
  ·rename_i n e ht
   refine ⟨_, _, h, fin n fun L w vx rx => ⟨?_, fun _ => rfl⟩⟩
   simp [Builtin.len_, run_underlying ht, goInt]
  ·rename_i e p q n ht hx
   refine ⟨_, _, h, fin n fun L w vx rx => ⟨?_, fun _ => rfl⟩⟩
   rw [hx] at rx
   simp only [rep] at rx
   obtain ⟨_, cap, _, _, _, rfl⟩ := rx
   simp [Builtin.len_, run_underlying ht, goInt]
  ·rename_i e z p q n ht hx
   refine ⟨_, _, h, fin n fun L w vx rx => ⟨?_, fun _ => rfl⟩⟩
   rw [hx] at rx
   simp only [rep] at rx
   obtain ⟨_, cap, _, _, _, rfl⟩ := rx
   simp [Builtin.len_, run_underlying ht, goInt]
  ·rename_i e n c ht hx
   refine ⟨_, _, h, fin n fun L w vx rx => ⟨?_, fun _ => rfl⟩⟩
   rw [hx] at rx
   simp only [rep] at rx
   subst rx
   simp [Builtin.len_, run_underlying ht, goInt]
  ·rename_i s ht hx
   refine ⟨_, _, h, fin s.size fun L w vx rx => ⟨?_, fun _ => rfl⟩⟩
   rw [hx] at rx
   simp only [rep] at rx
   subst rx
   simp [Builtin.len_, run_underlying ht, goInt]
  ·cases h
 ·exact mm .min true _ _ _ (.inl ⟨rfl, rfl⟩) h
 ·exact mm .max false _ _ _ (.inr ⟨rfl, rfl⟩) h
 ·cases h
theorem mapSV_rep {L : List (Option Loc)} {a : Act} : ∀ (l : List Operand), (∀ x ∈ l, rep L (ρ x) (a.eval x)) → reps L (mapSV ρ l) (l.map a.eval)
 | [], _ => by simp [mapSV, reps]
 | x :: l, h => by
  simp only [mapSV, List.map_cons, reps]
  exact ⟨_, _, rfl, h x List.mem_cons_self, mapSV_rep l fun y hy => h y (List.mem_cons_of_mem _ hy)⟩
theorem evOp_ok {op : Op} {K : OpK α} {r : α} (h : evOp P G ρ rows k op K = some r) : ∃ s row, K s row = some r ∧ QGo P G ρ rows k op s row := by
 unfold evOp at h
 split at h
 ·exact ⟨_, _, h, QGo.val fun w0 o ho L a w rows' hρ hw hsub hG => ⟨_, w, by simp only [execOp, ho, Sem.run_pure], hρ _ (by simp [Op.operands]), Below.refl _ _⟩⟩
 ·exact ⟨_, _, h, QGo.val fun w0 o ho L a w rows' hρ hw hsub hG => ⟨_, w, by simp only [execOp, ho, Sem.run_pure], hρ _ (by simp [Op.operands]), Below.refl _ _⟩⟩
 ·rename_i c x y
  split at h
  ·rename_i t hc
   split at h
   ·rename_i ht
    refine ⟨_, _, h, QGo.val fun w0 o ho L a w rows' hρ hw hsub hG => ?_⟩
    have hr := hρ c (by simp [Op.operands])
    rw [hc] at hr; simp only [rep] at hr
    exact ⟨_, w, by simp only [execOp, ho, hr, ht]; simp [asBool], hρ x (by simp [Op.operands]), Below.refl _ _⟩
   ·rename_i ht
    refine ⟨_, _, h, QGo.val fun w0 o ho L a w rows' hρ hw hsub hG => ?_⟩
    have hr := hρ c (by simp [Op.operands])
    rw [hc] at hr; simp only [rep] at hr
    exact ⟨_, w, by simp only [execOp, ho, hr]; simp [asBool, ht], hρ y (by simp [Op.operands]), Below.refl _ _⟩
  ·cases h
 ·exact evLoad_ok h
 ·exact evField_ok h
 ·exact evFieldAddr_ok h
 ·exact evIndexAddr_ok h
 ·exact evIndex_ok h
 ·exact evBin_ok h
 ·rename_i op t x
  obtain ⟨s, hs, hg⟩ := unSV_ok h
  refine ⟨_, _, hs, QGo.val fun w0 o ho L a w rows' hρ hw hsub hG => ?_⟩
  obtain ⟨v, h1, h2⟩ := hg P L w _ (hρ x (by simp [Op.operands]))
  exact ⟨v, w, by simp only [execOp, ho]; rw [Sem.run_bind, h1]; rfl, h2, Below.refl _ _⟩
 ·rename_i s d x
  split at h
  ·rename_i ds dd hs hd
   obtain ⟨t, ht, hg⟩ := convSV_ok h
   refine ⟨_, _, ht, QGo.val fun w0 o ho L a w rows' hρ hw hsub hG => ?_⟩
   obtain ⟨v, w', h1, h2, h3⟩ := hg P L w _ s d ds hs hd (hρ x (by simp [Op.operands]))
   exact ⟨v, w', by simp only [execOp, ho]; rw [Sem.run_bind, h1]; rfl, h2, h3⟩
  ·cases h
 ·exact evBuild_ok h
 ·exact evBuildSlice_ok h
 ·exact evAlloc_ok h
 ·exact evBox_ok h
 ·exact evMake_ok h
 ·exact evSlice_ok h
 ·rename_i x i
  split at h
  ·rename_i l hx
   split at h
   ·rename_i hi
    refine ⟨_, _, h, QGo.val fun w0 o ho L a w rows' hρ hw hsub hG => ?_⟩
    have hr := hρ x (by simp [Op.operands])
    rw [hx] at hr; simp only [rep] at hr
    obtain ⟨cs, hv, hcs⟩ := hr
    obtain ⟨u, h1, h2⟩ := reps_get hcs i hi
    refine ⟨u, w, ?_, h2, Below.refl _ _⟩
    simp only [execOp, ho, hv, Instr.extract]
    have : (⟨cs⟩ : Array Value)[i]? = some u := by simpa using h1
    simp [this]
   ·cases h
  ·cases h
 ·rename_i f first cap
  split at h
  ·rename_i hf
   refine ⟨_, _, h, QGo.val fun w0 o ho L a w rows' hρ hw hsub hG => ?_⟩
   have hf' : first = #[] := by simpa using hf
   subst hf'
   refine ⟨.func (.func f) #[] (cap.map a.eval), w, by simp only [execOp, ho, Instr.makeFunc]; simp, ?_, Below.refl _ _⟩
   simp only [rep]
   refine ⟨cap.toList.map a.eval, ?_, mapSV_rep cap.toList fun x hx => hρ x (by simp only [Op.operands, Array.empty_append]; exact Array.mem_toList_iff.1 hx)⟩
   rw [← Array.toList_map]
  ·cases h
 ·rename_i x
  split at h
  ·rename_i n off hx
   refine ⟨_, _, h, QGo.val fun w0 o ho L a w rows' hρ hw hsub hG => ?_⟩
   have hr := hρ x (by simp [Op.operands])
   rw [hx] at hr
   have hr' := hr
   simp only [rep] at hr'
   obtain ⟨lc, hlc, hv⟩ := hr'
   exact ⟨.pointer (some ⟨lc.blk, lc.base + off, none⟩), w, by simp only [execOp, ho, hv, Sem.run_pure], by rw [hv] at hr; exact hr, Below.refl _ _⟩
  ·rename_i g hx
   refine ⟨_, _, h, QGo.val fun w0 o ho L a w rows' hρ hw hsub hG => ?_⟩
   have hr := hρ x (by simp [Op.operands])
   rw [hx] at hr
   have hr' := hr
   simp only [rep] at hr'
   exact ⟨.pointer (some ⟨g, 0, none⟩), w, by simp only [execOp, ho, hr', Sem.run_pure], by rw [hr'] at hr; exact hr, Below.refl _ _⟩
  ·cases h
 ·rename_i d x
  split at h
  ·rename_i n off len m e hx hd
   split at h
   ·rename_i hle
    refine ⟨_, _, h, QGo.val fun w0 o ho L a w rows' hρ hw hsub hG => ?_⟩
    have hr := hρ x (by simp [Op.operands])
    rw [hx] at hr
    simp only [rep] at hr
    obtain ⟨lc, cap, hlc, h1, h2, hv⟩ := hr
    refine ⟨.pointer (some ⟨lc.blk, lc.base + off, none⟩), w, ?_, by simp only [rep]; exact ⟨lc, hlc, rfl⟩, Below.refl _ _⟩
    simp only [execOp, ho, hv, Instr.arrayAt]
    have : ¬ len < m := by omega
    simp [run_underlying hd, this]
   ·cases h
  ·cases h
 ·exact evCall1_ok h
 ·rename_i t x
  split at h
  ·rename_i s ht hx
   refine ⟨_, _, h, fun w0 o ho L a w rows' hρ hw hsub hk hG _ => ?_⟩
   obtain ⟨hk1, hk2⟩ := hk (by simp)
   have hr := hρ x (by simp [Op.operands])
   rw [hx] at hr
   simp only [rep] at hr
   have hnew : (w.alloc (.stringIter s 0)).heap[w.heap.size]? = some (.stringIter s 0) := by
    show (w.heap.push (.stringIter s 0))[w.heap.size]? = _
    simp
   refine Goes.value (v := .pointer (some ⟨w.heap.size, 0, none⟩)) (w' := w.alloc (.stringIter s 0)) ?_ ⟨_, Ext.set hk2 ⟨w.heap.size, 0, 0⟩, ?_, ?_⟩
   ·simp only [execOp, ho, hr, Instr.range]
    simp only [Sem.run_bind, run_underlying ht, Result.andThen_ok, Sem.run_pure]
    rfl
   ·simp only [rep]
    exact ⟨_, lo_set_self (by rw [hw.size]; exact hk1), rfl⟩
   ·refine hw.fill ((Below.refl _ w).alloc (Nat.le_refl _) _) hk1 hk2 (Nat.le_refl _) ⟨Nat.le_refl _, by simp, fun j hj => ?_, fun _ j hj => ?_, fun _ j hj => ?_, fun s' p' hs' => ?_⟩
    ·exact absurd hj (Nat.not_lt_zero _)
    ·exact absurd hj (Nat.not_lt_zero _)
    ·exact absurd hj (Nat.not_lt_zero _)
    ·cases hs'
     exact ⟨rfl, hnew⟩
  ·cases h
 ·cases h
end
end Go.Ev
