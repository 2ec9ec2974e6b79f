/-
  Part of the proof; what its functions and lemmas say stands in the text.
-/
import Derived.Test.YtakonchpkchfhaaDoorEv6
set_option linter.unusedSimpArgs false
set_option linter.unusedVariables false
/-!
Operations without calls: evOp, and that the model does the same.
-/
namespace Go.Ev
open Go.RowKit
variable {α : Type}

abbrev OpK (α : Type) := SV → Option SV → Option α

def operandSV (tmps : List SV) : Operand → SV
  | .tmp t => tmps.getD t .any
  | .const v => ofValue v
  | .global g => .gl g
  | .func f => .clo f []

theorem operand_rep {L : List (Option Loc)} {tmps : List SV} {a : Act} (h : reps L tmps a.tmps.toList) (x : Operand) : rep L (operandSV tmps x) (a.eval x) := by
  cases x with
  | tmp t =>
    simp only [operandSV, Act.eval]
    rcases Nat.lt_or_ge t tmps.length with ht | ht
    · obtain ⟨v, h1, h2⟩ := reps_get h t ht
      have : a.tmps.getD t undef = v := by
        rw [Array.getElem?_toList] at h1
        simp [Array.getD_eq_getD_getElem?, h1]
      rw [this]; exact h2
    · rw [List.getD_eq_getElem?_getD, List.getElem?_eq_none ht]
      simp [rep]
  | const v => simp only [operandSV, Act.eval]; exact rep_ofValue L v
  | global g => simp only [operandSV, Act.eval, rep]
  | func f => simp only [operandSV, Act.eval, rep]; exact ⟨[], rfl, by simp [reps]⟩

/-- Content of a package-level variable. -/
def globOf : List (Nat × SV) → Nat → Option SV
  | [], _ => none
  | (g, c) :: l, n => if g = n then some c else globOf l n
theorem globOf_mem {G : List (Nat × SV)} {n : Nat} {c : SV} (h : globOf G n = some c) : (n, c) ∈ G := by
  induction G with
  | nil => cases h
  | cons x l ih =>
    obtain ⟨g, d⟩ := x
    simp only [globOf] at h
    split at h
    · rename_i e; subst e; cases h; exact List.mem_cons_self
    · exact List.mem_cons_of_mem _ (ih h)

def evLoad (P : Program) (G : List (Nat × SV)) (rows : Rows) (t : TypeId) (x : SV) (K : OpK α) : Option α :=
  match x with
  | .ptr r off => match rows[r]? with
    | some (some row) => loadK P t row.con off (fun s => K s none)
    | _ => none
  | .gl g => match globOf G g with
    | some c => loadK P t c 0 (fun s => K s none)
    | none => none
  | _ => none

section
variable {P : Program} {G : List (Nat × SV)} {ρ : Operand → SV} {rows : Rows} {k : Nat}

theorem evLoad_ok {t : TypeId} {x : Operand} {K : OpK α} {r : α} (h : evLoad P G rows t (ρ x) K = some r) : ∃ s row, K s row = some r ∧ QGo P G ρ rows k (.load t x) s row := by
  unfold evLoad at h
  split at h
  · rename_i n off hx
    split at h
    · rename_i row hrow
      obtain ⟨s, hs, hgo⟩ := loadK_ok h
      refine ⟨s, none, hs, QGo.val fun w0 o ho L a w rows' hρ hw hsub hG => ?_⟩
      have hr := hρ x (by simp [Op.operands])
      rw [hx] at hr
      simp only [rep] at hr
      obtain ⟨l, hl, hv⟩ := hr
      obtain ⟨v, h1, h2⟩ := hgo L w l.blk l.base (fun m hm => (hw.row n row l (hsub n row hrow) hl).read off m hm)
      refine ⟨v, w, ?_, h2, Below.refl _ _⟩
      simp only [execOp, ho, hv, Instr.loadAt, Instr.sureAddr]
      simp [h1]
    · cases h
  · rename_i g hx
    split at h
    · rename_i c hc
      obtain ⟨s, hs, hgo⟩ := loadK_ok h
      refine ⟨s, none, hs, QGo.val fun w0 o ho L a w rows' hρ hw hsub hG => ?_⟩
      have hr := hρ x (by simp [Op.operands])
      rw [hx] at hr
      simp only [rep] at hr
      obtain ⟨hg, hcell⟩ := hG g c (globOf_mem hc)
      have read : ∀ n, 0 + n ≤ c.len → ∃ cs : List Value, cs.length = n ∧ ∀ j, j < n → ∃ v, cs[j]? = some v ∧ w.cell? ⟨g, 0 + 0 + j, none⟩ = some v ∧ rep L (c.cell (0 + j)) v := by
        intro n
        induction n with
        | zero => intro _; exact ⟨[], rfl, fun j hj => by cases hj⟩
        | succ n ih =>
          intro hn
          obtain ⟨cs, h1, h2⟩ := ih (by omega)
          obtain ⟨v, h3, h4⟩ := hcell n (by omega)
          have h3' : w.cell? ⟨g, n, none⟩ = some v := by rw [hw.below.cell (p := ⟨g, n, none⟩) hg]; exact h3
          refine ⟨cs ++ [v], by simp [h1], fun j hj => ?_⟩
          rcases Nat.lt_or_ge j n with hlt | hge
          · obtain ⟨u, h5, h6, h7⟩ := h2 j hlt
            exact ⟨u, by rw [List.getElem?_append_left (by omega)]; exact h5, h6, h7⟩
          · have : j = n := by omega
            subst this
            exact ⟨v, by rw [List.getElem?_append_right (by omega)]; simp [h1], by simpa using h3', by simpa using rep_mono (L := []) (fun r p hp => by simp [lo] at hp) h4⟩
      obtain ⟨v, h1, h2⟩ := hgo L w g 0 read
      refine ⟨v, w, ?_, h2, Below.refl _ _⟩
      simp only [execOp, ho, hr, Instr.loadAt, Instr.sureAddr]
      simp [h1]
    · cases h
  · cases h

def evField (P : Program) (t : TypeId) (x : SV) (f : Nat) (K : OpK α) : Option α :=
  match x, P.underlying t with
  | .agg l, some (.struct fs) => match fs[f]? with
    | some fd => loadK P fd.type (.agg l) fd.offset (fun s => K s none)
    | none => none
  | _, _ => none

theorem evField_ok {t : TypeId} {x : Operand} {f : Nat} {K : OpK α} {r : α} (h : evField P t (ρ x) f K = some r) : ∃ s row, K s row = some r ∧ QGo P G ρ rows k (.field t x f) s row := by
  unfold evField at h
  split at h
  · rename_i l fs hx hfs
    split at h
    · rename_i fd hfd
      unfold loadK at h
      split at h
      · rename_i d n hd hn
        split at h
        · rename_i ha
          obtain ⟨s, hs, hle, hrep⟩ := partK_ok h
          refine ⟨s, none, hs, QGo.val fun w0 o ho L a w rows' hρ hw hsub hG => ?_⟩
          have hr := hρ x (by simp [Op.operands])
          rw [hx] at hr
          simp only [rep] at hr
          obtain ⟨cs, hv, hcs⟩ := hr
          have hlen : cs.length = l.length := reps_length hcs
          simp only [SV.len] at hle
          refine ⟨.agg ⟨(cs.drop fd.offset).take n⟩, w, ?_, hrep L _ (by simp; omega) fun j hj => ?_, Below.refl _ _⟩
          · simp only [execOp, ho, hv]
            unfold Instr.field
            simp only [Sem.run_bind, run_underlying hfs, Result.andThen_ok, hfd, asAgg, Sem.run_pure]
            unfold part
            simp only [Sem.run_bind, run_isAgg hd, Result.andThen_ok, ha, if_true, run_sizeT hn, Sem.run_pure]
            simp
          · obtain ⟨v, h1, h2⟩ := reps_get hcs (fd.offset + j) (by omega)
            exact ⟨v, by simp [hj, List.getElem?_drop, h1], h2⟩
        · rename_i ha
          split at h
          · rename_i hoff
            refine ⟨_, none, h, QGo.val fun w0 o ho L a w rows' hρ hw hsub hG => ?_⟩
            have hr := hρ x (by simp [Op.operands])
            rw [hx] at hr
            simp only [rep] at hr
            obtain ⟨cs, hv, hcs⟩ := hr
            obtain ⟨v, h1, h2⟩ := reps_get hcs fd.offset hoff
            refine ⟨v, w, ?_, h2, Below.refl _ _⟩
            simp only [execOp, ho, hv]
            unfold Instr.field
            simp only [Sem.run_bind, run_underlying hfs, Result.andThen_ok, hfd, asAgg, Sem.run_pure]
            unfold part
            simp only [Sem.run_bind, run_isAgg hd, Result.andThen_ok, ha, Bool.false_eq_true, if_false]
            have : (⟨cs⟩ : Array Value)[fd.offset]? = some v := by simpa using h1
            rw [this]
            rfl
          · cases h
      · cases h
    · cases h
  · cases h

def evFieldAddr (P : Program) (t : TypeId) (x : SV) (f : Nat) (K : OpK α) : Option α :=
  match x, P.underlying t with
  | .ptr r off, some (.struct fs) => match fs[f]? with
    | some fd => match sizeT P fd.type with
      | some n => if n = 0 then none else K (.ptr r (off + fd.offset)) none
      | none => none
    | none => none
  | _, _ => none

theorem evFieldAddr_ok {t : TypeId} {x : Operand} {f : Nat} {K : OpK α} {r : α} (h : evFieldAddr P t (ρ x) f K = some r) : ∃ s row, K s row = some r ∧ QGo P G ρ rows k (.fieldAddr t x f) s row := by
  unfold evFieldAddr at h
  split at h
  · rename_i n off fs hx hfs
    split at h
    · rename_i fd hfd
      split at h
      · rename_i sz hsz
        split at h
        · cases h
        · rename_i h0
          refine ⟨_, none, h, QGo.val fun w0 o ho L a w rows' hρ hw hsub hG => ?_⟩
          have hr := hρ x (by simp [Op.operands])
          rw [hx] at hr
          simp only [rep] at hr
          obtain ⟨l, hl, hv⟩ := hr
          refine ⟨.pointer (some ⟨l.blk, l.base + (off + fd.offset), none⟩), w, ?_, by simp only [rep]; exact ⟨l, hl, rfl⟩, Below.refl _ _⟩
          simp only [execOp, ho, hv]
          unfold Instr.fieldAt
          simp only [Sem.run_bind, run_underlying hfs, Result.andThen_ok, hfd, Instr.sureAddr, Sem.run_pure]
          unfold fieldPlace
          simp only [Sem.run_bind, run_sizeT hsz, Result.andThen_ok, h0, if_false, Sem.run_pure, lit_add, Nat.add_assoc]
      · cases h
    · cases h
  · cases h

def evIndexAddr (P : Program) (t : TypeId) (x i : SV) (K : OpK α) : Option α :=
  match x, P.underlying t, idx i with
  | .ptr r off, some (.array len e), some n => match sizeT P e with
    | some z => if 0 ≤ n ∧ n < (len : Int) then K (.ptr r (off + n.toNat * z)) none else none
    | none => none
  | .sl r off len, some (.slice e), some n => match sizeT P e with
    | some z => if 0 ≤ n ∧ n < (len : Int) then K (.ptr r (off + n.toNat * z)) none else none
    | none => none
  | _, _, _ => none

theorem evIndexAddr_ok {t : TypeId} {x i : Operand} {K : OpK α} {r : α} (h : evIndexAddr P t (ρ x) (ρ i) K = some r) : ∃ s row, K s row = some r ∧ QGo P G ρ rows k (.indexAddr t x i) s row := by
  unfold evIndexAddr at h
  split at h
  · rename_i n off len e m hx ht hi
    split at h
    · rename_i z hz
      split at h
      · rename_i hb
        refine ⟨_, none, h, QGo.val fun w0 o ho L a w rows' hρ hw hsub hG => ?_⟩
        have hr := hρ x (by simp [Op.operands])
        have hri := hρ i (by simp [Op.operands])
        obtain ⟨ki, hvi⟩ := idx_ok hi L _ hri
        rw [hx] at hr
        simp only [rep] at hr
        obtain ⟨l, hl, hv⟩ := hr
        refine ⟨.pointer (some ⟨l.blk, l.base + (off + m.toNat * z), none⟩), w, ?_, by simp only [rep]; exact ⟨l, hl, rfl⟩, Below.refl _ _⟩
        simp only [execOp, ho, hv, hvi]
        unfold Instr.indexAt
        simp only [Sem.run_bind, asIntOf, Sem.run_pure, run_underlying ht, Result.andThen_ok, Instr.sureAddr, hb, and_self, if_true, run_sizeT hz, lit_add, Nat.add_assoc]
      · cases h
    · cases h
  · rename_i n off len e m hx ht hi
    split at h
    · rename_i z hz
      split at h
      · rename_i hb
        refine ⟨_, none, h, QGo.val fun w0 o ho L a w rows' hρ hw hsub hG => ?_⟩
        have hr := hρ x (by simp [Op.operands])
        have hri := hρ i (by simp [Op.operands])
        obtain ⟨ki, hvi⟩ := idx_ok hi L _ hri
        rw [hx] at hr
        simp only [rep] at hr
        obtain ⟨l, cap, hl, _, _, hv⟩ := hr
        refine ⟨.pointer (some ⟨l.blk, l.base + (off + m.toNat * z), none⟩), w, ?_, by simp only [rep]; exact ⟨l, hl, rfl⟩, Below.refl _ _⟩
        simp only [execOp, ho, hv, hvi]
        unfold Instr.indexAt
        simp only [Sem.run_bind, asIntOf, Sem.run_pure, run_underlying ht, Result.andThen_ok, hb, and_self, if_true, run_sizeT hz, lit_add, Nat.add_assoc]
      · cases h
    · cases h
  · cases h

/-- An element of an array that is a value; a letter of a text. -/
def evIndex (P : Program) (t : TypeId) (x i : SV) (K : OpK α) : Option α :=
  match P.underlying t, idx i with
  | some (.array len e), some n => match P.underlying e, sizeT P e with
    | some d, some z => if isAggD d then none else if z = 1 then if 0 ≤ n ∧ n < (len : Int) then if n.toNat < x.len then K (x.cell n.toNat) none else none else none else none
    | _, _ => none
  | some .string, some n => match x with
    | .c (.string s) => if 0 ≤ n then match s[n.toNat]? with | some b => K (.u8 b.toBitVec) none | none => none else none
    | _ => none
  | _, _ => none

theorem rep_arr {L : List (Option Loc)} {x : SV} {v : Value} (h : rep L x v) {n : Nat} (hn : n < x.len) : ∃ cs u, v = .agg ⟨cs⟩ ∧ cs[n]? = some u ∧ rep L (x.cell n) u := by
  cases x <;> simp only [SV.len, Nat.not_lt_zero] at hn
  case agg l =>
    simp only [rep] at h
    obtain ⟨cs, rfl, hr⟩ := h
    obtain ⟨u, h1, h2⟩ := reps_get hr n hn
    exact ⟨cs, u, rfl, h1, h2⟩
  case ai q l =>
    simp only [rep] at h
    subst h
    exact ⟨_, vi q (l.getD n 0), rfl, by simp [hn], by simp only [SV.cell, rep, vi]⟩
  case a8 l =>
    simp only [rep] at h
    subst h
    exact ⟨_, v8 (l.getD n 0), rfl, by simp [hn], by simp only [SV.cell, rep, v8]⟩
  case a64 l =>
    simp only [rep] at h
    subst h
    exact ⟨_, v64 (l.getD n 0), rfl, by simp [hn], by simp only [SV.cell, rep, v64]⟩

theorem evIndex_ok {t : TypeId} {x i : Operand} {K : OpK α} {r : α} (h : evIndex P t (ρ x) (ρ i) K = some r) : ∃ s row, K s row = some r ∧ QGo P G ρ rows k (.index t x i) s row := by
  unfold evIndex at h
  split at h
  · rename_i len e n ht hi
    split at h
    · rename_i d z hd hz
      split at h
      · cases h
      · rename_i ha
        split at h
        · rename_i hz1
          subst hz1
          split at h
          · rename_i hb
            split at h
            · rename_i hlen
              refine ⟨_, none, h, QGo.val fun w0 o ho L a w rows' hρ hw hsub hG => ?_⟩
              have hr := hρ x (by simp [Op.operands])
              have hri := hρ i (by simp [Op.operands])
              obtain ⟨ki, hvi⟩ := idx_ok hi L _ hri
              obtain ⟨cs, u, hv, hu, hrep⟩ := rep_arr hr hlen
              refine ⟨u, w, ?_, hrep, Below.refl _ _⟩
              simp only [execOp, ho, hv, hvi]
              unfold Instr.index
              simp only [Sem.run_bind, asIntOf, Sem.run_pure, run_underlying ht, Result.andThen_ok, hb, and_self, if_true, run_sizeT hz, Nat.mul_one]
              unfold part
              simp only [Sem.run_bind, run_isAgg hd, Result.andThen_ok, ha, Bool.false_eq_true, if_false]
              have : (⟨cs⟩ : Array Value)[n.toNat]? = some u := by simpa using hu
              rw [this]; rfl
            · cases h
          · cases h
        · cases h
    · cases h
  · rename_i n ht hi
    split at h
    · rename_i s hx
      split at h
      · rename_i h0
        split at h
        · rename_i b hb
          refine ⟨_, none, h, QGo.val fun w0 o ho L a w rows' hρ hw hsub hG => ?_⟩
          have hr := hρ x (by simp [Op.operands])
          have hri := hρ i (by simp [Op.operands])
          obtain ⟨ki, hvi⟩ := idx_ok hi L _ hri
          rw [hx] at hr
          simp only [rep] at hr
          refine ⟨.int .u8 (b.toNat : Int), w, ?_, by simp only [rep]; rfl, Below.refl _ _⟩
          simp only [execOp, ho, hr, hvi]
          unfold Instr.index
          simp only [Sem.run_bind, asIntOf, Sem.run_pure, run_underlying ht, Result.andThen_ok, h0, if_true, hb]
        · cases h
      · cases h
    · cases h
  · cases h
end
end Go.Ev
