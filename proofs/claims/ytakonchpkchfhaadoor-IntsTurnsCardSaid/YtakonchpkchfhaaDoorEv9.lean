/-
  Part of the proof; what its functions and lemmas say stands in the text.
-/
import Derived.Test.YtakonchpkchfhaaDoorEv8
import Derived.Laws.Tables
import Derived.Great.BuildSlice
import Derived.Laws.MakeOwn
set_option linter.unusedSimpArgs false
set_option linter.unusedVariables false
/-!
Operations that lay memory; the rest of those without calls.
-/
namespace Go.Ev
open Go.RowKit
variable {α : Type}

/-- The cells of a value one by one. -/
def cellsL : SV → Option (List SV)
  | .agg l => some l
  | .any => none
  | .tup _ => none
  | .ai _ _ => none
  | .a8 _ => none
  | .a64 _ => none
  | .c (.agg _) => none
  | s => some [s]

def setAllS : List SV → Nat → List SV → List SV
  | l, _, [] => l
  | l, o, s :: t => setAllS (l.set o s) (o + 1) t
def setAllV : List Value → Nat → List Value → List Value
  | l, _, [] => l
  | l, o, s :: t => setAllV (l.set o s) (o + 1) t

theorem reps_setAll {L : List (Option Loc)} : ∀ {ss : List SV} {us : List Value} {l : List SV} {cs : List Value} (o : Nat), reps L l cs → reps L ss us → reps L (setAllS l o ss) (setAllV cs o us)
  | [], us, l, cs, o, h, hs => by simp only [reps] at hs; subst hs; simpa [setAllS, setAllV] using h
  | s :: ss, us, l, cs, o, h, hs => by
    simp only [reps] at hs
    obtain ⟨u, t, rfl, hu, hs⟩ := hs
    simp only [setAllS, setAllV]
    exact reps_setAll (o + 1) (reps_set o h hu) hs

theorem foldl_set (off : Nat) : ∀ (us : List Value) (i : Nat) (cells : Array Value), ((us.zipIdx i).foldl (fun (cs : Array Value) (p : Value × Nat) => cs.setIfInBounds (off + p.2) p.1) cells).toList = setAllV cells.toList (off + i) us
  | [], i, cells => by simp [setAllV]
  | u :: us, i, cells => by
    simp only [List.zipIdx_cons, List.foldl_cons, setAllV]
    rw [foldl_set off us (i + 1)]
    simp [Nat.add_assoc]

theorem setAllV_length : ∀ (us : List Value) (cs : List Value) (o : Nat), (setAllV cs o us).length = cs.length
  | [], _, _ => rfl
  | u :: us, cs, o => by simp only [setAllV]; rw [setAllV_length us]; simp

/-- The parts are filled in. -/
def fillS (place : Nat → Option (Nat × Nat)) : List SV → List (Nat × SV) → Option (List SV)
  | cells, [] => some cells
  | cells, (i, s) :: rest =>
    match place i, cellsL s with
    | some (off, size), some ss => if ss.length ≠ size ∨ cells.length < off + ss.length then none else fillS place (setAllS cells off ss) rest
    | _, _ => none

theorem cellsL_ok {L : List (Option Loc)} {s : SV} {ss : List SV} {v : Value} (h : cellsL s = some ss) (hv : rep L s v) : reps L ss v.cells.toList := by
  have one : ∀ u : Value, u.cells = #[u] → rep L s u → ss = [s] → reps L ss u.cells.toList := by
    intro u hu hr e
    rw [hu, e]
    simp only [reps]
    exact ⟨u, [], rfl, hr, rfl⟩
  cases s with
  | agg l =>
    simp only [cellsL, Option.some.injEq] at h; subst h
    simp only [rep] at hv
    obtain ⟨cs, rfl, hr⟩ := hv
    exact hr
  | any => cases h
  | tup l => cases h
  | ai k l => cases h
  | a8 l => cases h
  | a64 l => cases h
  | c u =>
    have hv' := hv
    simp only [rep] at hv; subst hv
    cases v with
    | agg cs => cases h
    | _ => simp only [cellsL, Option.some.injEq] at h; exact one _ rfl hv' h.symm
  | nan k => have hv' := hv; simp only [rep] at hv; obtain ⟨x, rfl, _⟩ := hv; simp only [cellsL, Option.some.injEq] at h; exact one _ rfl hv' h.symm
  | sl r o n => have hv' := hv; simp only [rep] at hv; obtain ⟨_, x, _, _, _, rfl⟩ := hv; simp only [cellsL, Option.some.injEq] at h; exact one _ rfl hv' h.symm
  | clo f l => have hv' := hv; simp only [rep] at hv; obtain ⟨x, rfl, _⟩ := hv; simp only [cellsL, Option.some.injEq] at h; exact one _ rfl hv' h.symm
  | ptr => have hv' := hv; simp only [rep] at hv; obtain ⟨_, _, rfl⟩ := hv; simp only [cellsL, Option.some.injEq] at h; exact one _ rfl hv' h.symm
  | bool | i | u8 | u16 | u32 | u64 | f | gl => have hv' := hv; simp only [rep] at hv; subst hv; simp only [cellsL, Option.some.injEq] at h; exact one _ rfl hv' h.symm

theorem fillS_ok {L : List (Option Loc)} {place : Nat → Option (Nat × Nat)} : ∀ {parts : List (Nat × SV)} {cells out : List SV} {pv : List (Nat × Value)} {cs : List Value}, fillS place cells parts = some out →
    reps L cells cs → pv.length = parts.length → (∀ j, j < parts.length → ∃ i s v, parts[j]? = some (i, s) ∧ pv[j]? = some (i, v) ∧ rep L s v) →
    ∃ os, Instr.fill place ⟨cs⟩ pv = some ⟨os⟩ ∧ reps L out os
  | [], cells, out, [], cs, h, hc, _, _ => by
    simp only [fillS, Option.some.injEq] at h; subst h
    exact ⟨cs, rfl, hc⟩
  | [], cells, out, p :: pv, cs, h, hc, hl, _ => by simp at hl
  | q :: parts, cells, out, [], cs, h, hc, hl, _ => by simp at hl
  | (i, s) :: parts, cells, out, p :: pv, cs, h, hc, hl, hp => by
    obtain ⟨i', s', v, h1, h2, h3⟩ := hp 0 (by simp)
    simp only [List.getElem?_cons_zero, Option.some.injEq, Prod.mk.injEq] at h1 h2
    obtain ⟨rfl, rfl⟩ := h1
    subst h2
    rw [fillS] at h
    split at h
    · rename_i off size ss hpl hss
      split at h
      · cases h
      · rename_i hb
        have hcv := cellsL_ok hss h3
        have hvl : v.cells.size = ss.length := by have := reps_length hcv; simpa using this
        have hcl := reps_length hc
        obtain ⟨os, h4, h5⟩ := fillS_ok (pv := pv) (cs := setAllV cs off v.cells.toList) h (reps_setAll off hc hcv) (by simpa using hl) (fun j hj => by simpa using hp (j + 1) (by simpa using hj))
        refine ⟨os, ?_, h5⟩
        rw [Instr.fill]
        simp only [hpl]
        have hc1 : ¬ (v.cells.size ≠ size || decide (off + v.cells.size > (⟨cs⟩ : Array Value).size)) = true := by
          simp only [Bool.or_eq_true, decide_eq_true_eq, not_or]
          exact ⟨by omega, by simp only [List.size_toArray]; omega⟩
        rw [if_neg hc1, ← h4]
        congr 1
        apply Array.ext'
        rw [← Array.foldl_toList, Array.toList_zipIdx, foldl_set]
        simp
    · cases h

/-- Where the parts of a struct or an array go. -/
def placesOf (P : Program) (t : TypeId) : Option (Nat → Option (Nat × Nat)) :=
  match P.info? t, P.underlying t with
  | some _, some (.array _ e) => match P.info? e with
    | some ie => some (fun i => some (i * ie.size, ie.size))
    | none => none
  | some _, some (.struct fields) =>
    match fields.toList.mapM (fun f => (P.info? f.type).map fun i => (f.offset, i.size)) with
    | some places => some (places.toArray[·]?)
    | none => none
  | _, _ => none
theorem placesOf_built {P : Program} {t : TypeId} {place : Nat → Option (Nat × Nat)} {z : Value} (h : placesOf P t = some place) (hz : zeroT P t = some z) (parts : List (Nat × Value)) : P.built t parts = Instr.fill place z.cells parts := by
  unfold placesOf at h
  unfold zeroT at hz
  unfold Program.built
  split at h
  · rename_i it n e hi hu
    rw [hi] at hz
    simp only [Option.bind_some] at hz
    split at h
    · rename_i ie hie
      simp only [Option.some.injEq] at h; subst h
      simp only [hi, hu, hz, hie]
    · cases h
  · rename_i it fields hi hu
    rw [hi] at hz
    simp only [Option.bind_some] at hz
    split at h
    · rename_i places hp
      simp only [Option.some.injEq] at h; subst h
      simp only [hi, hu, hz, hp]
    · cases h
  · cases h

def partsSV (ρ : Operand → SV) : List (Nat × Operand) → List (Nat × SV)
  | [] => []
  | (i, x) :: l => (i, ρ x) :: partsSV ρ l
theorem partsSV_get {ρ : Operand → SV} : ∀ (l : List (Nat × Operand)) (j : Nat), j < l.length → ∃ i x, l[j]? = some (i, x) ∧ (partsSV ρ l)[j]? = some (i, ρ x)
  | [], j, hj => by cases hj
  | (i, x) :: l, 0, _ => ⟨i, x, rfl, rfl⟩
  | (i, x) :: l, j + 1, hj => by simpa [partsSV] using partsSV_get l j (by simpa using hj)
theorem partsSV_length {ρ : Operand → SV} : ∀ (l : List (Nat × Operand)), (partsSV ρ l).length = l.length
  | [] => rfl
  | (i, x) :: l => by simp [partsSV, partsSV_length l]

def evBuild (P : Program) (ρ : Operand → SV) (t : TypeId) (parts : List (Nat × Operand)) (K : OpK α) : Option α :=
  match placesOf P t, zeroT P t with
  | some place, some (.agg ⟨zs⟩) => match fillS place (ofScalars zs) (partsSV ρ parts) with
    | some out => K (norm out) none
    | none => none
  | _, _ => none

/-- A content of elements of a type. -/
def normT (d : TypeDesc) (l : List SV) : SV :=
  match d with
  | .int .u64 => match all64 l with | some t => .a64 t | none => .agg l
  | .int .u8 => match all8 l with | some t => .a8 t | none => .agg l
  | .int k => match allI k l with | some t => .ai k t | none => .agg l
  | _ => .agg l

def evBuildSlice (P : Program) (ρ : Operand → SV) (t : TypeId) (len : Nat) (parts : List (Nat × Operand)) (k : Nat) (K : OpK α) : Option α :=
  match P.underlying t with
  | some (.slice e) => match P.underlying e, sizeT P e, zeroT P e with
    | some d, some size, some z =>
      if len * size > 4096 ∨ len * size = 0 then none else
      match fillS (fun i => some (i * size, size)) (ofScalars (((Array.range (len * size)).map (z.cells[· % z.cells.size]!)).toList)) (partsSV ρ parts) with
      | some out => K (.sl k 0 len) (some (normT d out))
      | none => none
    | _, _, _ => none
  | _ => none

section
variable {P : Program} {G : List (Nat × SV)} {ρ : Operand → SV} {rows : Rows} {k : Nat}

theorem parts_rep {L : List (Option Loc)} {a : Act} {parts : Array (Nat × Operand)} (h : ∀ x ∈ (parts.toList.map (·.2)).toArray, rep L (ρ x) (a.eval x)) :
    ∀ j, j < (partsSV ρ parts.toList).length → ∃ i s v, (partsSV ρ parts.toList)[j]? = some (i, s) ∧ (parts.map fun (i, x) => (i, a.eval x)).toList[j]? = some (i, v) ∧ rep L s v := by
  intro j hj
  rw [partsSV_length] at hj
  obtain ⟨i, x, h1, h2⟩ := partsSV_get (ρ := ρ) parts.toList j hj
  refine ⟨i, ρ x, a.eval x, h2, ?_, h x ?_⟩
  · rw [Array.toList_map, List.getElem?_map, h1]; rfl
  · rw [List.mem_toArray, List.mem_map]
    exact ⟨(i, x), List.mem_of_getElem? h1, rfl⟩

theorem evBuild_ok {t : TypeId} {parts : Array (Nat × Operand)} {K : OpK α} {r : α} (h : evBuild P ρ t parts.toList K = some r) : ∃ s row, K s row = some r ∧ QGo P G ρ rows k (.build t parts) s row := by
  unfold evBuild at h
  split at h
  · rename_i place zs hpl hz
    split at h
    · rename_i out hout
      refine ⟨_, _, h, QGo.val fun w0 o ho L a w rows' hρ hw hsub hG => ?_⟩
      obtain ⟨os, h1, h2⟩ := fillS_ok hout (reps_ofScalars L zs) (by simp [partsSV_length]) (parts_rep (fun x hx => hρ x (by simpa [Op.operands] using hx)))
      refine ⟨.agg ⟨os⟩, w, ?_, rep_norm h2, Below.refl _ _⟩
      simp only [execOp, ho]
      rw [Sem.run_bind, run_build w t _ ⟨os⟩ (by rw [placesOf_built hpl hz]; exact h1)]
      rfl
    · cases h
  · cases h

theorem normT_ok {L : List (Option Loc)} {d : TypeDesc} {l : List SV} {vs : List Value} (h : reps L l vs) : (normT d l).len = vs.length ∧ ∀ j, j < (normT d l).len → ∃ u, (⟨vs⟩ : Array Value)[j]? = some u ∧ rep L ((normT d l).cell j) u := by
  have base : (SV.agg l).len = vs.length ∧ ∀ j, j < (SV.agg l).len → ∃ u, (⟨vs⟩ : Array Value)[j]? = some u ∧ rep L ((SV.agg l).cell j) u :=
    ⟨by simp [SV.len, reps_length h], fun j hj => by simpa [SV.cell] using reps_get h j (by simpa [SV.len] using hj)⟩
  unfold normT
  split
  · split
    · rename_i t ht
      have e := reps_all64 ht h
      subst e
      refine ⟨by simp [SV.len], fun j hj => ?_⟩
      have hj' : j < t.length := by simpa [SV.len] using hj
      exact ⟨v64 (t.getD j 0), by simp [hj'], by simp only [SV.cell, rep, v64]⟩
    · exact base
  · split
    · rename_i t ht
      have e := reps_all8 ht h
      subst e
      refine ⟨by simp [SV.len], fun j hj => ?_⟩
      have hj' : j < t.length := by simpa [SV.len] using hj
      exact ⟨v8 (t.getD j 0), by simp [hj'], by simp only [SV.cell, rep, v8]⟩
    · exact base
  · split
    · rename_i q _ _ _ t ht
      have e := reps_allI ht h
      subst e
      refine ⟨by simp [SV.len], fun j hj => ?_⟩
      have hj' : j < t.length := by simpa [SV.len] using hj
      exact ⟨vi q (t.getD j 0), by simp [hj'], by simp only [SV.cell, rep, vi]⟩
    · exact base
  · exact base

/-- An operation that lays one new block. -/
theorem QGo.new {op : Op} {s : SV} {con : SV} (h : ∀ (w0 : World) (o : Oper), o.op = op → ∀ (L : List (Option Loc)) (a : Act) (w : World) (rows' : Rows), (∀ x ∈ op.operands, rep L (ρ x) (a.eval x)) → RowsOK w0 L rows' w → sub rows rows' →
    ∃ v cells ty, (execOp a.eval o).run P w = .ok (.value v) (w.alloc (.cells cells ty)) ∧ con.len = cells.size ∧ (∀ j, j < con.len → ∃ u, cells[j]? = some u ∧ rep L (con.cell j) u) ∧
      (∀ L' : List (Option Loc), lo L' k = some ⟨w.heap.size, 0, cells.size⟩ → rep L' s v)) : QGo P G ρ rows k op s (some con) := by
  intro w0 o ho L a w rows' hρ hw hsub hk hG _
  obtain ⟨v, cells, ty, h1, h2, h3, h4⟩ := h w0 o ho L a w rows' hρ hw hsub
  obtain ⟨hk1, hk2⟩ := hk (by simp)
  exact Goes.value h1 ⟨_, Ext.set hk2 _, h4 _ (lo_set_self (by rw [hw.size]; exact hk1)), hw.alloc hk1 hk2 cells ty h2 h3⟩

theorem evBuildSlice_ok {t : TypeId} {len : Nat} {parts : Array (Nat × Operand)} {K : OpK α} {r : α} (h : evBuildSlice P ρ t len parts.toList k K = some r) : ∃ s row, K s row = some r ∧ QGo P G ρ rows k (.buildSlice t len parts) s row := by
  unfold evBuildSlice at h
  split at h
  · rename_i e hu
    split at h
    · rename_i d size z hd hsize hz
      split at h
      · cases h
      · rename_i hb
        split at h
        · rename_i out hout
          refine ⟨_, _, h, QGo.new fun w0 o ho L a w rows' hρ hw hsub => ?_⟩
          obtain ⟨os, h1, h2⟩ := fillS_ok hout (reps_ofScalars L _) (by simp [partsSV_length]) (parts_rep (fun x hx => hρ x (by simpa [Op.operands] using hx)))
          unfold sizeT at hsize
          unfold zeroT at hz
          cases hi : P.info? e with
          | none => rw [hi] at hz; cases hz
          | some ie =>
            rw [hi] at hz hsize
            simp only [Option.bind_some, Option.map_some, Option.some.injEq] at hz hsize
            subst hsize
            have hos : os.length = len * ie.size := by
              have e1 := reps_length h2
              have e2 : ∀ (place : Nat → Option (Nat × Nat)) (ps : List (Nat × SV)) (cs out : List SV), fillS place cs ps = some out → out.length = cs.length := by
                intro place ps
                induction ps with
                | nil => intro cs out h; simp only [fillS, Option.some.injEq] at h; rw [h]
                | cons p ps ih =>
                  obtain ⟨i, s⟩ := p
                  intro cs out h
                  rw [fillS] at h
                  split at h
                  · split at h
                    · cases h
                    · rw [ih _ _ h]
                      have : ∀ (us : List SV) (cs : List SV) (o : Nat), (setAllS cs o us).length = cs.length := by
                        intro us
                        induction us with
                        | nil => intro _ _; rfl
                        | cons u us ih => intro cs o; simp only [setAllS]; rw [ih]; simp
                      exact this _ _ _
                  · cases h
              have e3 := e2 _ _ _ _ hout
              have e4 := reps_length (reps_ofScalars L ((Array.map (fun x => z.cells[x % z.cells.size]!) (Array.range (len * ie.size))).toList))
              rw [e1, e3, ← e4]; simp
            refine ⟨.slice (some ⟨w.heap.size, 0, none⟩) len len, ⟨os⟩, e, ?_, (normT_ok h2).1, (normT_ok h2).2, fun L' hL' => ?_⟩
            · simp only [execOp, ho]
              have hpos : ¬ len * ie.size = 0 := by omega
              rw [Sem.run_bind, run_buildSlice w t e len _ ⟨os⟩ ie z hu hi hz (by omega) hpos h1]
              rfl
            · simp only [rep]
              refine ⟨_, len, hL', Nat.le_refl _, ?_, rfl⟩
              have : 0 < ie.size := Nat.pos_of_ne_zero (fun e0 => by rw [e0] at hb; simp at hb)
              simp only [Nat.zero_add, List.size_toArray, hos]
              exact Nat.le_mul_of_pos_right _ this
        · cases h
    · cases h
  · cases h

def okCells : SV → Bool
  | .any => false
  | .tup _ => false
  | .c (.agg _) => false
  | _ => true
theorem okCells_ok {L : List (Option Loc)} {s : SV} {v : Value} (h : okCells s = true) (hr : rep L s v) : s.cells.len = v.cells.size ∧ ∀ j, j < s.cells.len → ∃ u, v.cells[j]? = some u ∧ rep L (s.cells.cell j) u := by
  have := rep_cells hr (fun l e => by subst e; cases h) (fun e => by subst e; cases h) (fun u e => by subst e; cases u <;> first | rfl | cases h)
  exact ⟨this.1.symm, this.2⟩

def evAlloc (P : Program) (t : TypeId) (k : Nat) (K : OpK α) : Option α :=
  match zeroT P t with
  | some z => if okCells (ofValue z) then K (.ptr k 0) (some (ofValue z).cells) else none
  | none => none
theorem evAlloc_ok {t : TypeId} {K : OpK α} {r : α} (h : evAlloc P t k K = some r) : ∃ s row, K s row = some r ∧ QGo P G ρ rows k (.alloc t) s row := by
  unfold evAlloc at h
  split at h
  · rename_i z hz
    split at h
    · rename_i hok
      refine ⟨_, _, h, QGo.new fun w0 o ho L a w rows' hρ hw hsub => ?_⟩
      obtain ⟨h1, h2⟩ := okCells_ok hok (rep_ofValue L z)
      refine ⟨.pointer (some ⟨w.heap.size, 0, none⟩), z.cells, t, ?_, h1, h2, fun L' hL' => by simp only [rep]; exact ⟨_, hL', by simp⟩⟩
      simp only [execOp, ho, Instr.alloc]
      simp only [Sem.run_bind, run_zeroT hz, Result.andThen_ok, newVar, newRow, run_newObj, Sem.run_pure]
      rfl
    · cases h
  · cases h

def evBox (x : SV) (k : Nat) (K : OpK α) : Option α := if okCells x then K (.ptr k 0) (some x.cells) else none
theorem evBox_ok {t : TypeId} {x : Operand} {K : OpK α} {r : α} (h : evBox (ρ x) k K = some r) : ∃ s row, K s row = some r ∧ QGo P G ρ rows k (.box t x) s row := by
  unfold evBox at h
  split at h
  · rename_i hok
    refine ⟨_, _, h, QGo.new fun w0 o ho L a w rows' hρ hw hsub => ?_⟩
    obtain ⟨h1, h2⟩ := okCells_ok hok (hρ x (by simp [Op.operands]))
    refine ⟨.pointer (some ⟨w.heap.size, 0, none⟩), (a.eval x).cells, t, ?_, h1, h2, fun L' hL' => by simp only [rep]; exact ⟨_, hL', by simp⟩⟩
    simp only [execOp, ho, Instr.box]
    simp only [Sem.run_bind, Result.andThen_ok, newVar, newRow, run_newObj, Sem.run_pure]
    rfl
  · cases h
end
end Go.Ev
