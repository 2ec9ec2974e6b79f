/-
  Part of the proof; what its functions and lemmas say stands in the text.
-/
import Derived.Test.YtakonchpkchfhaaDoorEv12
import Derived.Deep.AppendSrc
set_option linter.unusedSimpArgs false
set_option linter.unusedVariables false
/-!
Stores and append.
-/
namespace Go.Ev
open Go.RowKit

section
variable {w0 w w' : World} {L : List (Option Loc)} {rows : Rows}

theorem lo_ext' {k r : Nat} {o : Loc} (ho : lo L r = some o) (hk : lo L k = none ∨ k = r) : ∀ (s : Nat) (p : Loc), lo L s = some p → lo (L.set k (some o)) s = some p := by
  intro s p h
  rcases hk with hk | rfl
  · exact lo_ext hk s p h
  · by_cases e : s = k
    · subst e
      rw [ho] at h; cases h
      exact lo_set_self (by
        unfold lo at ho
        rcases Nat.lt_or_ge s L.length with h' | h'
        · exact h'
        · rw [List.getElem?_eq_none h'] at ho; cases ho)
    · rw [lo_set_ne e]; exact h

/-- The block of a row of the call's own is written; the row goes on under the index k. -/
theorem RowsOK.rewrite (h : RowsOK w0 L rows w) {r k : Nat} {row : Row} {o : Loc} (hr : rows[r]? = some (some row)) (ho : lo L r = some o) (own : row.own = true) (hk : k < rows.length) (hfree : lo L k = none ∨ k = r)
    (hbelow : Below w0.heap.size w0 w') (hsize : w'.heap.size = w.heap.size) (hother : ∀ b, b ≠ o.blk → w'.heap[b]? = w.heap[b]?) {con' : SV} (hrow : RowOK L o ⟨con', true⟩ w') :
    RowsOK w0 (L.set k (some o)) ((rows.set r none).set k (some ⟨con', true⟩)) w' := by
  have hk' : k < L.length := by rw [h.size]; exact hk
  have hL := lo_ext' (k := k) ho hfree
  have hset : ∀ (s : Nat) (row' : Row), ((rows.set r none).set k (some ⟨con', true⟩))[s]? = some (some row') → (s = k ∧ row' = ⟨con', true⟩) ∨ (s ≠ k ∧ s ≠ r ∧ rows[s]? = some (some row')) := by
    intro s row' hs
    rcases set_cases hs with ⟨e1, e2⟩ | ⟨e1, e2⟩
    · cases e2; exact .inl ⟨e1, rfl⟩
    · rcases set_cases e2 with ⟨_, e3⟩ | ⟨e3, e4⟩
      · cases e3
      · exact .inr ⟨e1, e3, e4⟩
  have sepo : ∀ (s : Nat) (row' : Row) (p : Loc), s ≠ r → rows[s]? = some (some row') → lo L s = some p → p.blk ≠ o.blk := fun s row' p hne h1 h2 e => h.sep r s row row' o p (fun e => hne e.symm) hr h1 ho h2 own e.symm
  refine ⟨hbelow, by simp [h.size], ?_, ?_, ?_, ?_⟩
  · intro s row' h1
    rcases hset s row' h1 with ⟨rfl, rfl⟩ | ⟨hne, hnr, h1'⟩
    · exact ⟨o, lo_set_self hk'⟩
    · rw [lo_set_ne hne]; exact h.has s row' h1'
  · intro s row' p h1 h2
    rcases hset s row' h1 with ⟨rfl, rfl⟩ | ⟨hne, hnr, h1'⟩
    · rw [lo_set_self hk'] at h2; cases h2
      exact hrow.mono hL
    · rw [lo_set_ne hne] at h2
      have ok := h.row s row' p h1' h2
      exact (ok.of_block (by rw [hsize]; exact ok.blk) (hother _ (sepo s row' p hnr h1' h2))).mono hL
  · intro a b ra rb p q hab h1 h2 h3 h4 h5
    rcases hset a ra h1 with ⟨rfl, rfl⟩ | ⟨hna, hnar, h1'⟩ <;> rcases hset b rb h2 with ⟨e2, rfl⟩ | ⟨hnb, hnbr, h2'⟩
    · exact absurd e2.symm hab
    · rw [lo_set_self hk'] at h3; cases h3
      rw [lo_set_ne hnb] at h4
      exact fun e => sepo b rb q hnbr h2' h4 e.symm
    · subst e2
      rw [lo_set_self hk'] at h4; cases h4
      rw [lo_set_ne hna] at h3
      exact sepo a ra p hnar h1' h3
    · rw [lo_set_ne hna] at h3
      rw [lo_set_ne hnb] at h4
      exact h.sep a b ra rb p q hab h1' h2' h3 h4 h5
  · intro a ra p h1 h2 h3
    rcases hset a ra h1 with ⟨rfl, rfl⟩ | ⟨hna, hnar, h1'⟩
    · rw [lo_set_self hk'] at h2; cases h2
      exact h.new r row o hr ho own
    · rw [lo_set_ne hna] at h2
      exact h.new a ra p h1' h2 h3

theorem setCells_size (b : Nat) : ∀ (vs : List Value) (o : Nat) (w : World), (w.setCells b o vs).heap.size = w.heap.size
  | [], _, _ => rfl
  | v :: r, o, w => by rw [World.setCells, setCells_size b r]; simp
theorem setCells_other (b : Nat) : ∀ (vs : List Value) (o : Nat) (w : World) (c : Nat), c ≠ b → (w.setCells b o vs).heap[c]? = w.heap[c]?
  | [], _, _, _, _ => rfl
  | v :: r, o, w, c, h => by rw [World.setCells, setCells_other b r _ _ c h, heap_setCell_other w ⟨b, o, none⟩ c v h]
theorem setCells_below {B : Nat} (b : Nat) (hb : B ≤ b) : ∀ (vs : List Value) (o : Nat) (w : World), Below B w0 w → Below B w0 (w.setCells b o vs)
  | [], _, _, h => h
  | v :: r, o, w, h => by rw [World.setCells]; exact setCells_below b hb r _ _ (h.setCell (p := ⟨b, o, none⟩) hb v)

/-- Cells off .. of a row are written. -/
theorem RowOK.wrote {o : Loc} {row : Row} (ok : RowOK L o row w) (own : row.own = true) {off : Nat} {vs : List Value} (hfit : off + vs.length ≤ o.size) {con' : SV} (hlen : con'.len ≤ o.size)
    (hc : ∀ j, j < con'.len → (off ≤ j ∧ j < off + vs.length ∧ ∃ v, vs[j - off]? = some v ∧ rep L (con'.cell j) v) ∨ ((j < off ∨ off + vs.length ≤ j) ∧ j < row.con.len ∧ con'.cell j = row.con.cell j)) :
    RowOK L o ⟨con', true⟩ (w.setCells o.blk (o.base + off) vs) := by
  have some' : ∀ j, j < vs.length → (w.cell? ⟨o.blk, o.base + off + j, none⟩).isSome = true := by
    intro j hj
    obtain ⟨v, hv⟩ := ok.all own (off + j) (by omega)
    rw [Nat.add_assoc, hv]; rfl
  have inn : ∀ j (hj : j < vs.length), (w.setCells o.blk (o.base + off) vs).cell? ⟨o.blk, o.base + (off + j), none⟩ = some vs[j] := by
    intro j hj
    rw [← Nat.add_assoc]; exact World.cell?_setCells_in o.blk vs (o.base + off) w some' j hj
  have out : ∀ j, (j < off ∨ off + vs.length ≤ j) → (w.setCells o.blk (o.base + off) vs).cell? ⟨o.blk, o.base + j, none⟩ = w.cell? ⟨o.blk, o.base + j, none⟩ := by
    intro j hj
    refine World.cell?_setCells_out o.blk vs (o.base + off) w _ fun _ _ => ?_
    simp only []; omega
  refine ⟨hlen, by rw [setCells_size]; exact ok.blk, fun j hj => ?_, fun _ j hj => ?_, fun _ j hj => ?_⟩
  · rcases hc j hj with ⟨h1, h2, v, h3, h4⟩ | ⟨h1, h2, h3⟩
    · have hj' : j - off < vs.length := by omega
      have := inn (j - off) hj'
      rw [show off + (j - off) = j by omega] at this
      refine ⟨v, ?_, h4⟩
      rw [this, ← h3]; simp [hj']
    · obtain ⟨v, h4, h5⟩ := ok.cell j h2
      exact ⟨v, by rw [out j h1]; exact h4, by simp only [] at h3 ⊢; rw [h3]; exact h5⟩
  · by_cases hj' : off ≤ j ∧ j < off + vs.length
    · have := inn (j - off) (by omega)
      rw [show off + (j - off) = j by omega] at this
      exact ⟨_, this⟩
    · rw [out j (by omega)]; exact ok.all own j hj
  · rw [World.frozen?_setCells]; exact ok.free own j hj
end

/-- The cells of a value to be stored, as a content; only numbers, truths, addresses and the like. -/
def scalS : SV → Bool
  | .any | .agg _ | .ai _ _ | .a8 _ | .a64 _ | .tup _ => false
  | .c (.agg _) => false
  | .c (.tuple _) => false
  | _ => true
theorem scalS_one {L : List (Option Loc)} {s : SV} {v : Value} (h : scalS s = true) (hr : rep L s v) : v.oneCell' = true ∧ v.cells = #[v] := by
  cases s <;> simp only [scalS, Bool.false_eq_true] at h <;> simp only [rep] at hr
  case c u => subst hr; cases v <;> first | exact ⟨rfl, rfl⟩ | simp only [Bool.false_eq_true] at h
  case nan => obtain ⟨x, rfl, _⟩ := hr; exact ⟨rfl, rfl⟩
  case sl => obtain ⟨_, x, _, _, _, rfl⟩ := hr; exact ⟨rfl, rfl⟩
  case clo => obtain ⟨x, rfl, _⟩ := hr; exact ⟨rfl, rfl⟩
  case ptr => obtain ⟨_, _, rfl⟩ := hr; exact ⟨rfl, rfl⟩
  all_goals (subst hr; exact ⟨rfl, rfl⟩)

def allScal : List SV → Bool
  | [] => true
  | s :: l => scalS s && allScal l

/-- What a value is that is stored over several cells; the content afterwards. -/
def storeAgg (con : SV) (off n : Nat) (s : SV) (K : SV → Option D) : Option D :=
  match con, s with
  | .agg l, .agg m => if off + m.length ≤ l.length ∧ m.length = n ∧ allScal m = true then K (.agg (setAllS l off m)) else none
  | .ai k l, .ai k' m => match off with | 0 => if k = k' then if l.length = n then if m.length = n then K (.ai k m) else none else none else none | _ + 1 => none
  | .a8 l, .a8 m => match off with | 0 => if l.length = n then if m.length = n then K (.a8 m) else none else none | _ + 1 => none
  | .a64 l, .a64 m => match off with | 0 => if l.length = n then if m.length = n then K (.a64 m) else none else none | _ + 1 => none
  | _, _ => none

def evStore (P : Program) (rows : Rows) (t : TypeId) (x s : SV) (K : Rows → Option D) : Option D :=
  match x with
  | .ptr r off => match rows[r]? with
    | some (some row) => if row.own then
        match P.underlying t, sizeT P t with
        | some d, some n => if isAggD d then storeAgg row.con off n s (fun con' => K (rows.set r (some ⟨con', true⟩)))
            else if n = 1 ∧ scalS s = true then if off < row.con.len then match row.con.setCell off s with
              | some con' => K (rows.set r (some ⟨con', true⟩))
              | none => none else none else none
        | _, _ => none
      else none
    | _ => none
  | _ => none

/-- An operation that may write: from a state with these rows to one with those; slot k may be filled. -/
def SGo (P : Program) (ρ : Operand → SV) (rows : Rows) (k : Nat) (op : Op) (s : SV) (rows' : Rows) : Prop :=
  ∀ (w0 : World) (o : Oper), o.op = op → ∀ (L : List (Option Loc)) (a : Act) (w : World), (∀ x ∈ op.operands, rep L (ρ x) (a.eval x)) → RowsOK w0 L rows w → k < rows.length → lo L k = none → a.defers = [] →
    Goes P o a w (fun v w' => ∃ L', Ext k L L' ∧ rep L' s v ∧ RowsOK w0 L' rows' w')

section
variable {P : Program} {w0 : World} {ρ : Operand → SV} {rows : Rows} {k : Nat}

theorem setAllS_len : ∀ (us : List SV) (l : List SV) (o : Nat), (setAllS l o us).length = l.length
  | [], _, _ => rfl
  | u :: us, l, o => by simp only [setAllS]; rw [setAllS_len us]; simp
theorem setAllS_get : ∀ (us : List SV) (l : List SV) (o j : Nat), o + us.length ≤ l.length → j < l.length → (setAllS l o us).getD j .any = if o ≤ j ∧ j < o + us.length then us.getD (j - o) .any else l.getD j .any
  | [], l, o, j, _, _ => by rw [if_neg (by simp)]; rfl
  | u :: us, l, o, j, h, hj => by
    simp only [setAllS]
    rw [setAllS_get us (l.set o u) (o + 1) j (by simp at h ⊢; omega) (by simpa using hj)]
    simp only [List.length_cons] at h ⊢
    by_cases h1 : j = o
    · subst h1
      rw [if_neg (by omega), if_pos (by omega)]
      simp [List.getD_eq_getElem?_getD, hj]
    · have hne : o ≠ j := fun e => h1 e.symm
      by_cases h2 : o + 1 ≤ j ∧ j < o + 1 + us.length
      · rw [if_pos h2, if_pos (by omega)]
        rw [show j - o = (j - (o + 1)) + 1 by omega]; simp
      · rw [if_neg h2, if_neg (by omega)]
        simp [List.getD_eq_getElem?_getD, hne]

theorem storeAgg_ok {con : SV} {off n : Nat} {s : SV} {K : SV → Option D} {r : D} (h : storeAgg con off n s K = some r) : ∃ con', K con' = some r ∧ con'.len = con.len ∧ off + n ≤ con.len ∧
    ∀ L v, rep L s v → ∃ cs : List Value, v = .agg ⟨cs⟩ ∧ cs.length = n ∧ (∀ u ∈ cs, u.oneCell' = true) ∧
      ∀ j, j < con.len → (off ≤ j ∧ j < off + n ∧ ∃ u, cs[j - off]? = some u ∧ rep L (con'.cell j) u) ∨ ((j < off ∨ off + n ≤ j) ∧ con'.cell j = con.cell j) := by
  unfold storeAgg at h
  split at h
  · rename_i l m
    split at h
    · rename_i hb
      obtain ⟨h1, h2, h3⟩ := hb
      refine ⟨_, h, by simp [SV.len, setAllS_len], by simp only [SV.len]; omega, fun L v hr => ?_⟩
      simp only [rep] at hr
      obtain ⟨cs, rfl, hcs⟩ := hr
      have hl := reps_length hcs
      refine ⟨cs, rfl, by omega, ?_, fun j hj => ?_⟩
      · have : ∀ (m : List SV) (cs : List Value), allScal m = true → reps L m cs → ∀ u ∈ cs, u.oneCell' = true := by
          intro m
          induction m with
          | nil => intro cs _ hr u hu; simp only [reps] at hr; subst hr; cases hu
          | cons x m ih =>
            intro cs ha hr u hu
            simp only [allScal, Bool.and_eq_true] at ha
            simp only [reps] at hr
            obtain ⟨v, t, rfl, hv, hr⟩ := hr
            rcases List.mem_cons.1 hu with rfl | hu
            · exact (scalS_one ha.1 hv).1
            · exact ih t ha.2 hr u hu
        exact this m cs h3 hcs
      · simp only [SV.len] at hj
        simp only [SV.cell]
        rw [setAllS_get m l off j h1 hj]
        by_cases hc : off ≤ j ∧ j < off + m.length
        · left
          rw [if_pos hc]
          obtain ⟨u, h5, h6⟩ := reps_get hcs (j - off) (by omega)
          exact ⟨hc.1, by omega, u, h5, h6⟩
        · right
          rw [if_neg hc]
          exact ⟨by omega, rfl⟩
    · cases h
  · rename_i q l q' m
    split at h
    · split at h
      · rename_i e; subst e
        split at h
        · rename_i hl
          split at h
          · rename_i hm
            refine ⟨_, h, by simp [SV.len]; omega, by simp [SV.len]; omega, fun L v hr => ?_⟩
            simp only [rep] at hr; subst hr
            refine ⟨m.map (vi q), rfl, by simpa using hm, fun u hu => ?_, fun j hj => .inl ⟨Nat.zero_le _, by simp only [SV.len] at hj; omega, vi q (m.getD j 0), ?_, by simp only [SV.cell, rep, vi]⟩⟩
            · obtain ⟨x, _, rfl⟩ := List.mem_map.1 hu; rfl
            · have : j < m.length := by simp only [SV.len] at hj; omega
              simp [this]
          · cases h
        · cases h
      · cases h
    · cases h
  · rename_i l m
    split at h
    · split at h
      · rename_i hl
        split at h
        · rename_i hm
          refine ⟨_, h, by simp [SV.len]; omega, by simp [SV.len]; omega, fun L v hr => ?_⟩
          simp only [rep] at hr; subst hr
          refine ⟨m.map v8, rfl, by simpa using hm, fun u hu => ?_, fun j hj => .inl ⟨Nat.zero_le _, by simp only [SV.len] at hj; omega, v8 (m.getD j 0), ?_, by simp only [SV.cell, rep, v8]⟩⟩
          · obtain ⟨x, _, rfl⟩ := List.mem_map.1 hu; rfl
          · have : j < m.length := by simp only [SV.len] at hj; omega
            simp [this]
        · cases h
      · cases h
    · cases h
  · rename_i l m
    split at h
    · split at h
      · rename_i hl
        split at h
        · rename_i hm
          refine ⟨_, h, by simp [SV.len]; omega, by simp [SV.len]; omega, fun L v hr => ?_⟩
          simp only [rep] at hr; subst hr
          refine ⟨m.map v64, rfl, by simpa using hm, fun u hu => ?_, fun j hj => .inl ⟨Nat.zero_le _, by simp only [SV.len] at hj; omega, v64 (m.getD j 0), ?_, by simp only [SV.cell, rep, v64]⟩⟩
          · obtain ⟨x, _, rfl⟩ := List.mem_map.1 hu; rfl
          · have : j < m.length := by simp only [SV.len] at hj; omega
            simp [this]
        · cases h
      · cases h
    · cases h
  · cases h

theorem set_none_set {rows : Rows} {r : Nat} {x : Option Row} : (rows.set r none).set r x = rows.set r x := by simp
theorem lset_self {L : List (Option Loc)} {r : Nat} {o : Loc} (h : lo L r = some o) : L.set r (some o) = L := by
  unfold lo at h
  apply List.ext_getElem?
  intro i
  rw [List.getElem?_set]
  split
  · rename_i e; subst e
    split
    · cases hr : L[r]? with
      | none => rw [hr] at h; cases h
      | some x => rw [hr] at h; simp at h; rw [h]
    · rename_i hlt
      rw [List.getElem?_eq_none (by omega)]
  · rfl

theorem evStore_ok {t : TypeId} {x y : Operand} {K : Rows → Option D} {r : D} (h : evStore P rows t (ρ x) (ρ y) K = some r) : ∃ rows', K rows' = some r ∧ rows'.length = rows.length ∧ SGo P ρ rows k (.store t x y) .any rows' := by
  unfold evStore at h
  split at h
  · rename_i n off hx
    split at h
    · rename_i row hrow
      split at h
      · rename_i hown
        split at h
        · rename_i d sz hd hsz
          split at h
          · rename_i hagg
            obtain ⟨con', hK, hlen, hfit, hst⟩ := storeAgg_ok h
            refine ⟨_, hK, by simp, fun w0 o ho L a w hρ hw hk hlk _ => ?_⟩
            have hr := hρ x (by simp [Op.operands])
            rw [hx] at hr
            simp only [rep] at hr
            obtain ⟨lc, hlc, hv⟩ := hr
            obtain ⟨cs, hv2, hcl, hone, hcell⟩ := hst L _ (hρ y (by simp [Op.operands]))
            have ok := hw.row n row lc hrow hlc
            have hnlt : n < rows.length := by
              rcases Nat.lt_or_ge n rows.length with h' | h'
              · exact h'
              · rw [List.getElem?_eq_none h'] at hrow; cases hrow
            have rowok : RowOK L lc ⟨con', true⟩ (w.setCells lc.blk (lc.base + off) cs) := ok.wrote hown (by rw [hcl]; have := ok.len; omega) (by rw [hlen]; exact ok.len) fun j hj => by
              rw [hlen] at hj
              rcases hcell j hj with ⟨h1, h2, u, h3, h4⟩ | ⟨h1, h2⟩
              · exact .inl ⟨h1, by omega, u, h3, h4⟩
              · exact .inr ⟨by omega, hj, h2⟩
            have hw' := hw.rewrite hrow hlc hown hnlt (.inr rfl) (setCells_below (w0 := w0) lc.blk (hw.new n row lc hrow hlc hown) cs (lc.base + off) w hw.below) (setCells_size _ _ _ _) (fun b hb => setCells_other _ _ _ _ b hb) rowok
            rw [set_none_set, lset_self hlc] at hw'
            refine Goes.skip (w' := w.setCells lc.blk (lc.base + off) cs) ?_ ⟨L, Ext.refl k L, by simp only [rep], hw'⟩
            simp only [execOp, ho, hv, hv2, Instr.storeAt, Instr.sureAddr]
            have hrun : (storeCells ⟨lc.blk, lc.base + off, none⟩ cs).run P w = .ok () (w.setCells lc.blk (lc.base + off) cs) := by
              have := run_storeCells_cells (P := P) lc.blk (lc.base + off) cs 0 w (fun j hj => by
                obtain ⟨v, hv⟩ := ok.all hown (off + j) (by have := ok.len; omega)
                rw [Nat.add_zero, Nat.add_assoc, hv]; rfl) (fun j hj => by
                rw [Nat.add_zero, Nat.add_assoc]; exact ok.free hown (off + j) (by have := ok.len; omega)) hone
              simpa using this
            unfold storeVar
            have hcs : (Value.agg ⟨cs⟩).cells.size = sz := by simpa [Value.cells] using hcl
            simp only [Sem.run_bind, Sem.run_pure, Result.andThen_ok, run_sizeT hsz, hcs, ne_eq, not_true, if_false]
            simp only [Value.cells]
            rw [hrun]; rfl
          · rename_i hagg
            split at h
            · rename_i hs1
              obtain ⟨hs1, hscal⟩ := hs1
              subst hs1
              split at h
              · rename_i hoff
                split at h
                · rename_i con' hcon
                  refine ⟨_, h, by simp, fun w0 o ho L a w hρ hw hk hlk _ => ?_⟩
                  have hr := hρ x (by simp [Op.operands])
                  rw [hx] at hr
                  simp only [rep] at hr
                  obtain ⟨lc, hlc, hv⟩ := hr
                  have hvy := hρ y (by simp [Op.operands])
                  have hw' := hw.store1 hrow hlc hown hoff hcon hvy
                  obtain ⟨hone, hcs⟩ := scalS_one hscal hvy
                  have ok := hw.row n row lc hrow hlc
                  refine Goes.skip (w' := w.setCell ⟨lc.blk, lc.base + off, none⟩ (a.eval y)) ?_ ⟨L, Ext.refl k L, by simp only [rep], hw'⟩
                  simp only [execOp, ho, hv, Instr.storeAt, Instr.sureAddr]
                  unfold storeVar
                  obtain ⟨u, hu⟩ := ok.all hown off (by have := ok.len; omega)
                  have hfr := ok.free hown off (by have := ok.len; omega)
                  simp only [Sem.run_bind, Sem.run_pure, Result.andThen_ok, run_sizeT hsz, hcs, List.size_toArray, List.length_cons, List.length_nil, Nat.zero_add, ne_eq, not_true, if_false, storeCells, Addr.add_zero']
                  rw [run_store P w _ _ _ hone, hu]
                  simp [hfr]
                · cases h
              · cases h
            · cases h
        · cases h
      · cases h
    · cases h
  · cases h
end
end Go.Ev
