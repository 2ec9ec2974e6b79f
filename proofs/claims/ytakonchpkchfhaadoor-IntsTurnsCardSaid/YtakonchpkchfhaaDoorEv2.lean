/-
  Part of the proof; what its functions and lemmas say stands in the text.
-/
import Derived.Test.YtakonchpkchfhaaDoorEv1
import Derived.Laws.IdiomCopy
set_option linter.unusedSimpArgs false
set_option linter.unusedVariables false
/-!
What becomes of the rows: a draw, a new block, a callee's blocks, a store.
-/
namespace Go.Ev
open Go.RowKit

mutual
theorem rep_mono {L L' : List (Option Loc)} (h : ∀ (r : Nat) (o : Loc), lo L r = some o → lo L' r = some o) : ∀ {s : SV} {v : Value}, rep L s v → rep L' s v
  | .any, _, _ => by simp only [rep]
  | .bool _, _, hr => by simpa only [rep] using hr
  | .i _ _, _, hr => by simpa only [rep] using hr
  | .u8 _, _, hr => by simpa only [rep] using hr
  | .u16 _, _, hr => by simpa only [rep] using hr
  | .u32 _, _, hr => by simpa only [rep] using hr
  | .u64 _, _, hr => by simpa only [rep] using hr
  | .f _ _, _, hr => by simpa only [rep] using hr
  | .nan _, _, hr => by simpa only [rep] using hr
  | .c _, _, hr => by simpa only [rep] using hr
  | .gl _, _, hr => by simpa only [rep] using hr
  | .ptr r off, _, hr => by simp only [rep] at hr ⊢; obtain ⟨o, ho, rfl⟩ := hr; exact ⟨o, h _ _ ho, rfl⟩
  | .sl r off len, _, hr => by simp only [rep] at hr ⊢; obtain ⟨o, cap, ho, h1, h2, rfl⟩ := hr; exact ⟨o, cap, h _ _ ho, h1, h2, rfl⟩
  | .agg l, _, hr => by simp only [rep] at hr ⊢; obtain ⟨cs, rfl, hr⟩ := hr; exact ⟨cs, rfl, reps_mono h hr⟩
  | .ai _ _, _, hr => by simpa only [rep] using hr
  | .a8 _, _, hr => by simpa only [rep] using hr
  | .a64 _, _, hr => by simpa only [rep] using hr
  | .tup l, _, hr => by simp only [rep] at hr ⊢; obtain ⟨cs, rfl, hr⟩ := hr; exact ⟨cs, rfl, reps_mono h hr⟩
  | .clo f l, _, hr => by simp only [rep] at hr ⊢; obtain ⟨cs, rfl, hr⟩ := hr; exact ⟨cs, rfl, reps_mono h hr⟩
theorem reps_mono {L L' : List (Option Loc)} (h : ∀ (r : Nat) (o : Loc), lo L r = some o → lo L' r = some o) : ∀ {l : List SV} {vs : List Value}, reps L l vs → reps L' l vs
  | [], _, hr => by simpa only [reps] using hr
  | s :: l, _, hr => by
    simp only [reps] at hr ⊢
    obtain ⟨v, t, rfl, hv, hr⟩ := hr
    exact ⟨v, t, rfl, rep_mono h hv, reps_mono h hr⟩
end

theorem lo_set_self {L : List (Option Loc)} {k : Nat} {o : Loc} (hk : k < L.length) : lo (L.set k (some o)) k = some o := by
  simp [lo, hk]
theorem lo_set_ne {L : List (Option Loc)} {k r : Nat} {o : Option Loc} (h : r ≠ k) : lo (L.set k o) r = lo L r := by
  have : k ≠ r := fun e => h e.symm
  simp [lo, List.getElem?_set, this]
theorem lo_ext {L : List (Option Loc)} {k : Nat} {o : Loc} (hk : lo L k = none) : ∀ (r : Nat) (p : Loc), lo L r = some p → lo (L.set k (some o)) r = some p := by
  intro r p h
  have : r ≠ k := fun e => by rw [e, hk] at h; cases h
  rw [lo_set_ne this]; exact h

theorem reps_set {L : List (Option Loc)} : ∀ {l : List SV} {vs : List Value} {s : SV} {v : Value} (i : Nat), reps L l vs → rep L s v → reps L (l.set i s) (vs.set i v)
  | [], vs, s, v, i, h, hv => by simp only [reps] at h; subst h; simp [reps]
  | x :: l, vs, s, v, i, h, hv => by
    simp only [reps] at h
    obtain ⟨u, t, rfl, hu, h⟩ := h
    cases i with
    | zero => simp only [List.set_cons_zero, reps]; exact ⟨v, t, rfl, hv, h⟩
    | succ i => simp only [List.set_cons_succ, reps]; exact ⟨u, _, rfl, hu, reps_set i h hv⟩

/-! ### RowOK -/
theorem RowOK.of_block {L : List (Option Loc)} {l : Loc} {row : Row} {w w' : World} (h : RowOK L l row w) (hs : l.blk < w'.heap.size) (hb : w'.heap[l.blk]? = w.heap[l.blk]?) : RowOK L l row w' := by
  have hc : ∀ p : Addr, p.block = l.blk → w'.cell? p = w.cell? p := fun p hp => by unfold World.cell?; rw [hp, hb]
  have hf : ∀ p : Addr, p.block = l.blk → w'.frozen? p = w.frozen? p := fun p hp => by unfold World.frozen?; rw [hp, hb]
  exact ⟨h.len, hs, fun j hj => by rw [hc _ rfl]; exact h.cell j hj, fun ho j hj => by rw [hc _ rfl]; exact h.all ho j hj, fun ho j hj => by rw [hf _ rfl]; exact h.free ho j hj⟩

theorem RowOK.mono {L L' : List (Option Loc)} {l : Loc} {row : Row} {w : World} (h : RowOK L l row w) (hL : ∀ (r : Nat) (o : Loc), lo L r = some o → lo L' r = some o) : RowOK L' l row w :=
  ⟨h.len, h.blk, fun j hj => let ⟨v, h1, h2⟩ := h.cell j hj; ⟨v, h1, rep_mono hL h2⟩, h.all, h.free⟩

section
variable {w0 w w' : World} {L : List (Option Loc)} {rows : List (Option Row)}

theorem RowsOK.grow (h : RowsOK w0 L rows w) (hb : Below w.heap.size w w') : RowsOK w0 L rows w' :=
  ⟨h.below.trans (hb.mono h.below.size), h.size, h.has,
   fun r row o h1 h2 => (h.row r row o h1 h2).of_block (Nat.lt_of_lt_of_le (h.row r row o h1 h2).blk hb.size) (hb.block _ (h.row r row o h1 h2).blk), h.sep, h.new⟩

theorem RowsOK.drew (h : RowsOK w0 L rows w) : RowsOK w0 L rows { w with drawn := w.drawn + 1 } :=
  h.grow ⟨rfl, rfl, rfl, Nat.le_refl _, fun _ _ => rfl⟩

theorem set_cases {α : Type} {l : List (Option α)} {k r : Nat} {x : Option α} {y : α} (h : (l.set k x)[r]? = some (some y)) : (r = k ∧ x = some y) ∨ (r ≠ k ∧ l[r]? = some (some y)) := by
  rw [List.getElem?_set] at h
  split at h
  · rename_i e
    split at h
    · simp only [Option.some.injEq] at h; exact .inl ⟨e.symm, h⟩
    · cases h
  · rename_i e; exact .inr ⟨fun h => e h.symm, h⟩

/-- A slot is filled: a block that the heap has not had, of the call's own. -/
theorem RowsOK.fill (h : RowsOK w0 L rows w) (hb : Below w.heap.size w w') {k : Nat} (hk : k < rows.length) (hfree : lo L k = none) {o : Loc} {con : SV} (hn : w.heap.size ≤ o.blk)
    (hr : RowOK L o ⟨con, true⟩ w') : RowsOK w0 (L.set k (some o)) (rows.set k (some ⟨con, true⟩)) w' := by
  have hg := h.grow hb
  have hk' : k < L.length := by rw [h.size]; exact hk
  have lt : ∀ (r : Nat) (row' : Row) (p : Loc), rows[r]? = some (some row') → lo L r = some p → p.blk < w.heap.size := fun r row' p h1 h2 => (h.row r row' p h1 h2).blk
  refine ⟨hg.below, by simp [h.size], ?_, ?_, ?_, ?_⟩
  · intro r row h1
    rcases set_cases h1 with ⟨rfl, h1'⟩ | ⟨hne, h1'⟩
    · exact ⟨o, lo_set_self hk'⟩
    · rw [lo_set_ne hne]; exact h.has r row h1'
  · intro r row' p h1 h2
    rcases set_cases h1 with ⟨rfl, h1'⟩ | ⟨hne, h1'⟩
    · rw [lo_set_self hk'] at h2
      cases h1'; cases h2
      exact hr.mono (lo_ext hfree)
    · rw [lo_set_ne hne] at h2
      exact (hg.row r row' p h1' h2).mono (lo_ext hfree)
  · intro r s row1 row2 p q hrs h1 h2 h3 h4 h5
    rcases set_cases h1 with ⟨rfl, h1'⟩ | ⟨hne1, h1'⟩ <;> rcases set_cases h2 with ⟨e2, h2'⟩ | ⟨hne2, h2'⟩
    · exact absurd e2.symm hrs
    · rw [lo_set_self hk'] at h3
      rw [lo_set_ne hne2] at h4
      cases h3
      have := lt s row2 q h2' h4
      omega
    · subst e2
      rw [lo_set_self hk'] at h4
      rw [lo_set_ne hne1] at h3
      cases h4
      have := lt r row1 p h1' h3
      omega
    · rw [lo_set_ne hne1] at h3
      rw [lo_set_ne hne2] at h4
      exact h.sep r s row1 row2 p q hrs h1' h2' h3 h4 h5
  · intro r row' p h1 h2 h3
    rcases set_cases h1 with ⟨rfl, h1'⟩ | ⟨hne, h1'⟩
    · rw [lo_set_self hk'] at h2
      cases h2
      exact Nat.le_trans h.below.size hn
    · rw [lo_set_ne hne] at h2
      exact h.new r row' p h1' h2 h3

/-- A row dies. -/
theorem RowsOK.kill (h : RowsOK w0 L rows w) (r : Nat) : RowsOK w0 L (rows.set r none) w := by
  have old : ∀ (s : Nat) (row : Row), (rows.set r none)[s]? = some (some row) → rows[s]? = some (some row) := by
    intro s row hs
    rcases set_cases hs with ⟨_, e⟩ | ⟨_, e⟩
    · cases e
    · exact e
  exact ⟨h.below, by simp [h.size], fun s row h1 => h.has s row (old _ _ h1), fun s row o h1 h2 => h.row s row o (old _ _ h1) h2, fun a b ra rb o o' hab h1 h2 => h.sep a b ra rb o o' hab (old _ _ h1) (old _ _ h2), fun s row o h1 => h.new s row o (old _ _ h1)⟩

/-- Slots are laid for rows to come. -/
theorem RowsOK.slots (h : RowsOK w0 L rows w) (n : Nat) : RowsOK w0 (L ++ List.replicate n none) (rows ++ List.replicate n none) w := by
  have hlo : ∀ (r : Nat), lo (L ++ List.replicate n none) r = lo L r := by
    intro r
    simp only [lo, List.getElem?_append]
    split
    · rfl
    · rename_i hr
      rw [List.getElem?_eq_none (by omega : L.length ≤ r)]
      by_cases hn : r - L.length < n
      · simp [hn]
      · rw [List.getElem?_eq_none (by simpa using hn)]
  have old : ∀ (s : Nat) (row : Row), (rows ++ List.replicate n none)[s]? = some (some row) → rows[s]? = some (some row) := by
    intro s row hs
    rw [List.getElem?_append] at hs
    split at hs
    · exact hs
    · rename_i hr
      by_cases hn : s - rows.length < n
      · simp [hn] at hs
      · rw [List.getElem?_eq_none (by simpa using hn)] at hs; cases hs
  refine ⟨h.below, by simp [h.size], fun s row h1 => ?_, fun s row o h1 h2 => ?_, fun a b ra rb o o' hab h1 h2 h3 h4 => ?_, fun s row o h1 h2 => ?_⟩
  · rw [hlo]; exact h.has s row (old _ _ h1)
  · rw [hlo] at h2; exact (h.row s row o (old _ _ h1) h2).mono (fun r p hp => by rw [hlo]; exact hp)
  · rw [hlo] at h3 h4; exact h.sep a b ra rb o o' hab (old _ _ h1) (old _ _ h2) h3 h4
  · rw [hlo] at h2; exact h.new s row o (old _ _ h1) h2

theorem RowsOK.alloc (h : RowsOK w0 L rows w) {k : Nat} (hk : k < rows.length) (hfree : lo L k = none) (cells : Array Value) (ty : TypeId) {con : SV} (hl : con.len = cells.size)
    (hc : ∀ j, j < con.len → ∃ u, cells[j]? = some u ∧ rep L (con.cell j) u) :
    RowsOK w0 (L.set k (some ⟨w.heap.size, 0, cells.size⟩)) (rows.set k (some ⟨con, true⟩)) (w.alloc (.cells cells ty)) := by
  have cellnew : ∀ j, (w.alloc (.cells cells ty)).cell? ⟨w.heap.size, 0 + j, none⟩ = cells[j]? := by
    intro j; rw [Nat.zero_add]; exact World.cell?_alloc_new w cells ty j
  refine h.fill ((Below.refl _ w).alloc (Nat.le_refl _) _) hk hfree (Nat.le_refl _) ⟨by simp [hl], by simp, fun j hj => ?_, fun _ j hj => ?_, fun _ j _ => ?_⟩
  · obtain ⟨u, h1, h2⟩ := hc j hj
    exact ⟨u, by rw [cellnew]; exact h1, h2⟩
  · have hj' : j < cells.size := hj
    exact ⟨cells[j], by rw [cellnew]; simp [hj']⟩
  · simp [World.frozen?_alloc_new]

/-- A store into a row of the call's own. -/
theorem RowsOK.store1 (h : RowsOK w0 L rows w) {r : Nat} {row : Row} {o : Loc} (hr : rows[r]? = some (some row)) (ho : lo L r = some o) (own : row.own = true) {off : Nat} (hoff : off < row.con.len)
    {con' : SV} {s : SV} {v : Value} (hcon : row.con.setCell off s = some con') (hv : rep L s v) :
    RowsOK w0 L (rows.set r (some ⟨con', true⟩)) (w.setCell ⟨o.blk, o.base + off, none⟩ v) := by
  have hrow := h.row r row o hr ho
  have hblk := h.new r row o hr ho own
  have hlen : con'.len = row.con.len ∧ ∀ j, j < row.con.len → con'.cell j = (if j = off then s else row.con.cell j) := by
    cases hc : row.con with
    | agg l =>
      rw [hc] at hcon hoff
      simp only [SV.setCell, Option.some.injEq] at hcon; subst hcon
      refine ⟨by simp [SV.len], fun j hj => ?_⟩
      simp only [SV.cell, SV.len] at *
      by_cases hjo : j = off
      · subst hjo; simp [List.getD_eq_getElem?_getD, hoff]
      · have : off ≠ j := fun e => hjo e.symm
        simp [List.getD_eq_getElem?_getD, this, hjo]
    | ai k l =>
      rw [hc] at hcon hoff
      cases s <;> simp only [SV.setCell, reduceCtorEq] at hcon
      rename_i k' n
      split at hcon
      · rename_i hk; subst hk
        simp only [Option.some.injEq] at hcon; subst hcon
        refine ⟨by simp [SV.len], fun j hj => ?_⟩
        simp only [SV.cell, SV.len] at *
        by_cases hjo : j = off
        · subst hjo; simp [List.getD_eq_getElem?_getD, hoff]
        · have : off ≠ j := fun e => hjo e.symm
          simp [List.getD_eq_getElem?_getD, this, hjo]
      · cases hcon
    | a8 l =>
      rw [hc] at hcon hoff
      cases s <;> simp only [SV.setCell, reduceCtorEq, Option.some.injEq] at hcon
      subst hcon
      refine ⟨by simp [SV.len], fun j hj => ?_⟩
      simp only [SV.cell, SV.len] at *
      by_cases hjo : j = off
      · subst hjo; simp [List.getD_eq_getElem?_getD, hoff]
      · have : off ≠ j := fun e => hjo e.symm
        simp [List.getD_eq_getElem?_getD, this, hjo]
    | a64 l =>
      rw [hc] at hcon hoff
      cases s <;> simp only [SV.setCell, reduceCtorEq, Option.some.injEq] at hcon
      subst hcon
      refine ⟨by simp [SV.len], fun j hj => ?_⟩
      simp only [SV.cell, SV.len] at *
      by_cases hjo : j = off
      · subst hjo; simp [List.getD_eq_getElem?_getD, hoff]
      · have : off ≠ j := fun e => hjo e.symm
        simp [List.getD_eq_getElem?_getD, this, hjo]
    | any | bool | i | u8 | u16 | u32 | u64 | f | nan | c | gl | ptr | sl | tup | clo => rw [hc] at hoff; simp [SV.len] at hoff
  have hcellof : ∀ j, j < o.size → (w.setCell ⟨o.blk, o.base + off, none⟩ v).cell? ⟨o.blk, o.base + j, none⟩ = if j = off then some v else w.cell? ⟨o.blk, o.base + j, none⟩ := by
    intro j hj
    by_cases hjo : j = off
    · subst hjo
      obtain ⟨u, hu⟩ := hrow.all own j hj
      rw [if_pos rfl, World.cell?_setCell_same _ _ _ hu]
    · rw [if_neg hjo, World.cell?_setCell_other]
      intro e; simp only [Addr.mk.injEq] at e; omega
  have hset : ∀ (s' : Nat) (row' : Row), (rows.set r (some ⟨con', true⟩))[s']? = some (some row') → (s' = r ∧ row' = ⟨con', true⟩) ∨ (s' ≠ r ∧ rows[s']? = some (some row')) := by
    intro s' row' hs
    rcases set_cases hs with ⟨e1, e2⟩ | h2
    · cases e2; exact .inl ⟨e1, rfl⟩
    · exact .inr h2
  have below' : Below w0.heap.size w0 (w.setCell ⟨o.blk, o.base + off, none⟩ v) := h.below.setCell (p := ⟨o.blk, o.base + off, none⟩) hblk v
  refine ⟨below', by simp [h.size], ?_, ?_, ?_, ?_⟩
  · intro s' row' h1
    rcases hset s' row' h1 with ⟨rfl, rfl⟩ | ⟨_, h1'⟩
    · exact ⟨o, ho⟩
    · exact h.has s' row' h1'
  · intro s' row' p h1 h2
    rcases hset s' row' h1 with ⟨rfl, rfl⟩ | ⟨hne, h1⟩
    · rw [ho] at h2; cases h2
      refine ⟨by rw [hlen.1]; exact hrow.len, by simpa using hrow.blk, fun j hj => ?_, fun _ j hj => ?_, fun _ j hj => ?_⟩
      · have hj' : j < row.con.len := by rw [← hlen.1]; exact hj
        rw [hlen.2 j hj', hcellof j (Nat.lt_of_lt_of_le hj' hrow.len)]
        by_cases hjo : j = off
        · rw [if_pos hjo, if_pos hjo]; exact ⟨v, rfl, hv⟩
        · rw [if_neg hjo, if_neg hjo]; exact hrow.cell j hj'
      · rw [hcellof j hj]
        split
        · exact ⟨v, rfl⟩
        · exact hrow.all own j hj
      · rw [World.frozen?_setCell]; exact hrow.free own j hj
    · have hsep : o.blk ≠ p.blk := h.sep r s' row row' o p (fun e => hne e.symm) hr h1 ho h2 own
      refine (h.row s' row' p h1 h2).of_block (by simpa using (h.row s' row' p h1 h2).blk) ?_
      exact heap_setCell_other w _ _ v (fun e => hsep e.symm)
  · intro a b ra rb p q hab h1 h2 h3 h4 h5
    rcases hset a ra h1 with ⟨rfl, rfl⟩ | ⟨hna, h1'⟩ <;> rcases hset b rb h2 with ⟨rfl, rfl⟩ | ⟨hnb, h2'⟩
    · exact absurd rfl hab
    · exact h.sep a b row rb p q hab hr h2' h3 h4 own
    · exact h.sep a b ra row p q hab h1' hr h3 h4 h5
    · exact h.sep a b ra rb p q hab h1' h2' h3 h4 h5
  · intro a ra p h1 h2 h3
    rcases hset a ra h1 with ⟨rfl, rfl⟩ | ⟨hna, h1⟩
    · exact h.new a row p hr h2 own
    · exact h.new a ra p h1 h2 h3
end
end Go.Ev
