/-
  Part of the proof; what its functions and lemmas say stands in the text.
-/
import Derived.Test.YtakonchpkchfhaaDoorEv11
set_option linter.unusedSimpArgs false
set_option linter.unusedVariables false
/-!
What a call gave, as symbolic values; the call as an operation; a function's first state.
-/
namespace Go.Ev
open Go.RowKit

def dS : Nat → D → Option SV
  | 0, _ => none
  | m + 1, d => match d with
    | .any => some .any
    | .bool b => some (.bool b)
    | .i k n => some (.i k n)
    | .u8 x => some (.u8 x)
    | .u16 x => some (.u16 x)
    | .u32 x => some (.u32 x)
    | .u64 x => some (.u64 x)
    | .f k x => some (.f k x)
    | .nan k => some (.nan k)
    | .c v => some (.c v)
    | .agg l => match mapO (dS m) l with | some t => some (.agg t) | none => none
    | .ai k l => some (.ai k l)
    | .a8 l => some (.a8 l)
    | .a64 l => some (.a64 l)
    | .tup l => match mapO (dS m) l with | some t => some (.tup t) | none => none
    | _ => none

theorem reps_of_lie {own : Option Nat} {w : World} {L : List (Option Loc)} {f : D → Option SV} (h : ∀ d s v, f d = some s → lies own w d v → rep L s v) : ∀ {l : List D} {t : List SV} {vs : List Value}, mapO f l = some t → lie own w l vs → reps L t vs
  | [], t, vs, hm, hr => by simp only [mapO, Option.some.injEq] at hm; subst hm; simpa [reps, lie] using hr
  | x :: l, t, vs, hm, hr => by
    simp only [mapO] at hm
    split at hm
    · rename_i y u hy hu
      simp only [Option.some.injEq] at hm; subst hm
      simp only [lie] at hr
      obtain ⟨v, vt, rfl, hv, hr⟩ := hr
      simp only [reps]
      exact ⟨v, vt, rfl, h x y v hy hv, reps_of_lie h hu hr⟩
    · cases hm

theorem dS_ok {own : Option Nat} {w : World} (L : List (Option Loc)) : ∀ (m : Nat) (d : D) (s : SV) (v : Value), dS m d = some s → lies own w d v → rep L s v := by
  intro m
  induction m with
  | zero => intro d s v h; cases h
  | succ m ih =>
    intro d s v h hl
    cases d <;> simp only [dS, reduceCtorEq, Option.some.injEq] at h
    case any => subst h; simp only [rep]
    case bool => subst h; simpa only [lies, rep] using hl
    case i => subst h; simpa only [lies, rep] using hl
    case u8 => subst h; simpa only [lies, rep] using hl
    case u16 => subst h; simpa only [lies, rep] using hl
    case u32 => subst h; simpa only [lies, rep] using hl
    case u64 => subst h; simpa only [lies, rep] using hl
    case f => subst h; simpa only [lies, rep] using hl
    case nan => subst h; simpa only [lies, rep] using hl
    case c => subst h; simpa only [lies, rep] using hl
    case ai => subst h; simpa only [lies, rep] using hl
    case a8 => subst h; simpa only [lies, rep] using hl
    case a64 => subst h; simpa only [lies, rep] using hl
    case agg l =>
      split at h
      · rename_i t ht
        simp only [Option.some.injEq] at h; subst h
        simp only [lies] at hl
        obtain ⟨cs, rfl, hl⟩ := hl
        simp only [rep]
        exact ⟨cs, rfl, reps_of_lie ih ht hl⟩
      · cases h
    case tup l =>
      split at h
      · rename_i t ht
        simp only [Option.some.injEq] at h; subst h
        simp only [lies] at hl
        obtain ⟨cs, rfl, hl⟩ := hl
        simp only [rep]
        exact ⟨cs, rfl, reps_of_lie ih ht hl⟩
      · cases h

def reflect1 (k m : Nat) (d : D) : Option (SV × Option SV) :=
  match d with
  | .sl l => match mapO (dS m) l with | some t => some (.sl k 0 l.length, some (.agg t)) | none => none
  | .slI q l => some (.sl k 0 l.length, some (.ai q l))
  | .sl8 l => some (.sl k 0 l.length, some (.a8 l))
  | .sl64 l => some (.sl k 0 l.length, some (.a64 l))
  | d => match dS m d with | some s => some (s, none) | none => none
def reflectL (k m : Nat) : List D → Option (List SV × Option SV)
  | [] => some ([], none)
  | d :: l => match reflect1 k m d, reflectL k m l with
    | some (s, none), some (t, r) => some (s :: t, r)
    | some (s, some c), some (t, none) => some (s :: t, some c)
    | _, _ => none
def reflect (k m : Nat) (d : D) : Option (SV × Option SV) :=
  match d with
  | .tup l => match reflectL k m l with | some (t, r) => some (.tup t, r) | none => none
  | d => reflect1 k m d

/-- A new row for it. -/
def Fresh (base : Nat) (w : World) (k : Nat) (con : SV) (R : List (Option Loc) → Prop) : Prop :=
  ∃ o : Loc, base ≤ o.blk ∧ (∀ L, RowOK L o ⟨con, true⟩ w) ∧ ∀ L, lo L k = some o → R L

def Gives (base : Nat) (w : World) (k : Nat) (R : List (Option Loc) → Prop) : Option SV → Prop
  | none => ∀ L, R L
  | some con => Fresh base w k con R

theorem holds_row {base : Nat} {w : World} {b o cap : Nat} {con : SV} (hb : b < w.heap.size) (hlen : con.len ≤ cap) (hown : owned base w b o cap)
    (hc : ∀ L j, j < con.len → ∃ v, w.cell? ⟨b, o + j, none⟩ = some v ∧ rep L (con.cell j) v) : base ≤ b ∧ ∀ L, RowOK L ⟨b, o, cap⟩ ⟨con, true⟩ w :=
  ⟨hown.1, fun L => ⟨hlen, hb, fun j hj => hc L j hj, fun _ j hj => (hown.2 j hj).1, fun _ j hj => (hown.2 j hj).2⟩⟩

theorem reflect1_ok {k m : Nat} {d : D} {s : SV} {row : Option SV} {base : Nat} {w : World} {v : Value} (h : reflect1 k m d = some (s, row)) (hl : lies (some base) w d v) : Gives base w k (fun L => rep L s v) row := by
  have sl : ∀ (n b o cap : Nat) (con : SV), v = .slice (some ⟨b, o, none⟩) n cap → b < w.heap.size → n ≤ cap → con.len = n → owned base w b o cap → (∀ L j, j < con.len → ∃ v, w.cell? ⟨b, o + j, none⟩ = some v ∧ rep L (con.cell j) v) →
      Fresh base w k con (fun L => rep L (.sl k 0 n) v) := by
    intro n b o cap con hv hb hn hcl hown hc
    obtain ⟨h1, h2⟩ := holds_row hb (by omega) hown hc
    refine ⟨⟨b, o, cap⟩, h1, h2, fun L hL => ?_⟩
    simp only [rep]
    exact ⟨_, cap, hL, hn, by simp, by rw [hv]; simp⟩
  unfold reflect1 at h
  split at h
  · rename_i l
    split at h
    · rename_i t ht
      simp only [Option.some.injEq, Prod.mk.injEq] at h
      obtain ⟨rfl, rfl⟩ := h
      simp only [lies] at hl
      obtain ⟨b, o, cap, h1, h2, h3, h4, h5⟩ := hl
      refine sl _ b o cap _ h1 h2 h3 (by simp [SV.len, mapO_length ht]) (h5 base rfl) fun L j hj => ?_
      have : ∀ (l : List D) (t : List SV) (o : Nat), mapO (dS m) l = some t → lieAt (some base) w b o l → ∀ j, j < t.length → ∃ v, w.cell? ⟨b, o + j, none⟩ = some v ∧ rep L (t.getD j .any) v := by
        intro l
        induction l with
        | nil => intro t o ht _ j hj; simp only [mapO, Option.some.injEq] at ht; subst ht; cases hj
        | cons x l ih =>
          intro t o ht hl j hj
          simp only [mapO] at ht
          split at ht
          · rename_i y u hy hu
            simp only [Option.some.injEq] at ht; subst ht
            simp only [lieAt] at hl
            obtain ⟨⟨c, hc1, hc2⟩, hl⟩ := hl
            cases j with
            | zero => exact ⟨c, by simpa using hc1, by simpa using dS_ok L m x y c hy hc2⟩
            | succ j =>
              obtain ⟨c', h6, h7⟩ := ih u (o + 1) hu hl j (by simpa using hj)
              exact ⟨c', by rw [← h6]; congr 2; omega, by simpa using h7⟩
          · cases ht
      simpa [SV.cell] using this l t o ht h4 j (by simpa [SV.len] using hj)
    · cases h
  · simp only [Option.some.injEq, Prod.mk.injEq] at h
    obtain ⟨rfl, rfl⟩ := h
    simp only [lies] at hl
    obtain ⟨b, o, cap, h1, h2, h3, h4, h5⟩ := hl
    exact sl _ b o cap _ h1 h2 h3 (by simp [SV.len]) (h5 base rfl) fun L j hj => ⟨_, h4 j (by simpa [SV.len] using hj), by simp only [SV.cell, rep, vi]⟩
  · simp only [Option.some.injEq, Prod.mk.injEq] at h
    obtain ⟨rfl, rfl⟩ := h
    simp only [lies] at hl
    obtain ⟨b, o, cap, h1, h2, h3, h4, h5⟩ := hl
    exact sl _ b o cap _ h1 h2 h3 (by simp [SV.len]) (h5 base rfl) fun L j hj => ⟨_, h4 j (by simpa [SV.len] using hj), by simp only [SV.cell, rep, v8]⟩
  · simp only [Option.some.injEq, Prod.mk.injEq] at h
    obtain ⟨rfl, rfl⟩ := h
    simp only [lies] at hl
    obtain ⟨b, o, cap, h1, h2, h3, h4, h5⟩ := hl
    exact sl _ b o cap _ h1 h2 h3 (by simp [SV.len]) (h5 base rfl) fun L j hj => ⟨_, h4 j (by simpa [SV.len] using hj), by simp only [SV.cell, rep, v64]⟩
  · split at h
    · rename_i s' hs
      simp only [Option.some.injEq, Prod.mk.injEq] at h
      obtain ⟨rfl, rfl⟩ := h
      exact fun L => dS_ok L m d _ v hs hl
    · cases h

theorem reflectL_ok {k m : Nat} {base : Nat} {w : World} : ∀ {l : List D} {t : List SV} {row : Option SV} {vs : List Value}, reflectL k m l = some (t, row) → lie (some base) w l vs → Gives base w k (fun L => reps L t vs) row
  | [], t, row, vs, h, hl => by
    simp only [reflectL, Option.some.injEq, Prod.mk.injEq] at h
    obtain ⟨rfl, rfl⟩ := h
    simp only [lie] at hl; subst hl
    intro L; simp only [reps]
  | d :: l, t, row, vs, h, hl => by
    simp only [lie] at hl
    obtain ⟨v, vt, rfl, hv, hl⟩ := hl
    simp only [reflectL] at h
    split at h
    · rename_i s t' r' h1 h2
      simp only [Option.some.injEq, Prod.mk.injEq] at h
      obtain ⟨rfl, rfl⟩ := h
      have g1 := reflect1_ok h1 hv
      have g2 := reflectL_ok h2 hl
      cases r' with
      | none => intro L; simp only [reps]; exact ⟨v, vt, rfl, g1 L, g2 L⟩
      | some c =>
        obtain ⟨o, o1, o2, o3⟩ := g2
        exact ⟨o, o1, o2, fun L hL => by simp only [reps]; exact ⟨v, vt, rfl, g1 L, o3 L hL⟩⟩
    · rename_i s c t' h1 h2
      simp only [Option.some.injEq, Prod.mk.injEq] at h
      obtain ⟨rfl, rfl⟩ := h
      obtain ⟨o, o1, o2, o3⟩ := reflect1_ok h1 hv
      have g2 := reflectL_ok h2 hl
      exact ⟨o, o1, o2, fun L hL => by simp only [reps]; exact ⟨v, vt, rfl, o3 L hL, g2 L⟩⟩
    · cases h

theorem reflect_ok {k m : Nat} {d : D} {s : SV} {row : Option SV} {base : Nat} {w : World} {v : Value} (h : reflect k m d = some (s, row)) (hl : lies (some base) w d v) : Gives base w k (fun L => rep L s v) row := by
  unfold reflect at h
  split at h
  · rename_i l
    split at h
    · rename_i t r ht
      simp only [Option.some.injEq, Prod.mk.injEq] at h
      obtain ⟨rfl, rfl⟩ := h
      simp only [lies] at hl
      obtain ⟨cs, rfl, hl⟩ := hl
      have g := reflectL_ok ht hl
      cases r with
      | none => intro L; simp only [rep]; exact ⟨cs, rfl, g L⟩
      | some c =>
        obtain ⟨o, o1, o2, o3⟩ := g
        exact ⟨o, o1, o2, fun L hL => by simp only [rep]; exact ⟨cs, rfl, o3 L hL⟩⟩
    · cases h
  · exact reflect1_ok h hl

abbrev Table := Nat → Option Spec
def TableOK (P : Program) (G : List (Nat × SV)) (sp : Table) : Prop := ∀ f s, sp f = some s → Sound P G f s

def evCall (sp : Table) (ρ : Operand → SV) (rows : Rows) (k : Nat) (c : Call) (K : OpK D) : Option D :=
  match c.callee with
  | .value f => match ρ f with
    | .clo fid caps => match mapO (reifyU false rows 6) (mapSV ρ c.args.toList ++ caps) with
      | some ds => if (mapSV ρ c.args.toList ++ caps).all (okR rows 6) = true then match sp fid with
        | some s => s ds fun d => match reflect k 6 d with
          | some (sv, row) => K sv row
          | none => none
        | none => none else none
      | none => none
    | _ => none
  | _ => none

theorem Goes.call {P : Program} {o : Oper} {a : Act} {w : World} {R : Value → World → Prop} {f : FuncId} {args : Array Value} (h : (execOp a.eval o).run P w = .ok (.enter f args) w)
    (hc : Calls P f args w fun e w' => ∃ v, e = .returned v ∧ R v w') : Goes P o a w R := by
  intro next Q hn
  unfold Oper.wp
  rw [h, Oper.upon_enter]
  exact hc.mono fun e w' ⟨v, he, hr⟩ => by subst he; exact hn v w' hr

theorem reps_append {L : List (Option Loc)} : ∀ {l m : List SV} {vs us : List Value}, reps L l vs → reps L m us → reps L (l ++ m) (vs ++ us)
  | [], m, vs, us, h, h' => by simp only [reps] at h; subst h; simpa using h'
  | s :: l, m, vs, us, h, h' => by
    simp only [reps] at h
    obtain ⟨v, t, rfl, hv, h⟩ := h
    simp only [List.cons_append, reps]
    exact ⟨v, _, rfl, hv, reps_append h h'⟩

theorem Glob.grow {G : List (Nat × SV)} {w w' : World} (h : Glob G w) (hb : Below w.heap.size w w') : Glob G w' := by
  intro g c hm
  obtain ⟨h1, h2⟩ := h g c hm
  exact ⟨Nat.lt_of_lt_of_le h1 hb.size, fun j hj => let ⟨v, h3, h4⟩ := h2 j hj; ⟨v, by rw [hb.cell (p := ⟨g, j, none⟩) h1]; exact h3, h4⟩⟩

theorem evCall_ok {P : Program} {G : List (Nat × SV)} {ρ : Operand → SV} {rows : Rows} {k : Nat} {sp : Table} (hsp : TableOK P G sp) {c : Call} {K : OpK D} {r : D} (h : evCall sp ρ rows k c K = some r) :
    ∃ s row, K s row = some r ∧ QGo P G ρ rows k (.call c) s row := by
  unfold evCall at h
  split at h
  · rename_i f hf
    split at h
    · rename_i fid caps hclo
      split at h
      · rename_i ds hds0
        split at h
        case isFalse => cases h
        rename_i hall
        have hds := mapO_congr (reifyU_ok 6) hds0 hall
        split at h
        · rename_i s hs
          obtain ⟨d, hd, hgo⟩ := hsp fid s hs ds _ r h
          split at hd
          · rename_i sv row hrow
            refine ⟨sv, row, hd, fun w0 o ho L a w rows' hρ hw hsub hk hG _ => ?_⟩
            have hcl := hρ f (by simp [Op.operands, Call.operands, hf])
            rw [hclo] at hcl
            simp only [rep] at hcl
            obtain ⟨cs, hfv, hcs⟩ := hcl
            have hargs : reps L (mapSV ρ c.args.toList ++ caps) (c.args.toList.map a.eval ++ cs) :=
              reps_append (mapSV_rep _ fun x hx => hρ x (by simp only [Op.operands, Call.operands, Array.mem_append]; exact .inr (Array.mem_toList_iff.1 hx))) hcs
            -- the rows that evCall read are those of rows'
            have lieArgs : lie none w ds (c.args.toList.map a.eval ++ cs) := by
              have mono : ∀ (m : Nat) (s : SV) (d : D), reify false rows m s = some d → reify false rows' m s = some d := by
                intro m
                induction m with
                | zero => intro s d h; cases h
                | succ m ih =>
                  intro s d h
                  have mm : ∀ (l : List SV) (t : List D), mapO (reify false rows m) l = some t → mapO (reify false rows' m) l = some t := by
                    intro l
                    induction l with
                    | nil => intro t h; exact h
                    | cons x l ihl =>
                      intro t h
                      simp only [mapO] at h ⊢
                      split at h
                      · rename_i y u hy hu
                        rw [ih x y hy, ihl u hu]; exact h
                      · cases h
                  cases s <;> simp only [reify, reduceCtorEq, Option.some.injEq] at h ⊢ <;> try exact h
                  case ptr r off =>
                    simp only [Bool.false_eq_true, if_false] at h ⊢
                    split at h
                    · rename_i row hrow
                      rw [hsub r row hrow]
                      simp only []
                      split at h <;> try exact h
                      split at h
                      · rename_i t ht
                        rw [mm _ _ ht]; exact h
                      · cases h
                    · cases h
                  case sl r off len =>
                    split at h
                    · rename_i row hrow
                      rw [hsub r row hrow]
                      simp only [Bool.false_and, Bool.false_eq_true, if_false] at h ⊢
                      split at h <;> try exact h
                      split at h
                      · rename_i hle
                        rw [if_pos hle]
                        split at h
                        · rename_i t ht
                          rw [mm _ _ ht]; exact h
                        · cases h
                      · cases h
                    · cases h
                  case agg l =>
                    split at h
                    · rename_i t ht
                      rw [mm _ _ ht]; exact h
                    · cases h
                  case tup l =>
                    split at h
                    · rename_i t ht
                      rw [mm _ _ ht]; exact h
                    · cases h
                  case clo f l =>
                    split at h
                    · rename_i t ht
                      rw [mm _ _ ht]; exact h
                    · cases h
              exact lie_of (f := reify false rows 6) (fun s d v h1 h2 => reify_ok hw 6 s d v (mono 6 s d h1) h2) hds hargs
            have hrun : (execOp a.eval o).run P w = (callFunc fid ⟨c.args.toList.map a.eval ++ cs⟩).run P w := by
              have e1 : c.args.map a.eval ++ (⟨cs⟩ : Array Value) = ⟨c.args.toList.map a.eval ++ cs⟩ := by
                apply Array.ext'; simp
              simp only [execOp, ho, resolve, hf, hfv, Deferred.ofValue]
              simp only [Sem.run_bind, Sem.run_pure, Result.andThen_ok, invoke, Array.empty_append, e1]
            have fin : ∀ (v : Value) (w' : World), Below w.heap.size w w' → lies (some w.heap.size) w' d v → ∃ L', Ext k L L' ∧ rep L' sv v ∧ RowsOK w0 L' (setRow rows' k row) w' := by
              intro v w' hb hl
              have g := reflect_ok hrow hl
              cases row with
              | none => exact ⟨L, Ext.refl k L, g L, hw.grow hb⟩
              | some con =>
                obtain ⟨lc, o1, o2, o3⟩ := g
                obtain ⟨hk1, hk2⟩ := hk (by simp)
                exact ⟨_, Ext.set hk2 lc, o3 _ (lo_set_self (by rw [hw.size]; exact hk1)), hw.fill hb hk1 hk2 o1 (o2 L)⟩
            rcases hgo w _ (hG.grow ⟨hw.below.os, hw.below.tape, hw.below.output, hw.below.size, hw.below.block⟩) lieArgs with ⟨v, w', h1, h2, h3⟩ | ⟨h1, h2⟩
            · exact Goes.value (by rw [hrun]; exact h1) (fin v w' h2 h3)
            · refine Goes.call (by rw [hrun]; exact h1) ?_
              exact Calls.mono h2 fun e w' ⟨v, he, hb, hl⟩ => ⟨v, he, fin v w' hb hl⟩
          · cases hd
        · cases h
      · cases h
    · cases h
  · cases h
end Go.Ev
