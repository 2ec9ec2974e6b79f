/-
  Part of the proof; what its functions and lemmas say stands in the text.
-/
import Derived.Test.YtakonchpkchfhaaDoorEv19
set_option linter.unusedSimpArgs false
set_option linter.unusedVariables false
/-!
Functions: what exec computes is what the call gives.
-/
namespace Go.Ev
open Go.RowKit

structure ArgsOK (w : World) (L : List (Option Loc)) (rows : Rows) : Prop where
  size : L.length = rows.length
  row : ∀ (r : Nat) (row : Row), rows[r]? = some (some row) → row.own = false ∧ ∃ o, lo L r = some o ∧ RowOK L o row w

theorem lo_app {L M : List (Option Loc)} {r : Nat} (h : r < L.length) : lo (L ++ M) r = lo L r := by
  simp [lo, List.getElem?_append_left h]
theorem lo_lt {L : List (Option Loc)} {r : Nat} {o : Loc} (h : lo L r = some o) : r < L.length := by
  rcases Nat.lt_or_ge r L.length with h' | h'
  · exact h'
  · simp only [lo, List.getElem?_eq_none h'] at h; cases h
theorem app_mono {L M : List (Option Loc)} : ∀ (r : Nat) (p : Loc), lo L r = some p → lo (L ++ M) r = some p := fun r p h => by rw [lo_app (lo_lt h)]; exact h

theorem ArgsOK.push {w : World} {L : List (Option Loc)} {rows : Rows} (h : ArgsOK w L rows) {o : Loc} {con : SV} (hr : RowOK L o ⟨con, false⟩ w) : ArgsOK w (L ++ [some o]) (rows ++ [some ⟨con, false⟩]) := by
  refine ⟨by simp [h.size], fun r row hrow => ?_⟩
  rcases Nat.lt_or_ge r rows.length with hlt | hge
  · rw [List.getElem?_append_left hlt] at hrow
    obtain ⟨h1, p, h2, h3⟩ := h.row r row hrow
    exact ⟨h1, p, app_mono r p h2, h3.mono app_mono⟩
  · rw [List.getElem?_append_right hge] at hrow
    have : r = rows.length := by
      rcases Nat.eq_zero_or_pos (r - rows.length) with h0 | h0
      · omega
      · rw [List.getElem?_eq_none (by simp; omega)] at hrow; cases hrow
    subst this
    simp only [Nat.sub_self, List.getElem?_cons_zero, Option.some.injEq] at hrow
    subst hrow
    refine ⟨rfl, o, ?_, hr.mono app_mono⟩
    simp [lo, ← h.size]
theorem lo_last {L : List (Option Loc)} {o : Loc} {n : Nat} (h : n = L.length) : lo (L ++ [some o]) n = some o := by
  subst h; simp [lo]

mutual
theorem enter_ok {w : World} : ∀ (d : D) (v : Value) (L : List (Option Loc)) (rows : Rows), lies none w d v → ArgsOK w L rows →
    ∃ M, ArgsOK w (L ++ M) (rows ++ (enter d rows.length).2) ∧ rep (L ++ M) (enter d rows.length).1 v
  | .any, v, L, rows, _, h => ⟨[], by simpa [enter] using h, by simp only [enter, rep]⟩
  | .bool _, v, L, rows, hl, h => ⟨[], by simpa [enter] using h, by simpa only [enter, rep, lies] using hl⟩
  | .i _ _, v, L, rows, hl, h => ⟨[], by simpa [enter] using h, by simpa only [enter, rep, lies] using hl⟩
  | .u8 _, v, L, rows, hl, h => ⟨[], by simpa [enter] using h, by simpa only [enter, rep, lies] using hl⟩
  | .u16 _, v, L, rows, hl, h => ⟨[], by simpa [enter] using h, by simpa only [enter, rep, lies] using hl⟩
  | .u32 _, v, L, rows, hl, h => ⟨[], by simpa [enter] using h, by simpa only [enter, rep, lies] using hl⟩
  | .u64 _, v, L, rows, hl, h => ⟨[], by simpa [enter] using h, by simpa only [enter, rep, lies] using hl⟩
  | .f _ _, v, L, rows, hl, h => ⟨[], by simpa [enter] using h, by simpa only [enter, rep, lies] using hl⟩
  | .nan _, v, L, rows, hl, h => ⟨[], by simpa [enter] using h, by simpa only [enter, rep, lies] using hl⟩
  | .c _, v, L, rows, hl, h => ⟨[], by simpa [enter] using h, by simpa only [enter, rep, lies] using hl⟩
  | .ai _ _, v, L, rows, hl, h => ⟨[], by simpa [enter] using h, by simpa only [enter, rep, lies] using hl⟩
  | .a8 _, v, L, rows, hl, h => ⟨[], by simpa [enter] using h, by simpa only [enter, rep, lies] using hl⟩
  | .a64 _, v, L, rows, hl, h => ⟨[], by simpa [enter] using h, by simpa only [enter, rep, lies] using hl⟩
  | .ref l, v, L, rows, hl, h => by
    simp only [lies] at hl
    obtain ⟨b, o, rfl, hb, hat⟩ := hl
    obtain ⟨M, h1, h2⟩ := enterAt_ok l b o L rows hat h
    have hlen := enterL_len l rows.length
    refine ⟨M ++ [some ⟨b, o, l.length⟩], ?_, ?_⟩
    · simp only [enter]
      rw [← List.append_assoc, ← List.append_assoc]
      refine h1.push ⟨by simp [SV.len, hlen], hb, fun j hj => ?_, (fun e => by cases e), (fun e => by cases e)⟩
      exact h2 j (by simpa [SV.len, hlen] using hj)
    · simp only [enter, rep]
      rw [← List.append_assoc]
      exact ⟨_, lo_last (by rw [h1.size]; simp), by simp⟩
  | .refI k l, v, L, rows, hl, h => by
    simp only [lies] at hl
    obtain ⟨b, o, rfl, hb, hat⟩ := hl
    refine ⟨[some ⟨b, o, l.length⟩], h.push ⟨by simp [SV.len], hb, fun j hj => ⟨_, hat j (by simpa [SV.len] using hj), by simp only [SV.cell, rep, vi]⟩, (fun e => by cases e), (fun e => by cases e)⟩, ?_⟩
    simp only [enter, rep]
    exact ⟨_, lo_last h.size.symm, by simp⟩
  | .ref8 l, v, L, rows, hl, h => by
    simp only [lies] at hl
    obtain ⟨b, o, rfl, hb, hat⟩ := hl
    refine ⟨[some ⟨b, o, l.length⟩], h.push ⟨by simp [SV.len], hb, fun j hj => ⟨_, hat j (by simpa [SV.len] using hj), by simp only [SV.cell, rep, v8]⟩, (fun e => by cases e), (fun e => by cases e)⟩, ?_⟩
    simp only [enter, rep]
    exact ⟨_, lo_last h.size.symm, by simp⟩
  | .ref64 l, v, L, rows, hl, h => by
    simp only [lies] at hl
    obtain ⟨b, o, rfl, hb, hat⟩ := hl
    refine ⟨[some ⟨b, o, l.length⟩], h.push ⟨by simp [SV.len], hb, fun j hj => ⟨_, hat j (by simpa [SV.len] using hj), by simp only [SV.cell, rep, v64]⟩, (fun e => by cases e), (fun e => by cases e)⟩, ?_⟩
    simp only [enter, rep]
    exact ⟨_, lo_last h.size.symm, by simp⟩
  | .sl l, v, L, rows, hl, h => by
    simp only [lies] at hl
    obtain ⟨b, o, cap, rfl, hb, hcap, hat, _⟩ := hl
    obtain ⟨M, h1, h2⟩ := enterAt_ok l b o L rows hat h
    have hlen := enterL_len l rows.length
    refine ⟨M ++ [some ⟨b, o, cap⟩], ?_, ?_⟩
    · simp only [enter]
      rw [← List.append_assoc, ← List.append_assoc]
      refine h1.push ⟨by simp [SV.len, hlen]; exact hcap, hb, fun j hj => ?_, (fun e => by cases e), (fun e => by cases e)⟩
      exact h2 j (by simpa [SV.len, hlen] using hj)
    · simp only [enter, rep]
      rw [← List.append_assoc]
      exact ⟨_, cap, lo_last (by rw [h1.size]; simp), hcap, by simp, by simp⟩
  | .slI k l, v, L, rows, hl, h => by
    simp only [lies] at hl
    obtain ⟨b, o, cap, rfl, hb, hcap, hat, _⟩ := hl
    refine ⟨[some ⟨b, o, cap⟩], h.push ⟨by simpa [SV.len] using hcap, hb, fun j hj => ⟨_, hat j (by simpa [SV.len] using hj), by simp only [SV.cell, rep, vi]⟩, (fun e => by cases e), (fun e => by cases e)⟩, ?_⟩
    simp only [enter, rep]
    exact ⟨_, cap, lo_last h.size.symm, hcap, by simp, by simp⟩
  | .sl8 l, v, L, rows, hl, h => by
    simp only [lies] at hl
    obtain ⟨b, o, cap, rfl, hb, hcap, hat, _⟩ := hl
    refine ⟨[some ⟨b, o, cap⟩], h.push ⟨by simpa [SV.len] using hcap, hb, fun j hj => ⟨_, hat j (by simpa [SV.len] using hj), by simp only [SV.cell, rep, v8]⟩, (fun e => by cases e), (fun e => by cases e)⟩, ?_⟩
    simp only [enter, rep]
    exact ⟨_, cap, lo_last h.size.symm, hcap, by simp, by simp⟩
  | .sl64 l, v, L, rows, hl, h => by
    simp only [lies] at hl
    obtain ⟨b, o, cap, rfl, hb, hcap, hat, _⟩ := hl
    refine ⟨[some ⟨b, o, cap⟩], h.push ⟨by simpa [SV.len] using hcap, hb, fun j hj => ⟨_, hat j (by simpa [SV.len] using hj), by simp only [SV.cell, rep, v64]⟩, (fun e => by cases e), (fun e => by cases e)⟩, ?_⟩
    simp only [enter, rep]
    exact ⟨_, cap, lo_last h.size.symm, hcap, by simp, by simp⟩
  | .agg l, v, L, rows, hl, h => by
    simp only [lies] at hl
    obtain ⟨cs, rfl, hl⟩ := hl
    obtain ⟨M, h1, h2⟩ := enterL_ok l cs L rows hl h
    exact ⟨M, by simpa only [enter] using h1, by simp only [enter, rep]; exact ⟨cs, rfl, h2⟩⟩
  | .tup l, v, L, rows, hl, h => by
    simp only [lies] at hl
    obtain ⟨cs, rfl, hl⟩ := hl
    obtain ⟨M, h1, h2⟩ := enterL_ok l cs L rows hl h
    exact ⟨M, by simpa only [enter] using h1, by simp only [enter, rep]; exact ⟨cs, rfl, h2⟩⟩
  | .clo f l, v, L, rows, hl, h => by
    simp only [lies] at hl
    obtain ⟨cs, rfl, hl⟩ := hl
    obtain ⟨M, h1, h2⟩ := enterL_ok l cs L rows hl h
    exact ⟨M, by simpa only [enter] using h1, by simp only [enter, rep]; exact ⟨cs, rfl, h2⟩⟩
theorem enterL_ok {w : World} : ∀ (l : List D) (vs : List Value) (L : List (Option Loc)) (rows : Rows), lie none w l vs → ArgsOK w L rows →
    ∃ M, ArgsOK w (L ++ M) (rows ++ (enterL l rows.length).2) ∧ reps (L ++ M) (enterL l rows.length).1 vs
  | [], vs, L, rows, hl, h => ⟨[], by simpa [enterL] using h, by simpa [enterL, reps, lie] using hl⟩
  | d :: l, vs, L, rows, hl, h => by
    simp only [lie] at hl
    obtain ⟨v, t, rfl, hv, hl⟩ := hl
    obtain ⟨M, h1, h2⟩ := enter_ok d v L rows hv h
    obtain ⟨N, h3, h4⟩ := enterL_ok l t _ _ hl h1
    simp only [List.length_append] at h3 h4
    refine ⟨M ++ N, ?_, ?_⟩
    · simp only [enterL]
      rw [← List.append_assoc, ← List.append_assoc]; exact h3
    · simp only [enterL, reps]
      rw [← List.append_assoc]
      exact ⟨v, t, rfl, rep_mono app_mono h2, h4⟩
theorem enterAt_ok {w : World} : ∀ (l : List D) (b o : Nat) (L : List (Option Loc)) (rows : Rows), lieAt none w b o l → ArgsOK w L rows →
    ∃ M, ArgsOK w (L ++ M) (rows ++ (enterL l rows.length).2) ∧ ∀ j, j < l.length → ∃ v, w.cell? ⟨b, o + j, none⟩ = some v ∧ rep (L ++ M) ((enterL l rows.length).1.getD j .any) v
  | [], b, o, L, rows, hl, h => ⟨[], by simpa [enterL] using h, fun j hj => by cases hj⟩
  | d :: l, b, o, L, rows, hl, h => by
    simp only [lieAt] at hl
    obtain ⟨⟨u, hu, hd⟩, hl⟩ := hl
    obtain ⟨M, h1, h2⟩ := enter_ok d u L rows hd h
    obtain ⟨N, h3, h4⟩ := enterAt_ok l b (o + 1) _ _ hl h1
    simp only [List.length_append] at h3 h4
    refine ⟨M ++ N, ?_, fun j hj => ?_⟩
    · simp only [enterL]
      rw [← List.append_assoc, ← List.append_assoc]; exact h3
    · rw [← List.append_assoc]
      cases j with
      | zero => exact ⟨u, by simpa using hu, by simpa [enterL] using rep_mono app_mono h2⟩
      | succ j =>
        obtain ⟨v, h5, h6⟩ := h4 j (by simpa using hj)
        exact ⟨v, by rw [← h5]; congr 2; omega, by simpa [enterL] using h6⟩
theorem enterL_len : ∀ (l : List D) (n : Nat), (enterL l n).1.length = l.length
  | [], _ => rfl
  | d :: l, n => by simp [enterL, enterL_len l]
end

def resK (P : Program) (st : St) : List ResultVar → (List SV → Option D) → Option D
  | [], K => K []
  | .tmp t :: l, K => resK P st l (fun ss => K (st.tmps.getD t .any :: ss))
  | .cell t ty :: l, K => match st.tmps.getD t .any with
    | .ptr r off => match st.rows[r]? with
      | some (some row) => loadK P ty row.con off (fun s => resK P st l (fun ss => K (s :: ss)))
      | _ => none
    | _ => none

def finK (st : St) (K : D → Option D) : List SV → Option D
  | [s] => match reifyU true st.rows 6 s with | some d => if okR st.rows 6 s = true then K d else none | none => none
  | ss => match reifyU true st.rows 6 (.tup ss) with | some d => if okR st.rows 6 (.tup ss) = true then K d else none | none => none

def execFnL (P : Program) (G : List (Nat × SV)) (sp : Table) (ann : Nat → List Nat) (ls : Nat → Option LoopF) (fn : Func) (n : Nat) : Spec := fun ds K =>
  match fn.body with
  | none => none
  | some c =>
    exec P G sp ann ls n c ⟨(enterL ds 0).1 ++ List.replicate (fn.ntmps - ds.length) .any, (enterL ds 0).2⟩ (fun e st => match e with
      | .exit _ => none
      | _ => resK P st fn.results.toList (finK st K))

abbrev execFn (P : Program) (G : List (Nat × SV)) (sp : Table) (ann : Nat → List Nat) (fn : Func) (n : Nat) : Spec := execFnL P G sp ann (fun _ => none) fn n

section
variable {P : Program} {G : List (Nat × SV)} {sp : Table} {ann : Nat → List Nat} {ls : Nat → Option LoopF}

def oneRes (tmps : Array Value) : ResultVar → Sem Value
  | .tmp t => pure (tmps.getD t undef)
  | .cell a t => do loadVar t (← asAddr (tmps.getD a undef))

theorem resK_ok {st : St} : ∀ (rs : List ResultVar) (K : List SV → Option D) (r : D), resK P st rs K = some r → ∃ ss, K ss = some r ∧ ss.length = rs.length ∧
    ∀ (w0 : World) (L : List (Option Loc)) (a : Act) (w : World), Rel w0 L st a w → ∃ vs : List Value, reps L ss vs ∧ (rs.mapM (oneRes a.tmps)).run P w = .ok vs w
  | [], K, r, h => ⟨[], h, rfl, fun w0 L a w _ => ⟨[], by simp [reps], by simp⟩⟩
  | .tmp t :: l, K, r, h => by
    simp only [resK] at h
    obtain ⟨ss, h1, hl, h2⟩ := resK_ok l _ r h
    refine ⟨_, h1, by simp [hl], fun w0 L a w hrel => ?_⟩
    obtain ⟨vs, h3, h4⟩ := h2 w0 L a w hrel
    refine ⟨a.tmps.getD t undef :: vs, ?_, ?_⟩
    · simp only [reps]; exact ⟨_, vs, rfl, operand_rep hrel.tmps (.tmp t), h3⟩
    · simp [List.mapM_cons, oneRes, h4]
  | .cell t ty :: l, K, r, h => by
    simp only [resK] at h
    split at h
    · rename_i n off ht
      split at h
      · rename_i row hrow
        obtain ⟨s, hs, hgo⟩ := loadK_ok h
        obtain ⟨ss, h1, hl, h2⟩ := resK_ok l _ r hs
        refine ⟨_, h1, by simp [hl], fun w0 L a w hrel => ?_⟩
        obtain ⟨vs, h3, h4⟩ := h2 w0 L a w hrel
        have hp := operand_rep hrel.tmps (.tmp t)
        simp only [operandSV, ht, rep, Act.eval] at hp
        obtain ⟨lc, hlc, hv⟩ := hp
        obtain ⟨v, h5, h6⟩ := hgo L w lc.blk lc.base (fun m hm => (hrel.rows.row n row lc hrow hlc).read off m hm)
        refine ⟨v :: vs, ?_, ?_⟩
        · simp only [reps]; exact ⟨v, vs, rfl, h6, h3⟩
        · simp [List.mapM_cons, oneRes, hv, asAddr, h5, h4]
      · cases h
    · cases h

def packV : List Value → Value
  | [v] => v
  | vs => .tuple ⟨vs⟩

theorem results_eq (fn : Func) (tmps : Array Value) (w : World) {vs : List Value} (h : (fn.results.toList.mapM (oneRes tmps)).run P w = .ok vs w) :
    (results fn tmps).run P w = .ok (packV vs) w := by
  have e : results fn tmps = (do let vs ← fn.results.mapM (oneRes tmps); pure (if h : vs.size = 1 then vs[0] else .tuple vs)) := by
    unfold results
    congr 1
  rw [e, Array.mapM_eq_mapM_toList]
  simp only [bind_map_left, Sem.run_bind, h, Result.andThen_ok, Sem.run_pure]
  congr 1
  match vs with
  | [] => rfl
  | [v] => rfl
  | v :: u :: l => simp [packV]

theorem reps_undefs (L : List (Option Loc)) : ∀ n, reps L (List.replicate n .any) (List.replicate n undef)
  | 0 => rfl
  | n + 1 => by rw [List.replicate_succ, List.replicate_succ]; exact ⟨_, _, rfl, trivial, reps_undefs L n⟩

theorem lie_length {own : Option Nat} {w : World} : ∀ {ds : List D} {vs : List Value}, lie own w ds vs → vs.length = ds.length
  | [], vs, h => by simp only [lie] at h; subst h; rfl
  | d :: l, vs, h => by
    simp only [lie] at h
    obtain ⟨v, t, rfl, _, h⟩ := h
    simp [lie_length h]

theorem finK_ok {st : St} {K : D → Option D} {r : D} {ss : List SV} (h : finK st K ss = some r) : ∃ d, K d = some r ∧
    ∀ (w0 : World) (L : List (Option Loc)) (a : Act) (w : World), Rel w0 L st a w → ∀ vs : List Value, reps L ss vs → lies (some w0.heap.size) w d (packV vs) := by
  have tup : ∀ {K : D → Option D} {ss : List SV}, ss.length ≠ 1 → (match reifyU true st.rows 6 (.tup ss) with | some d => if okR st.rows 6 (.tup ss) = true then K d else none | none => none) = some r → ∃ d, K d = some r ∧
      ∀ (w0 : World) (L : List (Option Loc)) (a : Act) (w : World), Rel w0 L st a w → ∀ vs : List Value, reps L ss vs → lies (some w0.heap.size) w d (packV vs) := by
    intro K ss hne h
    split at h
    · rename_i d hd0
      split at h
      case isFalse => cases h
      rename_i hok
      have hd := reifyU_ok 6 _ d hd0 hok
      refine ⟨d, h, fun w0 L a w hrel vs hvs => ?_⟩
      have := reify_ok hrel.rows 6 _ d (.tuple ⟨vs⟩) hd (by simp only [rep]; exact ⟨vs, rfl, hvs⟩)
      have hl := reps_length hvs
      match vs, hl, this with
      | [], _, t => exact t
      | [v], hl, _ => exact absurd hl.symm (by simpa using hne)
      | v :: u :: l, _, t => exact t
    · cases h
  match ss, h with
  | [], h => exact tup (by simp) h
  | [s], h =>
    simp only [finK] at h
    split at h
    · rename_i d hd0
      split at h
      case isFalse => cases h
      rename_i hok
      have hd := reifyU_ok 6 _ d hd0 hok
      refine ⟨d, h, fun w0 L a w hrel vs hvs => ?_⟩
      simp only [reps] at hvs
      obtain ⟨v, t, rfl, hv, rfl⟩ := hvs
      exact reify_ok hrel.rows 6 _ d v hd hv
    · cases h
  | s :: t :: l, h => exact tup (by simp) h

theorem execFnL_sound (hsp : TableOK P G sp) (hm : P.follows .mixedOrders = true) {f : FuncId} {fn : Func} (hf : P.funcs[f]? = some fn) (hn : (fn.name == "runtime.NumGoroutine") = false) (n : Nat) (hls : ∀ c, fn.body = some c → LsOK P G ls c) :
    Sound P G f (execFnL P G sp ann ls fn n) := by
  intro ds K r h
  unfold execFnL at h
  split at h
  · cases h
  · rename_i c hb
    obtain ⟨e, st', h1, h2⟩ := exec_ok hsp hm n c (hls c hb) _ _ r h
    have fin : ∃ d, K d = some r ∧ e ≠ .normal → True := ⟨r, fun _ => trivial⟩
    have go : resK P st' fn.results.toList (finK st' K) = some r → (e = .normal ∨ e = .ret) → ∃ d, K d = some r ∧ ∀ w args, Glob G w → lie none w ds args → CallGo P f args w d := by
      intro h1 he
      obtain ⟨ss, h3, h4, h5⟩ := resK_ok _ _ r h1
      obtain ⟨d, h6, h7⟩ := finK_ok h3
      refine ⟨d, h6, fun w args hG hl => .inr ⟨?_, ?_⟩⟩
      · unfold callFunc
        simp only [Sem.run_bind, run_program, Result.andThen_ok, hf, hn, hb, Option.isNone_some, Bool.false_eq_true, if_false, Sem.run_pure]
      · refine calls_of_wp hf hb ?_
        obtain ⟨M, g1, g2⟩ := enterL_ok ds args [] [] hl ⟨rfl, fun r row h => by simp at h⟩
        simp only [List.nil_append, List.length_nil] at g1 g2
        have hlen := lie_length hl
        have hrel : Rel w M ⟨(enterL ds 0).1 ++ List.replicate (fn.ntmps - ds.length) .any, (enterL ds 0).2⟩ { tmps := (⟨args⟩ : Array Value) ++ Array.replicate (fn.ntmps - args.length) undef, defers := [] } w := by
          refine ⟨rfl, ?_, ⟨Below.refl _ _, by simpa using g1.size, fun r row hr => ?_, fun r row o hr ho => ?_, fun r s row row' o o' _ hr _ _ _ hown => ?_, fun r row o hr ho hown => ?_⟩⟩
          · have e1 : ((⟨args⟩ : Array Value) ++ Array.replicate (fn.ntmps - args.length) undef).toList = args ++ List.replicate (fn.ntmps - ds.length) undef := by
              rw [Array.toList_append]; simp [hlen]
            rw [e1]
            exact reps_append g2 (reps_undefs M _)
          · obtain ⟨_, o, h8, _⟩ := g1.row r row hr; exact ⟨o, h8⟩
          · obtain ⟨_, o', h8, h9⟩ := g1.row r row hr
            rw [h8] at ho; cases ho; exact h9
          · have := (g1.row r row hr).1; rw [this] at hown; cases hown
          · have := (g1.row r row hr).1; rw [this] at hown; cases hown
        refine h2 w M _ w hG hrel _ fun L' a' w' hrel' => ?_
        obtain ⟨vs, h8, h9⟩ := h5 w L' a' w' hrel'
        have post : a'.defers = [] ∧ ∃ v, (results fn a'.tmps).run P w' = .ok v w' ∧ ∃ u, Ending.returned v = .returned u ∧ Below w.heap.size w w' ∧ lies (some w.heap.size) w' d u :=
          ⟨hrel'.defers, _, results_eq fn a'.tmps w' h9, _, rfl, hrel'.rows.below, h7 w L' a' w' hrel' vs h8⟩
        rcases he with rfl | rfl <;> exact post
    cases e with
    | normal => exact go h1 (.inl rfl)
    | ret => exact go h1 (.inr rfl)
    | exit id => cases h1
theorem execFn_sound (hsp : TableOK P G sp) (hm : P.follows .mixedOrders = true) {f : FuncId} {fn : Func} (hf : P.funcs[f]? = some fn) (hn : (fn.name == "runtime.NumGoroutine") = false) (n : Nat) :
    Sound P G f (execFn P G sp ann fn n) := execFnL_sound hsp hm hf hn n fun _ _ => LsOK.none
end
end Go.Ev
