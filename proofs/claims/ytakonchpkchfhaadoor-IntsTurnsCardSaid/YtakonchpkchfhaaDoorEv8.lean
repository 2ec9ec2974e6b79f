/-
  Part of the proof; what its functions and lemmas say stands in the text.
-/
import Derived.Test.YtakonchpkchfhaaDoorEv7
set_option linter.unusedSimpArgs false
set_option linter.unusedVariables false
/-!
Operations without calls, the rest.
-/
namespace Go.Ev
open Go.RowKit
variable {α : Type}

/-- Equality of what has no parts, of a type. -/
def eqS (d : TypeDesc) (x y : SV) : Option Bool :=
  match d, x, y with
  | .bool, .bool a, .bool b => some (a == b)
  | .int _, .i k a, .i k' b => if k = k' then some (a == b) else none
  | .int _, .u8 a, .u8 b => some (a == b)
  | .int _, .u16 a, .u16 b => some (a == b)
  | .int _, .u32 a, .u32 b => some (a == b)
  | .int _, .u64 a, .u64 b => some (a == b)
  | _, _, _ => none

/-- Each field's equality, in order. -/
def eqFs (P : Program) (l m : List SV) : List Field → Option Bool
  | [] => some true
  | f :: fs =>
    if f.name = "_" then none else if l.length ≤ f.offset ∨ m.length ≤ f.offset then none else
    match P.underlying f.type with
    | some d => match eqS d (l.getD f.offset .any) (m.getD f.offset .any) with
      | some b => match fs with
        | [] => some b
        | _ :: _ => match eqFs P l m fs with | some c => some (b && c) | none => none
      | none => none
    | none => none

def eqT (P : Program) (t : TypeId) (x y : SV) : Option Bool :=
  if P.eqGuardType P.depth t || P.stoodInHeld t then none else
  match P.underlying t, x, y with
  | some (.struct fs), .agg l, .agg m => eqFs P l m fs.toList
  | _, _, _ => none

/-- Equality of arrays of numbers. -/
def eqArr (P : Program) (t : TypeId) (x y : SV) : Option (Nat × Bool × Nat × Nat) :=
  if P.eqGuardType P.depth t then none else
  match P.underlying t with
  | some (.array n e) => match P.underlying e, sizeT P e, x, y with
    | some (.int .u8), some 1, .a8 l, .a8 m => some (n, (l == m), l.length, m.length)
    | some (.int .u64), some 1, .a64 l, .a64 m => some (n, (l == m), l.length, m.length)
    | _, _, _, _ => none
  | _ => none

def evBin (P : Program) (op : BinOp) (t : TypeId) (x y : SV) (K : OpK α) : Option α :=
  match x, y with
  | .agg _, .agg _ => match op, eqT P t x y with
    | .eql, some b => K (.bool b) none
    | .neq, some b => K (.bool (!b)) none
    | _, _ => none
  | .a8 _, .a8 _ => match op, eqArr P t x y with
    | .eql, some (n, b, i, j) => if i = n ∧ j = n then K (.bool b) none else none
    | .neq, some (n, b, i, j) => if i = n ∧ j = n then K (.bool (!b)) none else none
    | _, _ => none
  | .a64 _, .a64 _ => match op, eqArr P t x y with
    | .eql, some (n, b, i, j) => if i = n ∧ j = n then K (.bool b) none else none
    | .neq, some (n, b, i, j) => if i = n ∧ j = n then K (.bool (!b)) none else none
    | _, _ => none
  | .bool a, .bool b => match op, P.underlying t with
    | .eql, some .bool => K (.bool (a == b)) none
    | .neq, some .bool => K (.bool (!(a == b))) none
    | _, _ => none
  | .c (.string a), .c (.string b) => match op with
    | .eql => K (.bool (a.data.toList == b.data.toList)) none
    | .neq => K (.bool (!(a.data.toList == b.data.toList))) none
    | _ => none
  | _, _ => binSV op x y (fun s => K s none)

section
variable {P : Program} {G : List (Nat × SV)} {ρ : Operand → SV} {rows : Rows} {k : Nat}

theorem eqS_ok {dt : TypeDesc} {x y : SV} {b : Bool} (h : eqS dt x y = some b) (d : Nat) (t : TypeId) (ht : P.underlying t = some dt) : isAggD dt = false ∧ ∀ (L : List (Option Loc)) (w : World) (vx vy : Value), rep L x vx → rep L y vy →
    (Op.equalIn (d + 1) t vx vy).run P w = .ok b w := by
  unfold eqS at h
  split at h <;> (try simp only [reduceCtorEq, Option.some.injEq] at h)
  · refine ⟨rfl, fun L w vx vy hx hy => ?_⟩
    simp only [rep] at hx hy
    subst hx; subst hy; subst h
    exact run_equalIn_bool' w d t _ _ ht
  · split at h
    · rename_i e; subst e
      simp only [Option.some.injEq] at h
      refine ⟨rfl, fun L w vx vy hx hy => ?_⟩
      simp only [rep] at hx hy
      subst hx; subst hy; subst h
      exact run_equalIn_int w d t _ _ _ _ ht
    · cases h
  all_goals
    refine ⟨rfl, fun L w vx vy hx hy => ?_⟩
    simp only [rep] at hx hy
    subst hx; subst hy; subst h
    rw [bv_beq]
    exact run_equalIn_int w d t _ _ _ _ ht

theorem eqFs_ok {l m : List SV} : ∀ {fs : List Field} {b : Bool}, eqFs P l m fs = some b → ∀ (d : Nat) (L : List (Option Loc)) (w : World) (cs ds : List Value), reps L l cs → reps L m ds →
    (Op.eqFields (d + 1) ⟨cs⟩ ⟨ds⟩ fs).run P w = .ok b w
  | [], b, h, d, L, w, cs, ds, hc, hd => by simp only [eqFs, Option.some.injEq] at h; subst h; simp [Op.eqFields]
  | f :: fs, b, h, d, L, w, cs, ds, hc, hd => by
    rw [eqFs] at h
    split at h
    · cases h
    · rename_i hname
      split at h
      · cases h
      · rename_i hoff
        split at h
        · rename_i dt hdt
          split at h
          · rename_i b1 hb1
            obtain ⟨ha, heq⟩ := eqS_ok hb1 d f.type hdt
            obtain ⟨u, h1, h2⟩ := reps_get hc f.offset (by omega)
            obtain ⟨v, h3, h4⟩ := reps_get hd f.offset (by omega)
            have e1 : (part f.type ⟨cs⟩ f.offset).run P w = .ok u w := by
              unfold part
              rw [Sem.run_bind, run_isAgg hdt, Result.andThen_ok, ha]
              have : (⟨cs⟩ : Array Value)[f.offset]? = some u := by simpa using h1
              simp only [Bool.false_eq_true, if_false, this]; rfl
            have e2 : (part f.type ⟨ds⟩ f.offset).run P w = .ok v w := by
              unfold part
              rw [Sem.run_bind, run_isAgg hdt, Result.andThen_ok, ha]
              have : (⟨ds⟩ : Array Value)[f.offset]? = some v := by simpa using h3
              simp only [Bool.false_eq_true, if_false, this]; rfl
            have hn : (f.name ≠ "_") = True := eq_true hname
            rw [Op.eqFields]
            simp only [hn, if_true, Sem.run_bind, e1, e2, Result.andThen_ok, heq L w u v h2 h4]
            split at h
            · simp only [Option.some.injEq] at h; subst h
              cases b1 <;> simp [Op.eqFields]
            · split at h
              · rename_i c hc'
                simp only [Option.some.injEq] at h; subst h
                have ih := eqFs_ok hc' d L w cs ds hc hd
                cases b1
                · simp
                · simpa using ih
              · cases h
          · cases h
        · cases h

theorem eqT_ok {t : TypeId} {x y : SV} {b : Bool} (h : eqT P t x y = some b) (L : List (Option Loc)) (w : World) (vx vy : Value) (hx : rep L x vx) (hy : rep L y vy) (ox oy : Operand) :
    (do eqGuard .eql t ox oy vx vy; binOp .eql t vx vy : Sem Value).run P w = .ok (.bool b) w ∧ (do eqGuard .neq t ox oy vx vy; binOp .neq t vx vy : Sem Value).run P w = .ok (.bool (!b)) w := by
  unfold eqT at h
  split at h
  · cases h
  · rename_i hg
    simp only [Bool.or_eq_true, not_or, Bool.not_eq_true] at hg
    split at h
    · rename_i fs l m ht
      simp only [rep] at hx hy
      obtain ⟨cs, rfl, hc⟩ := hx
      obtain ⟨ds, rfl, hd⟩ := hy
      have hf : P.fieldsOf t = fs := by simp [Program.fieldsOf, ht]
      have hrun : (Op.equalIn 10000 t (.agg ⟨cs⟩) (.agg ⟨ds⟩)).run P w = .ok b w := by
        rw [run_equalIn_struct w 9999 t _ _ (by rw [hf]; exact ht) hg.2, hf]
        exact eqFs_ok h 9998 L w cs ds hc hd
      constructor
      · rw [Sem.run_bind, run_eqGuard_agg w .eql t ox oy _ _ hg.1, Result.andThen_ok, run_eql_struct, hrun, Result.andThen_ok]
      · rw [Sem.run_bind, run_eqGuard_agg w .neq t ox oy _ _ hg.1, Result.andThen_ok, run_neq_struct, hrun, Result.andThen_ok]
    · cases h

/-- Arrays of numbers. -/
theorem run_eq_arr {q k : IntKind} {t e : TypeId} {n : Nat} (d : Nat) (ht : P.underlying t = some (.array n e)) (he : P.underlying e = some (.int q)) (hz : sizeT P e = some 1) (w : World) (xs ys : List Int) (hx : xs.length = n) (hy : ys.length = n) :
    (Op.equalIn (d + 2) t (.agg ⟨xs.map (vi k)⟩) (.agg ⟨ys.map (vi k)⟩)).run P w = .ok (xs == ys) w := by
  have parts : ∀ (zs : List Int) (j : Nat), j < zs.length → ∀ w, (part e ⟨zs.map (vi k)⟩ (j * 1)).run P w = .ok (.int k (zs.getD j 0)) w := by
    intro zs j hj w
    unfold part
    rw [Sem.run_bind, run_isAgg he, Result.andThen_ok]
    have : (⟨zs.map (vi k)⟩ : Array Value)[j * 1]? = some (.int k (zs.getD j 0)) := by simp [hj, vi]
    simp only [isAggD, Bool.false_eq_true, if_false, this]; rfl
  rw [Op.equalIn, Sem.run_bind, run_underlying ht, Result.andThen_ok]
  simp only [Sem.run_bind, run_sizeT hz, Result.andThen_ok, Std.Legacy.Range.forIn_eq_forIn_range', Std.Legacy.Range.size, Nat.sub_zero, Nat.add_sub_cancel, Nat.div_one]
  have dropc : ∀ (zs : List Int) (o : Nat), o < zs.length → zs.drop o = zs.getD o 0 :: zs.drop (o + 1) := by
    intro zs o ho
    rw [List.drop_eq_getElem_cons ho]; simp [List.getD_eq_getElem?_getD, ho]
  have loop : ∀ (m o : Nat), o + m = n → ∀ w, (forIn (List.range' o m) ((none, ()) : Option Bool × Unit) fun i __s => do
            let __do_lift ← part e { toList := List.map (vi k) xs } (i * 1)
            let __do_lift_1 ← part e { toList := List.map (vi k) ys } (i * 1)
            let __do_lift ← Op.equalIn (d + 1) e __do_lift __do_lift_1
            if (!__do_lift) = true then pure (ForInStep.done (some false, ())) else pure (ForInStep.yield (none, ())) : Sem (Option Bool × Unit)).run P w = .ok (if xs.drop o == ys.drop o then (none, ()) else (some false, ())) w := by
    intro m
    induction m with
    | zero =>
      intro o ho w
      have h1 : xs.drop o = [] := List.drop_eq_nil_of_le (by omega)
      have h2 : ys.drop o = [] := List.drop_eq_nil_of_le (by omega)
      simp [h1, h2]
    | succ m ih =>
      intro o ho w
      rw [List.range'_succ, List.forIn_cons]
      simp only [Sem.run_bind, parts xs o (by omega), parts ys o (by omega), Result.andThen_ok, run_equalIn_int w d e k q _ _ he]
      rw [dropc xs o (by omega), dropc ys o (by omega)]
      by_cases hc : xs.getD o 0 = ys.getD o 0
      · rw [hc]
        simp only [beq_self_eq_true, Bool.not_true, Bool.false_eq_true, if_false, Sem.run_pure, Result.andThen_ok, List.cons_beq_cons, Bool.true_and]
        exact ih (o + 1) (by omega) w
      · have hb : (xs.getD o 0 == ys.getD o 0) = false := beq_eq_false_iff_ne.2 hc
        simp only [hb, Bool.not_false, if_true, Sem.run_pure, Result.andThen_ok, List.cons_beq_cons, Bool.false_and, Bool.false_eq_true, if_false]
  rw [loop n 0 (by omega) w]
  simp only [List.drop_zero, Result.andThen_ok]
  cases h : xs == ys <;> simp

theorem map_inj_beq {w : Nat} (l m : List (BitVec w)) : ((l.map fun x => (x.toNat : Int)) == (m.map fun x => (x.toNat : Int))) = (l == m) := by
  rw [Bool.eq_iff_iff]
  simp only [beq_iff_eq]
  constructor
  · intro h
    refine List.map_inj_right ?_ |>.1 h
    intro a b e
    exact BitVec.eq_of_toNat_eq (by omega)
  · rintro rfl; rfl

theorem eqArr_ok {t : TypeId} {x y : SV} {n : Nat} {b : Bool} {i j : Nat} (h : eqArr P t x y = some (n, b, i, j)) (hi : i = n) (hj : j = n) (L : List (Option Loc)) (w : World) (vx vy : Value) (hx : rep L x vx) (hy : rep L y vy) (ox oy : Operand) :
    (do eqGuard .eql t ox oy vx vy; binOp .eql t vx vy : Sem Value).run P w = .ok (.bool b) w ∧ (do eqGuard .neq t ox oy vx vy; binOp .neq t vx vy : Sem Value).run P w = .ok (.bool (!b)) w := by
  unfold eqArr at h
  split at h
  · cases h
  · rename_i hg
    simp only [Bool.not_eq_true] at hg
    split at h
    · rename_i m e ht
      have fin : ∀ xs ys : Array Value, (Op.equalIn 10000 t (.agg xs) (.agg ys)).run P w = .ok b w → vx = .agg xs → vy = .agg ys →
          (do eqGuard .eql t ox oy vx vy; binOp .eql t vx vy : Sem Value).run P w = .ok (.bool b) w ∧ (do eqGuard .neq t ox oy vx vy; binOp .neq t vx vy : Sem Value).run P w = .ok (.bool (!b)) w := by
        intro xs ys hrun e1 e2
        subst e1; subst e2
        constructor
        · rw [Sem.run_bind, run_eqGuard_agg w .eql t ox oy _ _ hg, Result.andThen_ok, run_eql_struct, hrun, Result.andThen_ok]
        · rw [Sem.run_bind, run_eqGuard_agg w .neq t ox oy _ _ hg, Result.andThen_ok, run_neq_struct, hrun, Result.andThen_ok]
      split at h
      · rename_i l m' he hz
        simp only [Option.some.injEq, Prod.mk.injEq] at h
        obtain ⟨rfl, rfl, rfl, rfl⟩ := h
        simp only [rep] at hx hy
        have := run_eq_arr (k := .u8) 9998 ht he hz w (l.map fun x => (x.toNat : Int)) (m'.map fun x => (x.toNat : Int)) (by simpa using hi) (by simpa using hj)
        rw [map_inj_beq, List.map_map, List.map_map] at this
        exact fin _ _ this hx hy
      · rename_i l m' he hz
        simp only [Option.some.injEq, Prod.mk.injEq] at h
        obtain ⟨rfl, rfl, rfl, rfl⟩ := h
        simp only [rep] at hx hy
        have := run_eq_arr (k := .u64) 9998 ht he hz w (l.map fun x => (x.toNat : Int)) (m'.map fun x => (x.toNat : Int)) (by simpa using hi) (by simpa using hj)
        rw [map_inj_beq, List.map_map, List.map_map] at this
        exact fin _ _ this hx hy
      · cases h
    · cases h

theorem evBin_ok {op : BinOp} {t yt : TypeId} {x y : Operand} {K : OpK α} {r : α} (h : evBin P op t (ρ x) (ρ y) K = some r) : ∃ s row, K s row = some r ∧ QGo P G ρ rows k (.binOp op t x y yt) s row := by
  have go : ∀ s, (∀ (L : List (Option Loc)) (w : World) (vx vy : Value), rep L (ρ x) vx → rep L (ρ y) vy → ∃ v w', (do eqGuard op t x y vx vy; binOp op t vx vy : Sem Value).run P w = .ok v w' ∧ rep L s v ∧ Below w.heap.size w w') →
      QGo P G ρ rows k (.binOp op t x y yt) s none := by
    intro s hs
    refine QGo.val fun w0 o ho L a w rows' hρ hw hsub hG => ?_
    obtain ⟨v, w', h1, h2, h3⟩ := hs L w (a.eval x) (a.eval y) (hρ x (by simp [Op.operands])) (hρ y (by simp [Op.operands]))
    refine ⟨v, w', ?_, h2, h3⟩
    simp only [execOp, ho]
    rw [Sem.run_bind, h1]; rfl
  unfold evBin at h
  split at h
  · rename_i l m hx hy
    split at h
    · rename_i b hb
      exact ⟨_, _, h, go _ fun L w vx vy rx ry => ⟨_, w, (eqT_ok (by rw [hx, hy] at *; exact hb) L w vx vy (hx ▸ rx) (hy ▸ ry) x y).1, by simp only [rep], Below.refl _ _⟩⟩
    · rename_i b hb
      exact ⟨_, _, h, go _ fun L w vx vy rx ry => ⟨_, w, (eqT_ok (by rw [hx, hy] at *; exact hb) L w vx vy (hx ▸ rx) (hy ▸ ry) x y).2, by simp only [rep], Below.refl _ _⟩⟩
    · cases h
  · rename_i l m hx hy
    split at h
    · rename_i n b i j hb
      split at h
      · rename_i hl
        exact ⟨_, _, h, go _ fun L w vx vy rx ry => ⟨_, w, (eqArr_ok hb hl.1 hl.2 L w vx vy (hx ▸ rx) (hy ▸ ry) x y).1, by simp only [rep], Below.refl _ _⟩⟩
      · cases h
    · rename_i n b i j hb
      split at h
      · rename_i hl
        exact ⟨_, _, h, go _ fun L w vx vy rx ry => ⟨_, w, (eqArr_ok hb hl.1 hl.2 L w vx vy (hx ▸ rx) (hy ▸ ry) x y).2, by simp only [rep], Below.refl _ _⟩⟩
      · cases h
    · cases h
  · rename_i l m hx hy
    split at h
    · rename_i n b i j hb
      split at h
      · rename_i hl
        exact ⟨_, _, h, go _ fun L w vx vy rx ry => ⟨_, w, (eqArr_ok hb hl.1 hl.2 L w vx vy (hx ▸ rx) (hy ▸ ry) x y).1, by simp only [rep], Below.refl _ _⟩⟩
      · cases h
    · rename_i n b i j hb
      split at h
      · rename_i hl
        exact ⟨_, _, h, go _ fun L w vx vy rx ry => ⟨_, w, (eqArr_ok hb hl.1 hl.2 L w vx vy (hx ▸ rx) (hy ▸ ry) x y).2, by simp only [rep], Below.refl _ _⟩⟩
      · cases h
    · cases h
  · rename_i p q hx hy
    have run : ∀ w, P.underlying t = some .bool → (Op.equal t (.bool p) (.bool q)).run P w = .ok (p == q) w := fun w ht => run_equalIn_bool' w 9999 t p q ht
    split at h
    · rename_i ht
      refine ⟨_, _, h, go _ fun L w vx vy rx ry => ?_⟩
      rw [hx] at rx; rw [hy] at ry
      simp only [rep] at rx ry; subst rx; subst ry
      exact ⟨_, w, by rw [Sem.run_bind, eqGuard_at_bool, Sem.run_pure, Result.andThen_ok]; simp [binOp, run w ht]; rfl, by simp only [rep], Below.refl _ _⟩
    · rename_i ht
      refine ⟨_, _, h, go _ fun L w vx vy rx ry => ?_⟩
      rw [hx] at rx; rw [hy] at ry
      simp only [rep] at rx ry; subst rx; subst ry
      exact ⟨_, w, by rw [Sem.run_bind, eqGuard_at_bool, Sem.run_pure, Result.andThen_ok]; simp [binOp, run w ht]; rfl, by simp only [rep], Below.refl _ _⟩
    · cases h
  · rename_i p q hx hy
    split at h
    · refine ⟨_, _, h, go _ fun L w vx vy rx ry => ?_⟩
      rw [hx] at rx; rw [hy] at ry
      simp only [rep] at rx ry; subst rx; subst ry
      exact ⟨_, w, by rw [Sem.run_bind, eqGuard_at_string, Sem.run_pure, Result.andThen_ok]; simp only [binOp, Op.stringOp, ByteArray.toList_eq]; rfl, by simp only [rep], Below.refl _ _⟩
    · refine ⟨_, _, h, go _ fun L w vx vy rx ry => ?_⟩
      rw [hx] at rx; rw [hy] at ry
      simp only [rep] at rx ry; subst rx; subst ry
      exact ⟨_, w, by rw [Sem.run_bind, eqGuard_at_string, Sem.run_pure, Result.andThen_ok]; simp only [binOp, Op.stringOp, ByteArray.toList_eq]; rfl, by simp only [rep], Below.refl _ _⟩
    · cases h
  · obtain ⟨s, hs, hg⟩ := binSV_ok h
    exact ⟨_, _, hs, go _ fun L w vx vy rx ry => hg P L w vx vy t x y rx ry⟩
end
end Go.Ev
