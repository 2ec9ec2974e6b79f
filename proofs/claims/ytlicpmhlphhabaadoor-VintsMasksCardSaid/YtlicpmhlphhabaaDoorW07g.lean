/-
  Part of the proof; what its functions and lemmas say stands in the text.
-/
import Derived.Test.YtlicpmhlphhabaaDoorW07h
import Derived.Test.YtlicpmhlphhabaaDoorEvE
set_option linter.unusedSimpArgs false
set_option linter.unusedVariables false
/-!
Vectors of whole numbers: the reference's comparisons, whether no lane is 0, the lanes' highest bits.
-/
namespace Go.L07
open Go.Ev Go.Proofs Go.RowKit Go.Wh

abbrev L64 := List (BitVec 64)
section
variable (C : C2) (E : E2)
noncomputable def c27 : Code := findLoop (loops (Tryd.f27.body.getD .skip)) 5
noncomputable abbrev keep27 : List Nat := [0, 1, 8, 9, 10, 11, 12]
noncomputable def S27 (o : BitVec 8) (w : Int) (r0 r1 : BitVec 64) (e : Int) (x : L64) (nx : Nat) (y : L64) (ny : Nat) (i : Int) : St := ⟨mkT 61 [(0, .u8 o), (1, .i .i64 w), (8, .ptr 0 0), (9, .i .i64 e), (10, .sl 1 0 nx), (11, .sl 2 0 ny), (12, .i .i64 i)], [some ⟨.agg [.u64 r0, .u64 r1], true⟩, some ⟨.a64 x, true⟩, some ⟨.a64 y, true⟩]⟩
theorem nf27 (o : BitVec 8) (w : Int) (r0 r1 : BitVec 64) (e : Int) (x : L64) (nx : Nat) (y : L64) (ny : Nat) (i : Int) (K : Ex → St → Option D) : exec Tryd.prog G0 (tabOf [(67, ThanH C E), (68, maskS)]) (fun _ => []) (fun _ => none) 50 c27 (S27 o w r0 r1 e x nx y ny i) (fun e st => K e (canon keep27 st)) =
  if decide (i < (nx : Int)) = true then if 0 ≤ i ∧ i < (nx : Int) then if 0 + i.toNat * 1 < x.length then if 0 ≤ i ∧ i < (ny : Int) then if 0 + i.toNat * 1 < y.length then
    if (!(E o w (x.getD (0 + i.toNat * 1) 0#64) (y.getD (0 + i.toNat * 1) 0#64) == 0)) = true then K .ret ⟨mkT 61 [(0, .u8 o), (1, .i .i64 w), (8, .ptr 0 0), (9, .i .i64 (E o w (x.getD (0 + i.toNat * 1) 0#64) (y.getD (0 + i.toNat * 1) 0#64))), (10, .sl 1 0 nx), (11, .sl 2 0 ny), (12, .i .i64 i)], [some ⟨.agg [.u64 0#64, .u64 0#64], true⟩, some ⟨.a64 x, true⟩, some ⟨.a64 y, true⟩]⟩
    else if 0 ≤ i ∧ i < (nx : Int) then if 0 + i.toNat * 1 < x.length then if C o w (x.getD (0 + i.toNat * 1) 0#64) (y.getD (0 + i.toNat * 1) 0#64) = true then
        if 0 ≤ i ∧ i < (nx : Int) then if 0 + i.toNat * 1 < (x.set (0 + i.toNat * 1) 0#64).length then K .normal ⟨mkT 61 [(0, .u8 o), (1, .i .i64 w), (8, .ptr 0 0), (9, .i .i64 e), (10, .sl 1 0 nx), (11, .sl 2 0 ny), (12, .i .i64 (IntKind.i64.wrap (i + 1)))], [some ⟨.agg [.u64 r0, .u64 r1], true⟩, some ⟨.a64 ((x.set (0 + i.toNat * 1) 0#64).set (0 + i.toNat * 1) (maskF w)), true⟩, some ⟨.a64 y, true⟩]⟩ else none else none
        else K .normal ⟨mkT 61 [(0, .u8 o), (1, .i .i64 w), (8, .ptr 0 0), (9, .i .i64 e), (10, .sl 1 0 nx), (11, .sl 2 0 ny), (12, .i .i64 (IntKind.i64.wrap (i + 1)))], [some ⟨.agg [.u64 r0, .u64 r1], true⟩, some ⟨.a64 (x.set (0 + i.toNat * 1) 0#64), true⟩, some ⟨.a64 y, true⟩]⟩
      else none else none
    else none else none else none else none
  else K (.exit 0) ⟨mkT 61 [(0, .u8 o), (1, .i .i64 w), (8, .ptr 0 0), (9, .i .i64 e), (10, .sl 1 0 nx), (11, .sl 2 0 ny), (12, .i .i64 i)], [some ⟨.agg [.u64 r0, .u64 r1], true⟩, some ⟨.a64 x, true⟩, some ⟨.a64 y, true⟩]⟩ := by kernel_rfl
structure X27 where
  o : BitVec 8
  w : Int
  r0 : BitVec 64
  r1 : BitVec 64
  e : Int
  x : L64
  nx : Nat
  y : L64
  ny : Nat
  i : Nat
noncomputable abbrev Y27 (y : X27) : St := S27 y.o y.w y.r0 y.r1 y.e y.x y.nx y.y y.ny y.i
noncomputable def parse27 (st : St) : Option (Bool × X27) := match st with
  | ⟨t, [some ⟨.agg [.u64 r0, .u64 r1], true⟩, some ⟨.a64 x, true⟩, some ⟨.a64 y, true⟩]⟩ =>
    match t.getD 0 .any, t.getD 1 .any, t.getD 8 .any, t.getD 9 .any, t.getD 10 .any, t.getD 11 .any, t.getD 12 .any with
    | .u8 o, .i .i64 w, .ptr 0 0, .i .i64 e, .sl 1 0 nx, .sl 2 0 ny, .i .i64 (.ofNat i) => some (decide (t.length = 61 ∧ (x.length = nx ∧ y.length = ny ∧ nx = ny ∧ nx ≤ 16 ∧ i ≤ nx)), ⟨o, w, r0, r1, e, x, nx, y, ny, i⟩)
    | _, _, _, _, _, _, _ => none
  | _ => none
def I27 (y : X27) : Prop := y.x.length = y.nx ∧ y.y.length = y.ny ∧ y.nx = y.ny ∧ y.nx ≤ 16 ∧ y.i ≤ y.nx
def xe27 (y : X27) : Int := E y.o y.w (y.x.getD y.i 0#64) (y.y.getD y.i 0#64)
def go27 (y : X27) : Bool := decide (y.i < y.nx) && xe27 E y == 0
def el27 (o : BitVec 8) (w : Int) (a b : BitVec 64) : BitVec 64 := if C o w a b = true then maskF w else 0#64
def next27 (y : X27) : X27 := { y with x := y.x.set y.i (el27 C y.o y.w (y.x.getD y.i 0#64) (y.y.getD y.i 0#64)), i := y.i + 1 }
theorem body27 (y : X27) (h : I27 y) (K : Ex → St → Option D) : exec Tryd.prog G0 (tabOf [(67, ThanH C E), (68, maskS)]) (fun _ => []) (fun _ => none) 50 c27 (Y27 y) (fun e st => K e (canon keep27 st)) =
    if go27 E y = true then K .normal (Y27 (next27 C y)) else if decide (y.i < y.nx) = true then K .ret (Y27 { y with r0 := 0#64, r1 := 0#64, e := xe27 E y }) else K (.exit 0) (Y27 y) := by
  obtain ⟨h1, h2, h3, h4, h5⟩ := h
  refine (nf27 C E y.o y.w y.r0 y.r1 y.e y.x y.nx y.y y.ny y.i K).trans ?_
  have e1 : 0 + ((y.i : Int)).toNat * 1 = y.i := by omega
  have z1 : (y.x.set y.i 0#64).length = y.x.length := List.length_set
  simp only [e1, z1]
  unfold go27 xe27
  by_cases h : y.i < y.nx
  · have g1 : (y.i : Int) < (y.nx : Int) := by omega
    have g2 : (0 : Int) ≤ (y.i : Int) := by omega
    have g3 : (y.i : Int) < (y.ny : Int) := by omega
    have g4 : y.i < y.x.length := by omega
    have g5 : y.i < y.y.length := by omega
    have hw : IntKind.i64.wrap ((y.i : Int) + 1) = ((y.i + 1 : Nat) : Int) := by rw [wrap_in (by omega) (by omega)]; rfl
    simp only [h, g1, g2, g3, g4, g5, decide_true, if_true, and_self, Bool.true_and, hw, List.set_set]
    unfold Y27 next27 el27 S27
    cases E y.o y.w (y.x.getD y.i 0#64) (y.y.getD y.i 0#64) == 0
    · rfl
    · cases C y.o y.w (y.x.getD y.i 0#64) (y.y.getD y.i 0#64) <;> rfl
  · have g1 : ¬ (y.i : Int) < (y.nx : Int) := by omega
    simp only [h, g1, decide_false, Bool.false_and, Bool.false_eq_true, if_false]
    rfl
theorem inv27 (y : X27) (h : I27 y) (hg : go27 E y = true) : I27 (next27 C y) := by
  obtain ⟨h1, h2, h3, h4, h5⟩ := h
  simp only [go27, Bool.and_eq_true, decide_eq_true_eq] at hg
  exact ⟨by show (y.x.set _ _).length = _; rw [List.length_set]; exact h1, h2, h3, h4, by show y.i + 1 ≤ y.nx; omega⟩
theorem m27 (y : X27) (h : go27 E y = true) : y.nx - y.i = (next27 C y).nx - (next27 C y).i + 1 := by
  simp only [go27, Bool.and_eq_true, decide_eq_true_eq] at h
  show y.nx - y.i = y.nx - (y.i + 1) + 1
  omega
noncomputable abbrev sum27 : LoopF := sumG keep27 parse27 (fun y => decide (y.i < y.nx)) .ret (fun y => Y27 { y with r0 := 0#64, r1 := 0#64, e := xe27 E y }) (.exit 0) (fun y => Y27 y) (fun y => iter (go27 E) (next27 C) (y.nx - y.i) y)
theorem sem27 {C : C2} {E : E2} (hth : Snd 67 (ThanH C E)) : SemOK Tryd.prog G0 c27 (sum27 C E) := by
  refine SemOK.count (sp := tabOf [(67, ThanH C E), (68, maskS)]) (ann := fun _ => []) (ls := fun _ => none) (TableOK.cons hth (TableOK.cons t_Most TableOK.nil)) mixed 50 LsOK.none Y27 _ _ (by simp [Ex.out]) _ _ (by simp [Ex.out]) _ keep27 parse27 (go27 E) (next27 C) I27 (inv27 C E) (body27 C E) (fun y => y.nx - y.i) (m27 C E) ?_
  intro st y hx
  unfold parse27 at hx
  split at hx
  · rename_i t r0 r1 x y0
    split at hx
    · rename_i o w e nx ny i h0 h1 h8 h9 h10 h11 h12
      simp only [Option.some.injEq, Prod.mk.injEq, decide_eq_true_eq] at hx
      obtain ⟨⟨g1, g2⟩, rfl⟩ := hx
      refine ⟨g2, fun w0 L' a w hrel => ?_⟩
      exact Rel.pick hrel g1 fun x hx => by
        simp only [List.mem_cons, List.not_mem_nil, or_false] at hx
        rcases hx with rfl | rfl | rfl | rfl | rfl | rfl | rfl
        · exact h0
        · exact h1
        · exact h8
        · exact h9
        · exact h10
        · exact h11
        · exact h12
    · cases hx
  · cases hx
end
theorem SemOK.conv {P : Program} {G : List (Nat × SV)} {c : Code} {F F' : LoopF} (h : SemOK P G c F) (h' : ∀ st K r, F' st K = some r → F st K = some r) : SemOK P G c F' := fun st K r hr => h st K r (h' st K r hr)
theorem take_step {x : L64} {i : Nat} (hi : i < x.length) (v : BitVec 64) : (x.set i v).take (i + 1) = x.take i ++ [v] := by
  apply List.ext_getElem?
  intro j
  rw [List.getElem?_take]
  rcases Nat.lt_trichotomy j i with h | h | h
  · rw [if_pos (by omega), List.getElem?_set_ne (by omega), List.getElem?_append_left (by simp; omega), List.getElem?_take, if_pos h]
  · subst h
    rw [if_pos (by omega), List.getElem?_set_self hi, List.getElem?_append_right (by simp; omega)]
    simp [Nat.min_eq_left (Nat.le_of_lt hi)]
  · rw [if_neg (by omega), List.getElem?_eq_none (by simp; omega)]
theorem drop_step {x : L64} {i : Nat} (v : BitVec 64) : (x.set i v).drop (i + 1) = x.drop (i + 1) := by
  rw [List.drop_set_of_lt (by omega)]
theorem fin27_ok (C : C2) (E : E2) : ∀ (n : Nat) (y : X27), I27 y → y.nx - y.i = n → (∀ j, y.i ≤ j → j < y.nx → E y.o y.w (y.x.getD j 0#64) (y.y.getD j 0#64) = 0) →
    iter (go27 E) (next27 C) n y = { y with x := y.x.take y.i ++ List.zipWith (el27 C y.o y.w) (y.x.drop y.i) (y.y.drop y.i), i := y.nx }
  | 0, y, h, hn, hE => by
    obtain ⟨h1, h2, h3, h4, h5⟩ := h
    have e : y.i = y.nx := by omega
    have e1 : y.x.drop y.i = [] := List.drop_eq_nil_of_le (by omega)
    have e2 : y.x.take y.i = y.x := List.take_of_length_le (by omega)
    show y = _
    rw [e1, e2, List.zipWith_nil_left, List.append_nil]
    obtain ⟨o, w, r0, r1, e, x, nx, y0, ny, i⟩ := y
    simp only at *
    subst e
    rfl
  | n + 1, y, h, hn, hE => by
    have hh := h
    obtain ⟨h1, h2, h3, h4, h5⟩ := h
    have hlt : y.i < y.nx := by omega
    have hg : go27 E y = true := by
      simp only [go27, xe27, hE y.i (Nat.le_refl _) hlt, hlt, decide_true, Bool.true_and, beq_self_eq_true]
    simp only [iter, hg, if_true]
    have h6 := inv27 C E y hh hg
    rw [fin27_ok C E n (next27 C y) h6 (by show y.nx - (y.i + 1) = n; omega) (fun j hj hj2 => by
      have hj' : y.i + 1 ≤ j := hj
      have := hE j (by omega) hj2
      show E y.o y.w ((y.x.set y.i _).getD j 0#64) (y.y.getD j 0#64) = 0
      rw [List.getD_eq_getElem?_getD, List.getElem?_set_ne (by omega), ← List.getD_eq_getElem?_getD]
      exact this)]
    have a1 : y.x.drop y.i = y.x.getD y.i 0#64 :: y.x.drop (y.i + 1) := by
      rw [List.drop_eq_getElem_cons (by omega), List.getD_eq_getElem?_getD, List.getElem?_eq_getElem (by omega)]; rfl
    have a2 : y.y.drop y.i = y.y.getD y.i 0#64 :: y.y.drop (y.i + 1) := by
      rw [List.drop_eq_getElem_cons (by omega), List.getD_eq_getElem?_getD, List.getElem?_eq_getElem (by omega)]; rfl
    have b : (next27 C y).x.take (next27 C y).i ++ List.zipWith (el27 C y.o y.w) ((next27 C y).x.drop (next27 C y).i) (y.y.drop (next27 C y).i) = y.x.take y.i ++ List.zipWith (el27 C y.o y.w) (y.x.drop y.i) (y.y.drop y.i) := by
      show (y.x.set y.i _).take (y.i + 1) ++ List.zipWith _ ((y.x.set y.i _).drop (y.i + 1)) (y.y.drop (y.i + 1)) = _
      rw [take_step (by omega), drop_step, a1, a2, List.zipWith_cons_cons]
      simp
    show { next27 C y with x := (next27 C y).x.take (next27 C y).i ++ List.zipWith (el27 C y.o y.w) ((next27 C y).x.drop (next27 C y).i) (y.y.drop (next27 C y).i), i := y.nx } = _
    rw [b]
    rfl
theorem fin27_no (C : C2) (E : E2) (y : X27) (h : I27 y) (h0 : y.i = 0) {j : Nat} (hj : j < y.nx) (hE : E y.o y.w (y.x.getD j 0#64) (y.y.getD j 0#64) ≠ 0) :
    (iter (go27 E) (next27 C) (y.nx - y.i) y).i < y.nx ∧ (iter (go27 E) (next27 C) (y.nx - y.i) y).nx = y.nx ∧ xe27 E (iter (go27 E) (next27 C) (y.nx - y.i) y) ≠ 0 := by
  have hJ := iter_inv (go := go27 E) (next := next27 C) (J := fun z => z.nx = y.nx ∧ z.y = y.y ∧ z.o = y.o ∧ z.w = y.w ∧ (∀ k, z.i ≤ k → z.x.getD k 0#64 = y.x.getD k 0#64) ∧ ∀ k, k < z.i → E y.o y.w (y.x.getD k 0#64) (y.y.getD k 0#64) = 0) (fun z ⟨g1, g2, g3, g4, g5, g6⟩ hg => by
    simp only [go27, xe27, Bool.and_eq_true, decide_eq_true_eq, beq_iff_eq] at hg
    refine ⟨g1, g2, g3, g4, fun k hk => ?_, fun k hk => ?_⟩
    · have hk' : z.i + 1 ≤ k := hk
      show (z.x.set z.i _).getD k 0#64 = _
      rw [List.getD_eq_getElem?_getD, List.getElem?_set_ne (by omega), ← List.getD_eq_getElem?_getD]
      exact g5 k (by omega)
    · have hk' : k < z.i + 1 := hk
      rcases Nat.lt_or_ge k z.i with h | h
      · exact g6 k h
      · have : k = z.i := by omega
        subst this
        have := hg.2
        rw [g3, g4, g2, g5 _ (Nat.le_refl _)] at this
        exact this) (y.nx - y.i) y ⟨rfl, rfl, rfl, rfl, fun k _ => rfl, fun k hk => by omega⟩
  have hs := iter_stop (go := go27 E) (next := next27 C) (m := fun y => y.nx - y.i) (m27 C E) _ y rfl
  revert hJ hs
  generalize iter (go27 E) (next27 C) (y.nx - y.i) y = z
  rintro ⟨g1, g2, g3, g4, g5, g6⟩ hs
  have hlt : z.i < y.nx := by
    rcases Nat.lt_or_ge z.i y.nx with h | h
    · exact h
    · exact absurd (g6 j (by omega)) hE
  refine ⟨hlt, g1, fun h => ?_⟩
  simp only [go27, g1, hlt, decide_true, Bool.true_and] at hs
  rw [h] at hs
  cases hs
def all27 (E : E2) (y : X27) : Bool := (List.zipWith (E y.o y.w) y.x y.y).all fun r => r == 0
theorem all27_at {E : E2} {y : X27} (h : I27 y) (ha : all27 E y = true) (j : Nat) (hj : j < y.nx) : E y.o y.w (y.x.getD j 0#64) (y.y.getD j 0#64) = 0 := by
  obtain ⟨h1, h2, h3, h4, h5⟩ := h
  have g1 : j < y.x.length := by omega
  have g2 : j < y.y.length := by omega
  have hl : j < (List.zipWith (E y.o y.w) y.x y.y).length := by rw [List.length_zipWith]; omega
  have : (List.zipWith (E y.o y.w) y.x y.y)[j]'hl = E y.o y.w (y.x.getD j 0#64) (y.y.getD j 0#64) := by
    rw [List.getElem_zipWith, List.getD_eq_getElem?_getD, List.getD_eq_getElem?_getD, List.getElem?_eq_getElem g1, List.getElem?_eq_getElem g2]; rfl
  rw [← this]
  simpa using List.all_eq_true.1 ha _ (List.getElem_mem hl)
theorem all27_no {E : E2} {y : X27} (h : I27 y) (ha : all27 E y = false) : ∃ j, j < y.nx ∧ E y.o y.w (y.x.getD j 0#64) (y.y.getD j 0#64) ≠ 0 := by
  obtain ⟨h1, h2, h3, h4, h5⟩ := h
  obtain ⟨r, hr, hn⟩ := List.all_eq_false.1 ha
  obtain ⟨j, hj, rfl⟩ := List.mem_iff_getElem.1 hr
  have hj' := hj
  rw [List.length_zipWith] at hj'
  refine ⟨j, by omega, ?_⟩
  rw [List.getElem_zipWith] at hn
  rw [List.getD_eq_getElem?_getD, List.getD_eq_getElem?_getD, List.getElem?_eq_getElem (by omega), List.getElem?_eq_getElem (by omega)]
  simpa using hn
noncomputable def F27 (C : C2) (E : E2) : LoopF := fun st K => match parse27 (canon keep27 st) with
  | some (g, y) => if (g && decide (y.i = 0)) = true then if all27 E y = true then K (.exit 0) (Y27 { y with x := List.zipWith (el27 C y.o y.w) y.x y.y, i := y.nx })
      else K .ret (Y27 { y with r0 := 0#64, r1 := 0#64, e := 2, x := (iter (go27 E) (next27 C) (y.nx - y.i) y).x, i := (iter (go27 E) (next27 C) (y.nx - y.i) y).i }) else none
  | none => none
theorem semF27 {C : C2} {E : E2} (hth : Snd 67 (ThanH C E)) (hE : ∀ o w a b, E o w a b ≠ 0 → E o w a b = 2) : SemOK Tryd.prog G0 c27 (F27 C E) := by
  refine SemOK.conv (sem27 hth) fun st K r hF => ?_
  unfold F27 at hF
  unfold sum27 sumG
  cases hp : parse27 (canon keep27 st) with
  | none => rw [hp] at hF; cases hF
  | some gy =>
    obtain ⟨g, y⟩ := gy
    rw [hp] at hF
    simp only at hF ⊢
    split at hF
    · rename_i hg
      simp only [Bool.and_eq_true, decide_eq_true_eq] at hg
      obtain ⟨hg, h0⟩ := hg
      have hI : I27 y := by
        unfold parse27 at hp
        split at hp
        · split at hp
          · simp only [Option.some.injEq, Prod.mk.injEq] at hp
            obtain ⟨hp, rfl⟩ := hp
            rw [hg, decide_eq_true_eq] at hp
            exact hp.2
          · cases hp
        · cases hp
      rw [if_pos hg]
      split at hF
      · rename_i ha
        have e := fin27_ok C E (y.nx - y.i) y hI rfl (fun j _ hj => all27_at hI ha j hj)
        have key : ∀ z : X27, z = { y with x := List.zipWith (el27 C y.o y.w) y.x y.y, i := y.nx } → (if decide (z.i < z.nx) = true then K .ret (Y27 { z with r0 := 0#64, r1 := 0#64, e := xe27 E z }) else K (.exit 0) (Y27 z)) = some r := by
          rintro _ rfl
          simp only [Nat.lt_irrefl, decide_false, Bool.false_eq_true, if_false]
          exact hF
        refine key _ (e.trans ?_)
        simp only [h0, List.take_zero, List.drop_zero, List.nil_append]
      · rename_i ha
        obtain ⟨j, hj, hne⟩ := all27_no hI (by simpa using ha)
        obtain ⟨k1, k2, k3⟩ := fin27_no C E y hI h0 hj hne
        have k4 := iter_inv (go := go27 E) (next := next27 C) (J := fun z => z.o = y.o ∧ z.w = y.w ∧ z.nx = y.nx ∧ z.y = y.y ∧ z.ny = y.ny) (fun z hz _ => hz) (y.nx - y.i) y ⟨rfl, rfl, rfl, rfl, rfl⟩
        have key : ∀ z : X27, K .ret (Y27 { y with r0 := 0#64, r1 := 0#64, e := 2, x := z.x, i := z.i }) = some r → z.i < y.nx → z.nx = y.nx → xe27 E z ≠ 0 → (z.o = y.o ∧ z.w = y.w ∧ z.nx = y.nx ∧ z.y = y.y ∧ z.ny = y.ny) →
            (if decide (z.i < z.nx) = true then K .ret (Y27 { z with r0 := 0#64, r1 := 0#64, e := xe27 E z }) else K (.exit 0) (Y27 z)) = some r := by
          rintro z hF k1 k2 k3 ⟨k4, k5, k6, k7, k8⟩
          rw [if_pos (by rw [k2]; exact decide_eq_true k1)]
          have k9 : xe27 E z = 2 := hE _ _ _ _ k3
          rw [k9]
          unfold Y27 at hF ⊢
          simp only at hF ⊢
          rw [k4, k5, k6, k7, k8]
          exact hF
        exact key _ hF k1 k2 k3 k4
    · cases hF
noncomputable def ls27 (C : C2) (E : E2) : Nat → Option LoopF := lsOf [(5, F27 C E)]
theorem loops27 {C : C2} {E : E2} (hth : Snd 67 (ThanH C E)) (hE : ∀ o w a b, E o w a b ≠ 0 → E o w a b = 2) : LsOK Tryd.prog G0 (ls27 C E) (Tryd.f27.body.getD .skip) := by
  refine LsOK.of (of_decide_eq_true (by kernel_rfl)) fun x hx => ?_
  simp only [List.mem_cons, List.not_mem_nil, or_false] at hx
  subst hx
  exact semF27 hth hE

noncomputable def VthanNF (C : C2) (E : E2) (o : BitVec 8) (w : Int) (a0 a1 b0 b1 : BitVec 64) : Option D :=
  if ((List.zipWith (E o w) (listF a0 a1 w) (listF b0 b1 w)).all fun r => r == 0) = true then some (eachB true w (List.zipWith (el27 C o w) (listF a0 a1 w) (listF b0 b1 w))) else some ofErr
theorem rThan_8 (C : C2) (E : E2) (o : BitVec 8) (a0 a1 b0 b1 : BitVec 64) : execFnL Tryd.prog G0 (tabOf [(44, widthS), (24, listS), (46, vecS)]) (fun _ => []) (ls27 C E) Tryd.f27 50 [.u8 o, .i .i64 8, vec a0 a1, vec b0 b1] some =
  VthanNF C E o 8 a0 a1 b0 b1 := by kernel_rfl
theorem rThan_16 (C : C2) (E : E2) (o : BitVec 8) (a0 a1 b0 b1 : BitVec 64) : execFnL Tryd.prog G0 (tabOf [(44, widthS), (24, listS), (46, vecS)]) (fun _ => []) (ls27 C E) Tryd.f27 50 [.u8 o, .i .i64 16, vec a0 a1, vec b0 b1] some =
  VthanNF C E o 16 a0 a1 b0 b1 := by kernel_rfl
theorem rThan_32 (C : C2) (E : E2) (o : BitVec 8) (a0 a1 b0 b1 : BitVec 64) : execFnL Tryd.prog G0 (tabOf [(44, widthS), (24, listS), (46, vecS)]) (fun _ => []) (ls27 C E) Tryd.f27 50 [.u8 o, .i .i64 32, vec a0 a1, vec b0 b1] some =
  VthanNF C E o 32 a0 a1 b0 b1 := by kernel_rfl
theorem rThan_64 (C : C2) (E : E2) (o : BitVec 8) (a0 a1 b0 b1 : BitVec 64) : execFnL Tryd.prog G0 (tabOf [(44, widthS), (24, listS), (46, vecS)]) (fun _ => []) (ls27 C E) Tryd.f27 50 [.u8 o, .i .i64 64, vec a0 a1, vec b0 b1] some =
  VthanNF C E o 64 a0 a1 b0 b1 := by kernel_rfl
theorem rThan_no (o : BitVec 8) (w : Int) (a0 a1 b0 b1 : BitVec 64) : ex [(44, widthS)] (fun _ => []) Tryd.f27 [.u8 o, .i .i64 w, vec a0 a1, vec b0 b1] some =
  if (!okW w) = true then some ofErr else none := by kernel_rfl
theorem zip_th (C : C2) (E : E2) (o : BitVec 8) (w : Int) : ∀ l k : L64, ((List.zipWith (E o w) l k).all fun r => r == 0) = true → List.zipWith (el27 C o w) l k = List.zipWith (thV C E o w) l k
  | [], _, _ => by simp
  | _ :: _, [], _ => by simp
  | x :: l, y :: k, h => by
    simp only [List.zipWith_cons_cons, List.all_cons, Bool.and_eq_true] at h
    have h1 := h.1
    simp only [List.zipWith_cons_cons, zip_th C E o w l k h.2, el27, thV, h1, Bool.true_and]
theorem zip_le {N : BitVec 64 → BitVec 64 → BitVec 64} {m : BitVec 64} (h : ∀ x y, N x y ≤ m) : ∀ l k : L64, (List.zipWith N l k).all (fun z => decide (z ≤ m)) = true
  | [], _ => by simp
  | _ :: _, [] => by simp
  | x :: l, y :: k => by
    simp only [List.zipWith_cons_cons, List.all_cons, h x y, decide_true, Bool.true_and]
    exact zip_le h l k
theorem rThan_fin (C : C2) (E : E2) {w : Int} (hw : okW w = true) (o : BitVec 8) (a0 a1 b0 b1 : BitVec 64) : VthanNF C E o w a0 a1 b0 b1 = some (eachV w (rT E o w a0 a1 b0 b1) (lV C E o w a0 a1 b0 b1)) := by
  unfold VthanNF eachV okEach rT lV
  cases h : (List.zipWith (E o w) (listF a0 a1 w) (listF b0 b1 w)).all fun r => r == 0
  · rfl
  · have : okOf w (List.zipWith (thV C E o w) (listF a0 a1 w) (listF b0 b1 w)) = true := by
      simp only [okOf, hw, Bool.true_and, Bool.and_eq_true, decide_eq_true_eq]
      refine ⟨zip_len _ w a0 a1 b0 b1, zip_le (fun x y => ?_) _ _⟩
      unfold thV
      split
      · exact BitVec.le_refl _
      · rw [BitVec.le_def]; exact Nat.zero_le _
    rw [this, zip_th C E o w _ _ h]; rfl
theorem t_rvThan {C : C2} {E : E2} (h : Snd 67 (ThanH C E)) (hE : ∀ o w a b, E o w a b ≠ 0 → E o w a b = 2) : Snd 27 (VthanS C E) := by
  refine Sound.of_pt fun ds d hd => ?_
  split at hd
  · rename_i o w a0 a1 b0 b1
    cases hd
    cases hw : okW w
    · rw [each_no hw]
      refine (execFn_sound (ann := fun _ => []) (TableOK.cons t_Width TableOK.nil) mixed Tryd.func27 (by kernel_rfl) 50).pt ((rThan_no o w a0 a1 b0 b1).trans ?_)
      rw [hw]; rfl
    · have S := execFnL_sound (P := Tryd.prog) (G := G0) (ann := fun _ => []) (ls := ls27 C E) (TableOK.cons t_Width (TableOK.cons list35 (TableOK.cons vec45 TableOK.nil))) mixed Tryd.func27 (by kernel_rfl) 50 (fun c hc => by
        have e : c = Tryd.f27.body.getD .skip := by rw [hc]; rfl
        rw [e]; exact loops27 h hE)
      rcases okW_cases hw with rfl | rfl | rfl | rfl
      · exact S.pt ((rThan_8 C E o a0 a1 b0 b1).trans (rThan_fin C E hw o a0 a1 b0 b1))
      · exact S.pt ((rThan_16 C E o a0 a1 b0 b1).trans (rThan_fin C E hw o a0 a1 b0 b1))
      · exact S.pt ((rThan_32 C E o a0 a1 b0 b1).trans (rThan_fin C E hw o a0 a1 b0 b1))
      · exact S.pt ((rThan_64 C E o a0 a1 b0 b1).trans (rThan_fin C E hw o a0 a1 b0 b1))
  · cases hd
def thanC (o : BitVec 8) (w : Int) (a b : BitVec 64) : Bool := mayF w [a, b] && thanB o w a b
def thanE (o : BitVec 8) (w : Int) (a b : BitVec 64) : Int := errF (mayF w [a, b] && thanO o)
theorem h_Than : Snd 66 (ThanH thanC thanE) := t_Than
theorem h_rThan : Snd 67 (ThanH thanC thanE) := t_rThan
theorem t_V26 : Snd 26 (VthanS thanC thanE) := t_vThan h_Than
theorem t_V27 : Snd 27 (VthanS thanC thanE) := t_rvThan h_rThan (fun o w a b => by
  unfold thanE errF
  split
  · intro h; exact absurd rfl h
  · intro _; rfl)

/-! whether no lane is 0 -/
def annAr : Nat → List Nat := fun | 5 => [6, 7] | _ => []
theorem rAll_8 (a0 a1 : BitVec 64) : ex [(44, widthS), (24, listS)] annAr Tryd.f29 [.i .i64 8, vec a0 a1] some = chainZ (listF a0 a1 8) := by kernel_rfl
theorem rAll_16 (a0 a1 : BitVec 64) : ex [(44, widthS), (24, listS)] annAr Tryd.f29 [.i .i64 16, vec a0 a1] some = chainZ (listF a0 a1 16) := by kernel_rfl
theorem rAll_32 (a0 a1 : BitVec 64) : ex [(44, widthS), (24, listS)] annAr Tryd.f29 [.i .i64 32, vec a0 a1] some = chainZ (listF a0 a1 32) := by kernel_rfl
theorem rAll_64 (a0 a1 : BitVec 64) : ex [(44, widthS), (24, listS)] annAr Tryd.f29 [.i .i64 64, vec a0 a1] some = chainZ (listF a0 a1 64) := by kernel_rfl
theorem rAll_no (w : Int) (a0 a1 : BitVec 64) : ex [(44, widthS)] (fun _ => []) Tryd.f29 [.i .i64 w, vec a0 a1] some = if (!okW w) = true then some (.tup [.bool false, .i .i64 2]) else none := by kernel_rfl
theorem t_rvAll : Snd 29 AllS := by
  refine Sound.of_pt fun ds d hd => ?_
  split at hd
  · rename_i w a0 a1
    cases hd
    cases hw : okW w
    · refine (execFn_sound (ann := fun _ => []) (TableOK.cons t_Width TableOK.nil) mixed Tryd.func29 (by kernel_rfl) 50).pt ((rAll_no w a0 a1).trans ?_)
      rw [hw]; rfl
    · have S := execFn_sound (P := Tryd.prog) (G := G0) (ann := annAr) (TableOK.cons t_Width (TableOK.cons list35 TableOK.nil)) mixed Tryd.func29 (by kernel_rfl) 50
      rcases okW_cases hw with rfl | rfl | rfl | rfl
      · exact S.pt ((rAll_8 a0 a1).trans (chainZ_eq _))
      · exact S.pt ((rAll_16 a0 a1).trans (chainZ_eq _))
      · exact S.pt ((rAll_32 a0 a1).trans (chainZ_eq _))
      · exact S.pt ((rAll_64 a0 a1).trans (chainZ_eq _))
  · cases hd

/-! the lanes' highest bits -/
noncomputable def c31 : Code := findLoop (loops (Tryd.f31.body.getD .skip)) 6
noncomputable abbrev keep31 : List Nat := [0, 6, 7, 8]
noncomputable def S31 (w : Int) (x : L64) (nx : Nat) (n : BitVec 64) (i : Int) : St := ⟨mkT 34 [(0, .i .i64 w), (6, .sl 0 0 nx), (7, .u64 n), (8, .i .i64 i)], [some ⟨.a64 x, true⟩]⟩
theorem nf31 (w : Int) (x : L64) (nx : Nat) (n : BitVec 64) (i : Int) (K : Ex → St → Option D) : exec Tryd.prog G0 (tabOf [(69, worthS)]) (fun _ => []) (fun _ => none) 50 c31 (S31 w x nx n i) (fun e st => K e (canon keep31 st)) =
  if decide (i < (nx : Int)) = true then if 0 ≤ i ∧ i < (nx : Int) then if 0 + i.toNat * 1 < x.length then if fitF w (x.getD (0 + i.toNat * 1) 0#64) = true then
    if decide (sgnF w (x.getD (0 + i.toNat * 1) 0#64) < 0) = true then K .normal ⟨mkT 34 [(0, .i .i64 w), (6, .sl 0 0 nx), (7, .u64 (n ||| 1#64 <<< (BitVec.ofInt 64 i).toNat)), (8, .i .i64 (IntKind.i64.wrap (i + 1)))], [some ⟨.a64 x, true⟩]⟩
    else K .normal ⟨mkT 34 [(0, .i .i64 w), (6, .sl 0 0 nx), (7, .u64 n), (8, .i .i64 (IntKind.i64.wrap (i + 1)))], [some ⟨.a64 x, true⟩]⟩ else none else none else none
  else K (.exit 0) ⟨mkT 34 [(0, .i .i64 w), (6, .sl 0 0 nx), (7, .u64 n), (8, .i .i64 i)], [some ⟨.a64 x, true⟩]⟩ := by kernel_rfl
structure X31 where
  w : Int
  x : L64
  nx : Nat
  n : BitVec 64
  i : Nat
noncomputable abbrev Y31 (y : X31) : St := S31 y.w y.x y.nx y.n y.i
noncomputable def parse31 (st : St) : Option (Bool × X31) := match st with
  | ⟨t, [some ⟨.a64 x, true⟩]⟩ =>
    match t.getD 0 .any, t.getD 6 .any, t.getD 7 .any, t.getD 8 .any with
    | .i .i64 w, .sl 0 0 nx, .u64 n, .i .i64 (.ofNat i) => some (decide (t.length = 34) && decide (x.length = nx) && decide (nx ≤ 16) && decide (i ≤ nx) && x.all (fitF w), ⟨w, x, nx, n, i⟩)
    | _, _, _, _ => none
  | _ => none
def I31 (y : X31) : Prop := y.x.length = y.nx ∧ y.nx ≤ 16 ∧ y.i ≤ y.nx ∧ ∀ z ∈ y.x, fitF y.w z = true
def go31 (y : X31) : Bool := decide (y.i < y.nx)
def hiS (w : Int) (i : Nat) (n x : BitVec 64) : BitVec 64 := if sgnF w x < 0 then n ||| 1#64 <<< (BitVec.ofInt 64 (i : Int)).toNat else n
def next31 (y : X31) : X31 := { y with n := hiS y.w y.i y.n (y.x.getD y.i 0#64), i := y.i + 1 }
theorem body31 (y : X31) (h : I31 y) (K : Ex → St → Option D) : exec Tryd.prog G0 (tabOf [(69, worthS)]) (fun _ => []) (fun _ => none) 50 c31 (Y31 y) (fun e st => K e (canon keep31 st)) =
    if go31 y = true then K .normal (Y31 (next31 y)) else if (fun _ : X31 => false) y = true then K .ret (Y31 y) else K (.exit 0) (Y31 y) := by
  obtain ⟨h1, h2, h3, h4⟩ := h
  refine (nf31 y.w y.x y.nx y.n y.i K).trans ?_
  have e1 : 0 + ((y.i : Int)).toNat * 1 = y.i := by omega
  simp only [e1]
  unfold go31
  by_cases h : y.i < y.nx
  · have g1 : (y.i : Int) < (y.nx : Int) := by omega
    have g2 : (0 : Int) ≤ (y.i : Int) := by omega
    have g4 : y.i < y.x.length := by omega
    have g5 : fitF y.w (y.x.getD y.i 0#64) = true := by
      rw [List.getD_eq_getElem?_getD, List.getElem?_eq_getElem g4]; exact h4 _ (List.getElem_mem g4)
    have hw : IntKind.i64.wrap ((y.i : Int) + 1) = ((y.i + 1 : Nat) : Int) := by rw [wrap_in (by omega) (by omega)]; rfl
    simp only [h, g1, g2, g4, g5, decide_true, if_true, and_self, hw, decide_eq_true_eq]
    unfold Y31 next31 hiS
    by_cases hs : sgnF y.w (y.x.getD y.i 0#64) < 0
    · rw [if_pos hs, if_pos hs]; rfl
    · rw [if_neg hs, if_neg hs]; rfl
  · have g1 : ¬ (y.i : Int) < (y.nx : Int) := by omega
    simp only [h, g1, decide_false, Bool.false_eq_true, if_false]
    rfl
theorem inv31 (y : X31) (h : I31 y) (hg : go31 y = true) : I31 (next31 y) := by
  obtain ⟨h1, h2, h3, h4⟩ := h
  simp only [go31, decide_eq_true_eq] at hg
  exact ⟨h1, h2, by show y.i + 1 ≤ y.nx; omega, h4⟩
theorem m31 (y : X31) (h : go31 y = true) : y.nx - y.i = (next31 y).nx - (next31 y).i + 1 := by
  simp only [go31, decide_eq_true_eq] at h
  show y.nx - y.i = y.nx - (y.i + 1) + 1
  omega
noncomputable abbrev sum31 : LoopF := sumG keep31 parse31 (fun _ => false) .ret (fun y => Y31 y) (.exit 0) (fun y => Y31 y) (fun y => iter go31 next31 (y.nx - y.i) y)
theorem parse31_ok {st : St} {y : X31} (hx : parse31 st = some (true, y)) : I31 y ∧ ∀ (w0 : World) (L : List (Option Ev.Loc)) (a : Act) (w : World), Rel w0 L st a w → Rel w0 L (Y31 y) a w := by
  unfold parse31 at hx
  split at hx
  · rename_i t x
    split at hx
    · rename_i w nx n i h0 h6 h7 h8
      simp only [Option.some.injEq, Prod.mk.injEq, Bool.and_eq_true, decide_eq_true_eq, List.all_eq_true] at hx
      obtain ⟨⟨⟨⟨⟨g1, g2⟩, g3⟩, g4⟩, g5⟩, rfl⟩ := hx
      refine ⟨⟨g2, g3, g4, g5⟩, fun w0 L' a w hrel => ?_⟩
      exact Rel.pick hrel g1 fun x hx => by
        simp only [List.mem_cons, List.not_mem_nil, or_false] at hx
        rcases hx with rfl | rfl | rfl | rfl
        · exact h0
        · exact h6
        · exact h7
        · exact h8
    · cases hx
  · cases hx
theorem sem31 : SemOK Tryd.prog G0 c31 sum31 := by
  refine SemOK.count (sp := tabOf [(69, worthS)]) (ann := fun _ => []) (ls := fun _ => none) (TableOK.cons t_Worth TableOK.nil) mixed 50 LsOK.none Y31 _ _ (by simp [Ex.out]) _ _ (by simp [Ex.out]) _ keep31 parse31 go31 next31 I31 inv31 body31 (fun y => y.nx - y.i) m31 ?_
  intro st y hx
  exact parse31_ok hx
def hiR (w : Int) : Nat → BitVec 64 → L64 → BitVec 64
  | _, n, [] => n
  | i, n, x :: l => hiR w (i + 1) (hiS w i n x) l
theorem fin31 : ∀ (n : Nat) (y : X31), y.x.length = y.nx → y.nx - y.i = n → y.i ≤ y.nx → iter go31 next31 n y = { y with n := hiR y.w y.i y.n (y.x.drop y.i), i := y.nx }
  | 0, y, h1, hn, h3 => by
    have e : y.i = y.nx := by omega
    have e1 : y.x.drop y.i = [] := List.drop_eq_nil_of_le (by omega)
    show y = _
    rw [e1]
    obtain ⟨w, x, nx, n, i⟩ := y
    simp only at *
    subst e
    rfl
  | n + 1, y, h1, hn, h3 => by
    have hlt : y.i < y.nx := by omega
    have hg : go31 y = true := decide_eq_true hlt
    simp only [iter, hg, if_true]
    rw [fin31 n (next31 y) h1 (by show y.nx - (y.i + 1) = n; omega) (by show y.i + 1 ≤ y.nx; omega)]
    have a1 : y.x.drop y.i = y.x.getD y.i 0#64 :: y.x.drop (y.i + 1) := by
      rw [List.drop_eq_getElem_cons (by omega), List.getD_eq_getElem?_getD, List.getElem?_eq_getElem (by omega)]; rfl
    rw [a1]
    rfl
noncomputable def F31 : LoopF := fun st K => match parse31 (canon keep31 st) with
  | some (g, y) => if g = true then K (.exit 0) (Y31 { y with n := hiR y.w y.i y.n (y.x.drop y.i), i := y.nx }) else none
  | none => none
theorem semF31 : SemOK Tryd.prog G0 c31 F31 := by
  refine SemOK.conv sem31 fun st K r hF => ?_
  unfold F31 at hF
  unfold sum31 sumG
  cases hp : parse31 (canon keep31 st) with
  | none => rw [hp] at hF; cases hF
  | some gy =>
    obtain ⟨g, y⟩ := gy
    rw [hp] at hF
    simp only at hF ⊢
    split at hF
    · rename_i hg
      subst hg
      obtain ⟨h1, h2, h3, h4⟩ := (parse31_ok hp).1
      rw [if_pos rfl, fin31 _ y h1 rfl h3]
      exact hF
    · cases hF
noncomputable def ls31 : Nat → Option LoopF := lsOf [(6, F31)]
theorem loops31 : LsOK Tryd.prog G0 ls31 (Tryd.f31.body.getD .skip) := by
  refine LsOK.of (of_decide_eq_true (by kernel_rfl)) fun x hx => ?_
  simp only [List.mem_cons, List.not_mem_nil, or_false] at hx
  subst hx
  exact semF31
theorem rMask_8 (a0 a1 : BitVec 64) : execFnL Tryd.prog G0 (tabOf [(44, widthS), (24, listS)]) (fun _ => []) ls31 Tryd.f31 50 [.i .i64 8, vec a0 a1] some =
  if ((listF a0 a1 8).all (fitF 8)) = true then some (.tup [.u64 (hiR 8 0 0#64 (listF a0 a1 8)), .i .i64 0]) else none := by kernel_rfl
theorem rMask_16 (a0 a1 : BitVec 64) : execFnL Tryd.prog G0 (tabOf [(44, widthS), (24, listS)]) (fun _ => []) ls31 Tryd.f31 50 [.i .i64 16, vec a0 a1] some =
  if ((listF a0 a1 16).all (fitF 16)) = true then some (.tup [.u64 (hiR 16 0 0#64 (listF a0 a1 16)), .i .i64 0]) else none := by kernel_rfl
theorem rMask_32 (a0 a1 : BitVec 64) : execFnL Tryd.prog G0 (tabOf [(44, widthS), (24, listS)]) (fun _ => []) ls31 Tryd.f31 50 [.i .i64 32, vec a0 a1] some =
  if ((listF a0 a1 32).all (fitF 32)) = true then some (.tup [.u64 (hiR 32 0 0#64 (listF a0 a1 32)), .i .i64 0]) else none := by kernel_rfl
theorem rMask_64 (a0 a1 : BitVec 64) : execFnL Tryd.prog G0 (tabOf [(44, widthS), (24, listS)]) (fun _ => []) ls31 Tryd.f31 50 [.i .i64 64, vec a0 a1] some =
  if ((listF a0 a1 64).all (fitF 64)) = true then some (.tup [.u64 (hiR 64 0 0#64 (listF a0 a1 64)), .i .i64 0]) else none := by kernel_rfl
theorem rMask_no (w : Int) (a0 a1 : BitVec 64) : ex [(44, widthS)] (fun _ => []) Tryd.f31 [.i .i64 w, vec a0 a1] some = if (!okW w) = true then some (.tup [.u64 0#64, .i .i64 2]) else none := by kernel_rfl
theorem top_bit {w : Int} {x : BitVec 64} (h : fitF w x = true) : x >>> (BitVec.ofInt 64 (IntKind.i64.wrap (w - 1))).toNat = if sgnF w x < 0 then 1#64 else 0#64 := by
  obtain ⟨hw, h1⟩ := fitF_nat h
  have hx := x.isLt
  unfold sgnF
  by_cases hs : 2 * (x.toNat : Int) < pw w
  · rw [if_pos hs, if_neg (by omega)]
    rcases okW_cases hw with rfl | rfl | rfl | rfl
    · show x >>> 7 = 0#64
      have hs' : 2 * (x.toNat : Int) < 256 := hs
      apply BitVec.eq_of_toNat_eq
      rw [BitVec.toNat_ushiftRight, Nat.shiftRight_eq_div_pow]
      show x.toNat / 128 = 0
      omega
    · show x >>> 15 = 0#64
      have hs' : 2 * (x.toNat : Int) < 65536 := hs
      apply BitVec.eq_of_toNat_eq
      rw [BitVec.toNat_ushiftRight, Nat.shiftRight_eq_div_pow]
      show x.toNat / 32768 = 0
      omega
    · show x >>> 31 = 0#64
      have hs' : 2 * (x.toNat : Int) < 4294967296 := hs
      apply BitVec.eq_of_toNat_eq
      rw [BitVec.toNat_ushiftRight, Nat.shiftRight_eq_div_pow]
      show x.toNat / 2147483648 = 0
      omega
    · show x >>> 63 = 0#64
      have hs' : 2 * (x.toNat : Int) < 18446744073709551616 := hs
      apply BitVec.eq_of_toNat_eq
      rw [BitVec.toNat_ushiftRight, Nat.shiftRight_eq_div_pow]
      show x.toNat / 9223372036854775808 = 0
      omega
  · rw [if_neg hs, if_pos (by omega)]
    rcases okW_cases hw with rfl | rfl | rfl | rfl
    · show x >>> 7 = 1#64
      have hs' : ¬ 2 * (x.toNat : Int) < 256 := hs
      have h1' : (x.toNat : Int) < 256 := h1
      apply BitVec.eq_of_toNat_eq
      rw [BitVec.toNat_ushiftRight, Nat.shiftRight_eq_div_pow]
      show x.toNat / 128 = 1
      omega
    · show x >>> 15 = 1#64
      have hs' : ¬ 2 * (x.toNat : Int) < 65536 := hs
      have h1' : (x.toNat : Int) < 65536 := h1
      apply BitVec.eq_of_toNat_eq
      rw [BitVec.toNat_ushiftRight, Nat.shiftRight_eq_div_pow]
      show x.toNat / 32768 = 1
      omega
    · show x >>> 31 = 1#64
      have hs' : ¬ 2 * (x.toNat : Int) < 4294967296 := hs
      have h1' : (x.toNat : Int) < 4294967296 := h1
      apply BitVec.eq_of_toNat_eq
      rw [BitVec.toNat_ushiftRight, Nat.shiftRight_eq_div_pow]
      show x.toNat / 2147483648 = 1
      omega
    · show x >>> 63 = 1#64
      have hs' : ¬ 2 * (x.toNat : Int) < 18446744073709551616 := hs
      have h1' : (x.toNat : Int) < 18446744073709551616 := h1
      apply BitVec.eq_of_toNat_eq
      rw [BitVec.toNat_ushiftRight, Nat.shiftRight_eq_div_pow]
      show x.toNat / 9223372036854775808 = 1
      omega
theorem hi_eq (w : Int) : ∀ (l : L64) (i : Nat) (n : BitVec 64), (∀ z ∈ l, fitF w z = true) → hiBits w i n l = hiR w i n l
  | [], _, _, _ => rfl
  | x :: l, i, n, h => by
    have e : n ||| (x >>> (BitVec.ofInt 64 (IntKind.i64.wrap (w - 1))).toNat) <<< (BitVec.ofInt 64 (i : Int)).toNat = hiS w i n x := by
      rw [top_bit (h x List.mem_cons_self)]
      unfold hiS
      by_cases hs : sgnF w x < 0 <;> simp [hs]
    simp only [hiBits, hiR, e]
    exact hi_eq w l (i + 1) _ fun z hz => h z (List.mem_cons_of_mem _ hz)
theorem t_rvMask : Snd 31 MaskS := by
  refine Sound.of_pt fun ds d hd => ?_
  split at hd
  · rename_i w a0 a1
    cases hd
    cases hw : okW w
    · refine (execFn_sound (ann := fun _ => []) (TableOK.cons t_Width TableOK.nil) mixed Tryd.func31 (by kernel_rfl) 50).pt ((rMask_no w a0 a1).trans ?_)
      rw [hw]; rfl
    · have S := execFnL_sound (P := Tryd.prog) (G := G0) (ann := fun _ => []) (ls := ls31) (TableOK.cons t_Width (TableOK.cons list35 TableOK.nil)) mixed Tryd.func31 (by kernel_rfl) 50 (fun c hc => by
        have e : c = Tryd.f31.body.getD .skip := by rw [hc]; rfl
        rw [e]; exact loops31)
      have hf := list_fit (x := a0) (y := a1) hw
      rw [hi_eq w _ 0 _ hf]
      have ha : ((listF a0 a1 w).all (fitF w)) = true := List.all_eq_true.2 hf
      unfold ifF errF
      rw [if_pos rfl, if_pos rfl]
      rcases okW_cases hw with rfl | rfl | rfl | rfl
      · exact S.pt ((rMask_8 a0 a1).trans (if_pos ha))
      · exact S.pt ((rMask_16 a0 a1).trans (if_pos ha))
      · exact S.pt ((rMask_32 a0 a1).trans (if_pos ha))
      · exact S.pt ((rMask_64 a0 a1).trans (if_pos ha))
  · cases hd
end Go.L07
