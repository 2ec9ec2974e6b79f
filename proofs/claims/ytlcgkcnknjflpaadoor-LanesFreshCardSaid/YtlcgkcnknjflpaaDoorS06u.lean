/-
  Part of the proof; what its functions and lemmas say stands in the text.
-/
import Derived.Test.YtlcgkcnknjflpaaDoorS06r
set_option linter.unusedSimpArgs false
set_option linter.unusedVariables false
/-!
Chapter 06: bytes of two, by numbers.
-/
namespace Go.L06
open Go.Ev Go.Proofs Go.RowKit Go.Rt

/-- A byte of two vectors, by a number. -/
def pk (a0 a1 b0 b1 : BitVec 64) (c : BitVec 8) : BitVec 64 := if c < 16#8 then getF a0 a1 8 (sOfU .i64 c) else getF b0 b1 8 (IntKind.i64.wrap (sOfU .i64 c - 16))
theorem lt16_32 {c : BitVec 8} (h : c < 16#8) : c < 32#8 := by
  rw [BitVec.lt_def] at h ⊢
  simp at h ⊢
  omega
noncomputable def c36 : Code := findLoop (loops (Tryd.f36.body.getD .skip)) 3
noncomputable abbrev keep36 : List Nat := [3, 4, 6, 7, 8, 11, 12]
noncomputable def S36 (a0 : BitVec 64) (a1 : BitVec 64) (b0 : BitVec 64) (b1 : BitVec 64) (l : List (BitVec 8)) (r0 : BitVec 64) (r1 : BitVec 64) (o0 : BitVec 64) (o1 : BitVec 64) (e : Int) (i : Int) : St := ⟨mkT 40 [(3, .ptr 0 0), (4, .ptr 1 0), (6, .ptr 2 0), (7, .i .i64 e), (8, .ptr 3 0), (11, .a8 l), (12, .i .i64 i)], [some ⟨.agg [.u64 a0, .u64 a1], true⟩, some ⟨.agg [.u64 b0, .u64 b1], true⟩, some ⟨.agg [.u64 r0, .u64 r1], true⟩, some ⟨.agg [.u64 o0, .u64 o1], true⟩]⟩
theorem nf36 (a0 : BitVec 64) (a1 : BitVec 64) (b0 : BitVec 64) (b1 : BitVec 64) (l : List (BitVec 8)) (r0 : BitVec 64) (r1 : BitVec 64) (o0 : BitVec 64) (o1 : BitVec 64) (e : Int) (i : Int) (K : Ex → St → Option D) : exec Tryd.prog G0 (tabOf [(41, getS), (43, setS)]) (fun _ => []) (fun _ => none) 50 c36 (S36 a0 a1 b0 b1 l r0 r1 o0 o1 e i) (fun e st => K e (canon keep36 st)) =
  if decide (i < 16) = true then if 0 ≤ i ∧ i < 16 then if i.toNat < (l).length then if decide (l.getD i.toNat 0 < BitVec.ofInt 8 16) = true then K .normal ⟨mkT 40 [(3, .ptr 0 0), (4, .ptr 1 0), (6, .ptr 2 0), (7, .i .i64 e), (8, .ptr 3 0), (11, .a8 l), (12, .i .i64 (IntKind.i64.wrap (i + 1)))], [some ⟨.agg [.u64 a0, .u64 a1], true⟩, some ⟨.agg [.u64 b0, .u64 b1], true⟩, some ⟨.agg [.u64 r0, .u64 r1], true⟩, some ⟨.agg [.u64 (setF o0 o1 8 i (getF a0 a1 8 (sOfU .i64 (l.getD i.toNat 0#8)))).fst, .u64 (setF o0 o1 8 i (getF a0 a1 8 (sOfU .i64 (l.getD i.toNat 0#8)))).snd], true⟩]⟩ else if decide (l.getD i.toNat 0 < BitVec.ofInt 8 32) = true then K .normal ⟨mkT 40 [(3, .ptr 0 0), (4, .ptr 1 0), (6, .ptr 2 0), (7, .i .i64 e), (8, .ptr 3 0), (11, .a8 l), (12, .i .i64 (IntKind.i64.wrap (i + 1)))], [some ⟨.agg [.u64 a0, .u64 a1], true⟩, some ⟨.agg [.u64 b0, .u64 b1], true⟩, some ⟨.agg [.u64 r0, .u64 r1], true⟩, some ⟨.agg [.u64 (setF o0 o1 8 i (getF b0 b1 8 (IntKind.i64.wrap (sOfU .i64 (l.getD i.toNat 0#8) - 16)))).fst, .u64 (setF o0 o1 8 i (getF b0 b1 8 (IntKind.i64.wrap (sOfU .i64 (l.getD i.toNat 0#8) - 16)))).snd], true⟩]⟩ else K .ret ⟨mkT 40 [(3, .ptr 0 0), (4, .ptr 1 0), (6, .ptr 2 0), (7, .i .i64 2), (8, .ptr 3 0), (11, .a8 l), (12, .i .i64 i)], [some ⟨.agg [.u64 a0, .u64 a1], true⟩, some ⟨.agg [.u64 b0, .u64 b1], true⟩, some ⟨.agg [.u64 0#64, .u64 0#64], true⟩, some ⟨.agg [.u64 o0, .u64 o1], true⟩]⟩ else none else none else K (.exit 0) ⟨mkT 40 [(3, .ptr 0 0), (4, .ptr 1 0), (6, .ptr 2 0), (7, .i .i64 e), (8, .ptr 3 0), (11, .a8 l), (12, .i .i64 i)], [some ⟨.agg [.u64 a0, .u64 a1], true⟩, some ⟨.agg [.u64 b0, .u64 b1], true⟩, some ⟨.agg [.u64 r0, .u64 r1], true⟩, some ⟨.agg [.u64 o0, .u64 o1], true⟩]⟩  := by kernel_rfl
structure X36 where
  a0 : BitVec 64
  a1 : BitVec 64
  b0 : BitVec 64
  b1 : BitVec 64
  l : List (BitVec 8)
  r0 : BitVec 64
  r1 : BitVec 64
  o0 : BitVec 64
  o1 : BitVec 64
  e : Int
  i : Nat
noncomputable abbrev Y36 (y : X36) : St := S36 y.a0 y.a1 y.b0 y.b1 y.l y.r0 y.r1 y.o0 y.o1 y.e y.i
noncomputable def parse36 (st : St) : Option (Bool × X36) := match st with
  | ⟨t, [some ⟨.agg [.u64 a0, .u64 a1], true⟩, some ⟨.agg [.u64 b0, .u64 b1], true⟩, some ⟨.agg [.u64 r0, .u64 r1], true⟩, some ⟨.agg [.u64 o0, .u64 o1], true⟩]⟩ =>
    match t.getD 3 .any, t.getD 4 .any, t.getD 6 .any, t.getD 7 .any, t.getD 8 .any, t.getD 11 .any, t.getD 12 .any with
    | .ptr 0 0, .ptr 1 0, .ptr 2 0, .i .i64 e, .ptr 3 0, .a8 l, .i .i64 (.ofNat i) => some (decide (t.length = 40 ∧ (l.length = 16 ∧ i ≤ 16)), ⟨a0, a1, b0, b1, l, r0, r1, o0, o1, e, i⟩)
    | _, _, _, _, _, _, _ => none
  | _ => none
def go36 (y : X36) : Bool := decide (y.i < 16) && decide (y.l.getD y.i 0#8 < 32#8)
def next36 (y : X36) : X36 := { y with o0 := (setF y.o0 y.o1 8 y.i (pk y.a0 y.a1 y.b0 y.b1 (y.l.getD y.i 0#8))).1, o1 := (setF y.o0 y.o1 8 y.i (pk y.a0 y.a1 y.b0 y.b1 (y.l.getD y.i 0#8))).2, i := y.i + 1 }
def I36 (y : X36) : Prop := y.l.length = 16 ∧ y.i ≤ 16
theorem body36 (y : X36) (h : I36 y) (K : Ex → St → Option D) : exec Tryd.prog G0 (tabOf [(41, getS), (43, setS)]) (fun _ => []) (fun _ => none) 50 c36 (Y36 y) (fun e st => K e (canon keep36 st)) =
    if go36 y = true then K .normal (Y36 (next36 y)) else if decide (y.i < 16) = true then K .ret (Y36 { y with r0 := 0#64, r1 := 0#64, e := 2 }) else K (.exit 0) (Y36 y) := by
  obtain ⟨hl, hi⟩ := h
  refine (nf36 y.a0 y.a1 y.b0 y.b1 y.l y.r0 y.r1 y.o0 y.o1 y.e y.i K).trans ?_
  have e16 : BitVec.ofInt 8 16 = 16#8 := rfl
  have e32 : BitVec.ofInt 8 32 = 32#8 := rfl
  have z8 : (0 : BitVec 8) = 0#8 := rfl
  simp only [e16, e32, z8, Int.toNat_natCast, hl]
  unfold go36
  by_cases h : y.i < 16
  · have h1 : (y.i : Int) < 16 := by omega
    have h2 : (0 : Int) ≤ (y.i : Int) := by omega
    have hw : IntKind.i64.wrap ((y.i : Int) + 1) = ((y.i + 1 : Nat) : Int) := by rw [wrap_i64 (by omega) (by omega)]; rfl
    simp only [h, h1, h2, decide_true, if_true, and_self, Bool.true_and, hw]
    by_cases h3 : y.l.getD y.i 0#8 < 16#8
    · have h4 := lt16_32 h3
      simp only [h3, h4, decide_true, if_true, next36, pk]
      rfl
    · by_cases h4 : y.l.getD y.i 0#8 < 32#8
      · simp only [h3, h4, decide_true, decide_false, if_true, if_false, Bool.false_eq_true, next36, pk]
        rfl
      · simp only [h3, h4, decide_false, if_false, Bool.false_eq_true]
        rfl
  · have h1 : ¬ (y.i : Int) < 16 := by omega
    simp only [h, h1, decide_false, Bool.false_and, Bool.false_eq_true, if_false]
    rfl
theorem inv36 (y : X36) (h : I36 y) (hg : go36 y = true) : I36 (next36 y) := by
  obtain ⟨hl, hi⟩ := h
  simp only [go36, Bool.and_eq_true, decide_eq_true_eq] at hg
  exact ⟨hl, by show y.i + 1 ≤ 16; omega⟩
theorem m36 (y : X36) (h : go36 y = true) : 16 - y.i = 16 - (next36 y).i + 1 := by
  simp only [go36, Bool.and_eq_true, decide_eq_true_eq] at h
  show 16 - y.i = 16 - (y.i + 1) + 1
  omega
noncomputable abbrev sum36 : LoopF := sumG keep36 parse36 (fun y => decide (y.i < 16)) .ret (fun y => Y36 { y with r0 := 0#64, r1 := 0#64, e := 2 }) (.exit 0) (fun y => Y36 y) (fun y => iter (go36) (next36) ((fun y => 16 - y.i) y) y)
theorem sem36 : SemOK Tryd.prog G0 c36 sum36 := by
  refine SemOK.count (sp := tabOf [(41, getS), (43, setS)]) (ann := fun _ => []) (ls := fun _ => none) (TableOK.cons get41 (TableOK.cons set43 TableOK.nil)) mixed 50 LsOK.none Y36 _ _ (by simp [Ex.out]) _ _ (by simp [Ex.out]) _ keep36 parse36 (go36) (next36) I36 inv36 body36 (fun y => 16 - y.i) m36 ?_
  intro st y hx
  unfold parse36 at hx
  split at hx
  · rename_i t a0 a1 b0 b1 r0 r1 o0 o1
    split at hx
    · rename_i e l i h3 h4 h6 h7 h8 h11 h12
      simp only [Option.some.injEq, Prod.mk.injEq, decide_eq_true_eq] at hx
      obtain ⟨⟨g1, g2⟩, rfl⟩ := hx
      refine ⟨g2, fun w0 L' a w hrel => ?_⟩
      exact Rel.pick hrel g1 fun x hx => by
        simp only [List.mem_cons, List.not_mem_nil, or_false] at hx
        rcases hx with rfl | rfl | rfl | rfl | rfl | rfl | rfl
        · exact h3
        · exact h4
        · exact h6
        · exact h7
        · exact h8
        · exact h11
        · exact h12
    · cases hx
  · cases hx
noncomputable def ls36 : Nat → Option LoopF := lsOf [(3, sum36)]
theorem loops36 : LsOK Tryd.prog G0 ls36 (Tryd.f36.body.getD .skip) := by
  refine LsOK.of (of_decide_eq_true (by kernel_rfl)) fun x hx => ?_
  simp only [List.mem_cons, List.not_mem_nil, or_false] at hx
  subst hx
  exact sem36

/-! What the rounds come to -/
def okSh (l : List (BitVec 8)) : Bool := l.all fun c => decide (c < 32#8)
theorem run36 (k : Nat) : ∀ y : X36, (run next36 k y).i = y.i + k ∧ (run next36 k y).l = y.l := by
  induction k with
  | zero => intro y; exact ⟨rfl, rfl⟩
  | succ k ih => intro y; obtain ⟨h1, h2⟩ := ih (next36 y); exact ⟨by rw [run, h1]; show y.i + 1 + k = _; omega, h2⟩
theorem getD_mem {l : List (BitVec 8)} {k : Nat} (h : k < l.length) : l.getD k 0#8 ∈ l := by
  rw [List.getD_eq_getElem?_getD, List.getElem?_eq_getElem h]; exact List.getElem_mem h
theorem fin36_ok (y : X36) (h0 : y.i = 0) (hl : y.l.length = 16) (hok : okSh y.l = true) : iter go36 next36 (16 - y.i) y = run next36 16 y := by
  rw [h0]
  refine iter_run _ _ fun k hk => ?_
  obtain ⟨h1, h2⟩ := run36 k y
  simp only [go36, h1, h2, h0, Nat.zero_add, Bool.and_eq_true, decide_eq_true_eq]
  exact ⟨hk, of_decide_eq_true (List.all_eq_true.1 hok _ (getD_mem (by omega)))⟩
theorem fin36_no (y : X36) (h0 : y.i = 0) (hl : y.l.length = 16) (hok : okSh y.l = false) : decide ((iter go36 next36 (16 - y.i) y).i < 16) = true := by
  have hJ := iter_inv (go := go36) (next := next36) (J := fun z => z.l = y.l ∧ ∀ j, j < z.i → y.l.getD j 0#8 < 32#8) (fun z ⟨h1, h2⟩ hg => ⟨h1, fun j hj => by
    simp only [go36, Bool.and_eq_true, decide_eq_true_eq] at hg
    rcases Nat.lt_or_ge j z.i with h | h
    · exact h2 j h
    · have : j = z.i := by have : j < z.i + 1 := hj; omega
      rw [this, ← h1]; exact hg.2⟩) (16 - y.i) y ⟨rfl, fun j hj => by omega⟩
  have hs := iter_stop (go := go36) (next := next36) (m := fun y => 16 - y.i) m36 _ y rfl
  revert hJ hs
  generalize iter go36 next36 (16 - y.i) y = z
  intro ⟨h1, h2⟩ hs
  rcases Nat.lt_or_ge z.i 16 with h | h
  · exact decide_eq_true h
  · exfalso
    have : okSh y.l = true := by
      refine List.all_eq_true.2 fun c hc => decide_eq_true ?_
      obtain ⟨j, hj, rfl⟩ := List.mem_iff_getElem.1 hc
      have := h2 j (by omega)
      rwa [List.getD_eq_getElem?_getD, List.getElem?_eq_getElem hj] at this
    rw [hok] at this; cases this
def sh0 (a0 a1 b0 b1 : BitVec 64) (l : List (BitVec 8)) (k : Nat) : BitVec 8 := bt (pk a0 a1 b0 b1 (l.getD k 0#8)) 0
def shLo (a0 a1 b0 b1 : BitVec 64) (l : List (BitVec 8)) : BitVec 64 := w8 (sh0 a0 a1 b0 b1 l 0) (sh0 a0 a1 b0 b1 l 1) (sh0 a0 a1 b0 b1 l 2) (sh0 a0 a1 b0 b1 l 3) (sh0 a0 a1 b0 b1 l 4) (sh0 a0 a1 b0 b1 l 5) (sh0 a0 a1 b0 b1 l 6) (sh0 a0 a1 b0 b1 l 7)
def shHi (a0 a1 b0 b1 : BitVec 64) (l : List (BitVec 8)) : BitVec 64 := w8 (sh0 a0 a1 b0 b1 l 8) (sh0 a0 a1 b0 b1 l 9) (sh0 a0 a1 b0 b1 l 10) (sh0 a0 a1 b0 b1 l 11) (sh0 a0 a1 b0 b1 l 12) (sh0 a0 a1 b0 b1 l 13) (sh0 a0 a1 b0 b1 l 14) (sh0 a0 a1 b0 b1 l 15)
noncomputable def ShufS : Ev.Spec := guarded fun
  | [.agg [.u64 a0, .u64 a1], .agg [.u64 b0, .u64 b1], .a8 l] => some (decide (l.length = 16), .tup [vec (ifF (okSh l) (shLo a0 a1 b0 b1 l)) (ifF (okSh l) (shHi a0 a1 b0 b1 l)), .i .i64 (errF (okSh l))])
  | _ => none
theorem getF_fit (x y : BitVec 64) (i : Int) : getF x y 8 i ≤ maskF 8 := by
  unfold getF
  split <;> exact and_le _ _
theorem pk_fit (a0 a1 b0 b1 : BitVec 64) (c : BitVec 8) : pk a0 a1 b0 b1 c = pk a0 a1 b0 b1 c &&& maskF 8 := by
  refine and_fit (t := 8) (by decide) ?_
  unfold pk
  split <;> exact getF_fit _ _ _
theorem route8' (z0 z1 z2 z3 z4 z5 z6 z7 : BitVec 64) : put (put (put (put (put (put (put (put 0#64 (maskF 8) 0 (z0 &&& maskF 8)) (maskF 8) 8 (z1 &&& maskF 8)) (maskF 8) 16 (z2 &&& maskF 8)) (maskF 8) 24 (z3 &&& maskF 8)) (maskF 8) 32 (z4 &&& maskF 8)) (maskF 8) 40 (z5 &&& maskF 8)) (maskF 8) 48 (z6 &&& maskF 8)) (maskF 8) 56 (z7 &&& maskF 8) = w8 (bt (z0 &&& maskF 8) 0) (bt (z1 &&& maskF 8) 0) (bt (z2 &&& maskF 8) 0) (bt (z3 &&& maskF 8) 0) (bt (z4 &&& maskF 8) 0) (bt (z5 &&& maskF 8) 0) (bt (z6 &&& maskF 8) 0) (bt (z7 &&& maskF 8) 0) := route (ρ := atW z0 z1 z2 z3 z4 z5 z6 z7) (by kernel_rfl)
theorem route_pk (a0 a1 b0 b1 : BitVec 64) (c0 c1 c2 c3 c4 c5 c6 c7 : BitVec 8) : put (put (put (put (put (put (put (put 0#64 (maskF 8) 0 (pk a0 a1 b0 b1 c0)) (maskF 8) 8 (pk a0 a1 b0 b1 c1)) (maskF 8) 16 (pk a0 a1 b0 b1 c2)) (maskF 8) 24 (pk a0 a1 b0 b1 c3)) (maskF 8) 32 (pk a0 a1 b0 b1 c4)) (maskF 8) 40 (pk a0 a1 b0 b1 c5)) (maskF 8) 48 (pk a0 a1 b0 b1 c6)) (maskF 8) 56 (pk a0 a1 b0 b1 c7) =
    w8 (bt (pk a0 a1 b0 b1 c0) 0) (bt (pk a0 a1 b0 b1 c1) 0) (bt (pk a0 a1 b0 b1 c2) 0) (bt (pk a0 a1 b0 b1 c3) 0) (bt (pk a0 a1 b0 b1 c4) 0) (bt (pk a0 a1 b0 b1 c5) 0) (bt (pk a0 a1 b0 b1 c6) 0) (bt (pk a0 a1 b0 b1 c7) 0) := by
  have := route8' (pk a0 a1 b0 b1 c0) (pk a0 a1 b0 b1 c1) (pk a0 a1 b0 b1 c2) (pk a0 a1 b0 b1 c3) (pk a0 a1 b0 b1 c4) (pk a0 a1 b0 b1 c5) (pk a0 a1 b0 b1 c6) (pk a0 a1 b0 b1 c7)
  simp only [← pk_fit] at this
  exact this
theorem res36 (a0 a1 b0 b1 r0 r1 : BitVec 64) (e : Int) (l : List (BitVec 8)) (hl : l.length = 16) : (run next36 16 ⟨a0, a1, b0, b1, l, r0, r1, 0#64, 0#64, e, 0⟩).o0 = shLo a0 a1 b0 b1 l ∧ (run next36 16 ⟨a0, a1, b0, b1, l, r0, r1, 0#64, 0#64, e, 0⟩).o1 = shHi a0 a1 b0 b1 l := by
  obtain ⟨c0, l0, rfl, h0⟩ := len_cons hl
  obtain ⟨c1, l1, rfl, h1⟩ := len_cons h0
  obtain ⟨c2, l2, rfl, h2⟩ := len_cons h1
  obtain ⟨c3, l3, rfl, h3⟩ := len_cons h2
  obtain ⟨c4, l4, rfl, h4⟩ := len_cons h3
  obtain ⟨c5, l5, rfl, h5⟩ := len_cons h4
  obtain ⟨c6, l6, rfl, h6⟩ := len_cons h5
  obtain ⟨c7, l7, rfl, h7⟩ := len_cons h6
  obtain ⟨c8, l8, rfl, h8⟩ := len_cons h7
  obtain ⟨c9, l9, rfl, h9⟩ := len_cons h8
  obtain ⟨c10, l10, rfl, h10⟩ := len_cons h9
  obtain ⟨c11, l11, rfl, h11⟩ := len_cons h10
  obtain ⟨c12, l12, rfl, h12⟩ := len_cons h11
  obtain ⟨c13, l13, rfl, h13⟩ := len_cons h12
  obtain ⟨c14, l14, rfl, h14⟩ := len_cons h13
  obtain ⟨c15, l15, rfl, h15⟩ := len_cons h14
  obtain rfl := len_nil h15
  have e0 : (run next36 16 ⟨a0, a1, b0, b1, [c0, c1, c2, c3, c4, c5, c6, c7, c8, c9, c10, c11, c12, c13, c14, c15], r0, r1, 0#64, 0#64, e, 0⟩).o0 = put (put (put (put (put (put (put (put 0#64 (maskF 8) 0 (pk a0 a1 b0 b1 c0)) (maskF 8) 8 (pk a0 a1 b0 b1 c1)) (maskF 8) 16 (pk a0 a1 b0 b1 c2)) (maskF 8) 24 (pk a0 a1 b0 b1 c3)) (maskF 8) 32 (pk a0 a1 b0 b1 c4)) (maskF 8) 40 (pk a0 a1 b0 b1 c5)) (maskF 8) 48 (pk a0 a1 b0 b1 c6)) (maskF 8) 56 (pk a0 a1 b0 b1 c7) := by kernel_rfl
  have e1 : (run next36 16 ⟨a0, a1, b0, b1, [c0, c1, c2, c3, c4, c5, c6, c7, c8, c9, c10, c11, c12, c13, c14, c15], r0, r1, 0#64, 0#64, e, 0⟩).o1 = put (put (put (put (put (put (put (put 0#64 (maskF 8) 0 (pk a0 a1 b0 b1 c8)) (maskF 8) 8 (pk a0 a1 b0 b1 c9)) (maskF 8) 16 (pk a0 a1 b0 b1 c10)) (maskF 8) 24 (pk a0 a1 b0 b1 c11)) (maskF 8) 32 (pk a0 a1 b0 b1 c12)) (maskF 8) 40 (pk a0 a1 b0 b1 c13)) (maskF 8) 48 (pk a0 a1 b0 b1 c14)) (maskF 8) 56 (pk a0 a1 b0 b1 c15) := by kernel_rfl
  exact ⟨e0.trans (route_pk _ _ _ _ _ _ _ _ _ _ _ _), e1.trans (route_pk _ _ _ _ _ _ _ _ _ _ _ _)⟩
theorem law36 (a0 a1 b0 b1 : BitVec 64) (l : List (BitVec 8)) : execFnL Tryd.prog G0 (tabOf []) (fun _ => []) ls36 Tryd.f36 50 [vec a0 a1, vec b0 b1, .a8 l] some =
  if l.length = 16 then if decide (40 = 40 ∧ (l.length = 16 ∧ 0 ≤ 16)) = true then
    if decide ((iter go36 next36 (16 - 0) ⟨a0, a1, b0, b1, l, 0#64, 0#64, 0#64, 0#64, 0, 0⟩).i < 16) = true then some (.tup [vec 0#64 0#64, .i .i64 2])
    else some (.tup [vec (iter go36 next36 (16 - 0) ⟨a0, a1, b0, b1, l, 0#64, 0#64, 0#64, 0#64, 0, 0⟩).o0 (iter go36 next36 (16 - 0) ⟨a0, a1, b0, b1, l, 0#64, 0#64, 0#64, 0#64, 0, 0⟩).o1, .i .i64 0])
  else none else none := by kernel_rfl
theorem Shuf36 : Snd 36 ShufS := by
  refine Sound.guard (execFnL_sound (ann := fun _ => []) (ls := ls36) TableOK.nil mixed Tryd.func36 (by kernel_rfl) 50 (fun c hc => by
    have e : c = Tryd.f36.body.getD .skip := by rw [hc]; rfl
    rw [e]; exact loops36)) fun ds d h => ?_
  split at h
  · rename_i a0 a1 b0 b1 l
    simp only [Option.some.injEq, Prod.mk.injEq, decide_eq_true_eq] at h
    obtain ⟨hl, rfl⟩ := h
    refine (law36 a0 a1 b0 b1 l).trans ?_
    rw [if_pos hl, if_pos (by simp [hl])]
    cases hok : okSh l
    · rw [if_pos (fin36_no ⟨a0, a1, b0, b1, l, 0#64, 0#64, 0#64, 0#64, 0, 0⟩ rfl hl hok)]
      rfl
    · have e := fin36_ok ⟨a0, a1, b0, b1, l, 0#64, 0#64, 0#64, 0#64, 0, 0⟩ rfl hl hok
      dsimp only at e
      obtain ⟨e0, e1⟩ := res36 a0 a1 b0 b1 0#64 0#64 0 l hl
      have e2 := (run36 16 ⟨a0, a1, b0, b1, l, 0#64, 0#64, 0#64, 0#64, 0, 0⟩).1
      rw [e, e0, e1, e2]
      rfl
  · cases h
end Go.L06
