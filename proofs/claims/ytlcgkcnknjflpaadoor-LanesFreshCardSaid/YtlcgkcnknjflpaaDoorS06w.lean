/-
  Part of the proof; what its functions and lemmas say stands in the text.
-/
import Derived.Test.YtlcgkcnknjflpaaDoorS06s
import Derived.Test.YtlcgkcnknjflpaaDoorS06v
set_option linter.unusedSimpArgs false
set_option linter.unusedVariables false
/-!
Chapter 06: bytes of one, by another one's.
-/
namespace Go.L06
open Go.Ev Go.Proofs Go.RowKit Go.Rt

theorem set_get {w : Int} (hw : okW w = true) {k : Nat} (hk : (k : Int) < 128 / w) (x y : BitVec 64) : setF x y w k (getF x y w k) = (x, y) := by
  have hp := okW_pos hw
  have hz : getF x y w k ≤ maskF w := by unfold getF; split <;> exact and_le _ _
  have e := rset hw (by omega) hk x y hz
  rw [← e]
  have e2 : (listF x y w).set ((k : Int)).toNat (getF x y w k) = listF x y w := by
    rw [Int.toNat_natCast]
    have h1 : k < (listF x y w).length := by rw [listF_length]; omega
    have h2 := listF_get (x := x) (y := y) (w := w) (n := k) (by omega)
    rw [List.getD_eq_getElem?_getD, List.getElem?_eq_getElem h1] at h2
    simp only [Option.getD_some] at h2
    rw [← h2]
    exact List.set_getElem_self h1
  rw [e2, vecF_list x y hw]
/-- No lane from i on is set. -/
def clear (o0 o1 : BitVec 64) (i : Nat) : Bool := (List.range 16).all fun k => decide (k < i) || (getF o0 o1 8 k == 0#64)
theorem clear_at {o0 o1 : BitVec 64} {i k : Nat} (h : clear o0 o1 i = true) (hk : k < 16) (hi : i ≤ k) : getF o0 o1 8 k = 0#64 := by
  have := List.all_eq_true.1 h k (List.mem_range.2 hk)
  simp only [Bool.or_eq_true, decide_eq_true_eq, beq_iff_eq] at this
  rcases this with h | h
  · omega
  · exact h
/-- A byte, by a number below 16; else 0. -/
def qk (a0 a1 : BitVec 64) (c : BitVec 8) : BitVec 64 := if c < 16#8 then getF a0 a1 8 (sOfU .i64 c) else 0#64
theorem qk_le (a0 a1 : BitVec 64) (c : BitVec 8) : qk a0 a1 c ≤ maskF 8 := by
  unfold qk
  split
  · exact getF_fit _ _ _
  · decide
theorem qk_fit (a0 a1 : BitVec 64) (c : BitVec 8) : qk a0 a1 c = qk a0 a1 c &&& maskF 8 := and_fit (t := 8) (by decide) (qk_le a0 a1 c)
theorem okI8 {i : Nat} (h : i < 16) : okI 8 i = true := by
  have e : (128 : Int) / 8 = 16 := by decide
  have w : okW 8 = true := by decide
  simp only [okI, w, e, Bool.true_and, Bool.and_eq_true, decide_eq_true_eq]
  omega
noncomputable def c38 : Code := findLoop (loops (Tryd.f38.body.getD .skip)) 3
noncomputable abbrev keep38 : List Nat := [2, 4, 5, 9, 10]
noncomputable def S38 (a0 : BitVec 64) (a1 : BitVec 64) (r0 : BitVec 64) (r1 : BitVec 64) (o0 : BitVec 64) (o1 : BitVec 64) (l : List (BitVec 8)) (i : Int) : St := ⟨mkT 25 [(2, .ptr 0 0), (4, .ptr 1 0), (5, .ptr 2 0), (9, .a8 l), (10, .i .i64 i)], [some ⟨.agg [.u64 a0, .u64 a1], true⟩, some ⟨.agg [.u64 r0, .u64 r1], true⟩, some ⟨.agg [.u64 o0, .u64 o1], true⟩]⟩
theorem nf38 (a0 : BitVec 64) (a1 : BitVec 64) (r0 : BitVec 64) (r1 : BitVec 64) (o0 : BitVec 64) (o1 : BitVec 64) (l : List (BitVec 8)) (i : Int) (K : Ex → St → Option D) : exec Tryd.prog G0 (tabOf [(41, getS), (43, setS)]) (fun _ => []) (fun _ => none) 50 c38 (S38 a0 a1 r0 r1 o0 o1 l i) (fun e st => K e (canon keep38 st)) =
  if decide (i < 16) = true then if 0 ≤ i ∧ i < 16 then if i.toNat < (l).length then if decide (l.getD i.toNat 0 < BitVec.ofInt 8 16) = true then K .normal ⟨mkT 25 [(2, .ptr 0 0), (4, .ptr 1 0), (5, .ptr 2 0), (9, .a8 l), (10, .i .i64 (IntKind.i64.wrap (i + 1)))], [some ⟨.agg [.u64 a0, .u64 a1], true⟩, some ⟨.agg [.u64 r0, .u64 r1], true⟩, some ⟨.agg [.u64 (setF o0 o1 8 i (getF a0 a1 8 (sOfU .i64 (l.getD i.toNat 0#8)))).fst, .u64 (setF o0 o1 8 i (getF a0 a1 8 (sOfU .i64 (l.getD i.toNat 0#8)))).snd], true⟩]⟩ else K .normal ⟨mkT 25 [(2, .ptr 0 0), (4, .ptr 1 0), (5, .ptr 2 0), (9, .a8 l), (10, .i .i64 (IntKind.i64.wrap (i + 1)))], [some ⟨.agg [.u64 a0, .u64 a1], true⟩, some ⟨.agg [.u64 r0, .u64 r1], true⟩, some ⟨.agg [.u64 o0, .u64 o1], true⟩]⟩ else none else none else K (.exit 0) ⟨mkT 25 [(2, .ptr 0 0), (4, .ptr 1 0), (5, .ptr 2 0), (9, .a8 l), (10, .i .i64 i)], [some ⟨.agg [.u64 a0, .u64 a1], true⟩, some ⟨.agg [.u64 r0, .u64 r1], true⟩, some ⟨.agg [.u64 o0, .u64 o1], true⟩]⟩  := by kernel_rfl
structure X38 where
  a0 : BitVec 64
  a1 : BitVec 64
  r0 : BitVec 64
  r1 : BitVec 64
  o0 : BitVec 64
  o1 : BitVec 64
  l : List (BitVec 8)
  i : Nat
noncomputable abbrev Y38 (y : X38) : St := S38 y.a0 y.a1 y.r0 y.r1 y.o0 y.o1 y.l y.i
noncomputable def parse38 (st : St) : Option (Bool × X38) := match st with
  | ⟨t, [some ⟨.agg [.u64 a0, .u64 a1], true⟩, some ⟨.agg [.u64 r0, .u64 r1], true⟩, some ⟨.agg [.u64 o0, .u64 o1], true⟩]⟩ =>
    match t.getD 2 .any, t.getD 4 .any, t.getD 5 .any, t.getD 9 .any, t.getD 10 .any with
    | .ptr 0 0, .ptr 1 0, .ptr 2 0, .a8 l, .i .i64 (.ofNat i) => some (decide (t.length = 25 ∧ (l.length = 16 ∧ i ≤ 16 ∧ clear o0 o1 i = true)), ⟨a0, a1, r0, r1, o0, o1, l, i⟩)
    | _, _, _, _, _ => none
  | _ => none
def go38 (y : X38) : Bool := decide (y.i < 16)
def next38 (y : X38) : X38 := { y with o0 := (setF y.o0 y.o1 8 y.i (qk y.a0 y.a1 (y.l.getD y.i 0#8))).1, o1 := (setF y.o0 y.o1 8 y.i (qk y.a0 y.a1 (y.l.getD y.i 0#8))).2, i := y.i + 1 }
def I38 (y : X38) : Prop := y.l.length = 16 ∧ y.i ≤ 16 ∧ clear y.o0 y.o1 y.i = true
theorem body38 (y : X38) (h : I38 y) (K : Ex → St → Option D) : exec Tryd.prog G0 (tabOf [(41, getS), (43, setS)]) (fun _ => []) (fun _ => none) 50 c38 (Y38 y) (fun e st => K e (canon keep38 st)) =
    if go38 y = true then K .normal (Y38 (next38 y)) else if (fun (_ : X38) => false) y = true then K .ret (Y38 y) else K (.exit 0) (Y38 y) := by
  obtain ⟨hl, hi, hc⟩ := h
  refine (nf38 y.a0 y.a1 y.r0 y.r1 y.o0 y.o1 y.l y.i K).trans ?_
  have e16 : BitVec.ofInt 8 16 = 16#8 := rfl
  have z8 : (0 : BitVec 8) = 0#8 := rfl
  simp only [e16, z8, Int.toNat_natCast, hl]
  unfold go38
  by_cases h : y.i < 16
  · have h1 : (y.i : Int) < 16 := by omega
    have h2 : (0 : Int) ≤ (y.i : Int) := by omega
    have hw : IntKind.i64.wrap ((y.i : Int) + 1) = ((y.i + 1 : Nat) : Int) := by rw [wrap_i64 (by omega) (by omega)]; rfl
    simp only [h, h1, h2, decide_true, if_true, and_self, hw]
    by_cases h3 : y.l.getD y.i 0#8 < 16#8
    · simp only [h3, decide_true, if_true, next38, qk]
      rfl
    · have hq : qk y.a0 y.a1 (y.l.getD y.i 0#8) = getF y.o0 y.o1 8 y.i := by rw [clear_at hc h (Nat.le_refl _)]; simp only [qk, h3, if_false]
      have hs := set_get (w := 8) (by decide) (k := y.i) (by rw [show (128 : Int) / 8 = 16 from by decide]; exact h1) y.o0 y.o1
      have hn : next38 y = { y with i := y.i + 1 } := by simp only [next38, hq, hs]
      simp only [h3, decide_false, if_false, Bool.false_eq_true, hn]
      rfl
  · have h1 : ¬ (y.i : Int) < 16 := by omega
    simp only [h, h1, decide_false, Bool.false_eq_true, if_false]
    rfl
theorem inv38 (y : X38) (h : I38 y) (hg : go38 y = true) : I38 (next38 y) := by
  obtain ⟨hl, hi, hc⟩ := h
  have hg : y.i < 16 := of_decide_eq_true hg
  refine ⟨hl, by show y.i + 1 ≤ 16; omega, List.all_eq_true.2 fun k hk => ?_⟩
  have hk := List.mem_range.1 hk
  simp only [Bool.or_eq_true, decide_eq_true_eq, beq_iff_eq]
  rcases Nat.lt_or_ge k (y.i + 1) with h | h
  · exact .inl h
  · refine .inr ?_
    show getF (setF y.o0 y.o1 8 y.i _).1 (setF y.o0 y.o1 8 y.i _).2 8 k = 0#64
    rw [get_set (okI8 hg) (by exact hk) y.o0 y.o1 (qk_le _ _ _), if_neg (by omega)]
    exact clear_at hc hk (by omega)
theorem m38 (y : X38) (h : go38 y = true) : 16 - y.i = 16 - (next38 y).i + 1 := by
  have hg : y.i < 16 := of_decide_eq_true h
  show 16 - y.i = 16 - (y.i + 1) + 1
  omega
noncomputable abbrev sum38 : LoopF := sumG keep38 parse38 (fun _ => false) .ret (fun y => Y38 y) (.exit 0) (fun y => Y38 y) (fun y => iter (go38) (next38) ((fun y => 16 - y.i) y) y)
theorem sem38 : SemOK Tryd.prog G0 c38 sum38 := by
  refine SemOK.count (sp := tabOf [(41, getS), (43, setS)]) (ann := fun _ => []) (ls := fun _ => none) (TableOK.cons get41 (TableOK.cons set43 TableOK.nil)) mixed 50 LsOK.none Y38 _ _ (by simp [Ex.out]) _ _ (by simp [Ex.out]) _ keep38 parse38 (go38) (next38) I38 inv38 body38 (fun y => 16 - y.i) m38 ?_
  intro st y hx
  unfold parse38 at hx
  split at hx
  · rename_i t a0 a1 r0 r1 o0 o1
    split at hx
    · rename_i l i h2 h4 h5 h9 h10
      simp only [Option.some.injEq, Prod.mk.injEq, decide_eq_true_eq] at hx
      obtain ⟨⟨g1, g2⟩, rfl⟩ := hx
      refine ⟨g2, fun w0 L' a w hrel => ?_⟩
      exact Rel.pick hrel g1 fun x hx => by
        simp only [List.mem_cons, List.not_mem_nil, or_false] at hx
        rcases hx with rfl | rfl | rfl | rfl | rfl
        · exact h2
        · exact h4
        · exact h5
        · exact h9
        · exact h10
    · cases hx
  · cases hx
noncomputable def ls38 : Nat → Option LoopF := lsOf [(3, sum38)]
theorem loops38 : LsOK Tryd.prog G0 ls38 (Tryd.f38.body.getD .skip) := by
  refine LsOK.of (of_decide_eq_true (by kernel_rfl)) fun x hx => ?_
  simp only [List.mem_cons, List.not_mem_nil, or_false] at hx
  subst hx
  exact sem38
theorem run38 (k : Nat) : ∀ y : X38, (run next38 k y).i = y.i + k := by
  induction k with
  | zero => intro y; rfl
  | succ k ih => intro y; rw [run, ih (next38 y)]; show y.i + 1 + k = _; omega
theorem fin38 (y : X38) (h0 : y.i = 0) : iter go38 next38 (16 - y.i) y = run next38 16 y := by
  rw [h0]
  refine iter_run _ _ fun k hk => ?_
  simp only [go38, run38, h0, Nat.zero_add, decide_eq_true_eq]
  exact hk
def sq0 (a0 a1 : BitVec 64) (l : List (BitVec 8)) (k : Nat) : BitVec 8 := bt (qk a0 a1 (l.getD k 0#8)) 0
def sqLo (a0 a1 : BitVec 64) (l : List (BitVec 8)) : BitVec 64 := w8 (sq0 a0 a1 l 0) (sq0 a0 a1 l 1) (sq0 a0 a1 l 2) (sq0 a0 a1 l 3) (sq0 a0 a1 l 4) (sq0 a0 a1 l 5) (sq0 a0 a1 l 6) (sq0 a0 a1 l 7)
def sqHi (a0 a1 : BitVec 64) (l : List (BitVec 8)) : BitVec 64 := w8 (sq0 a0 a1 l 8) (sq0 a0 a1 l 9) (sq0 a0 a1 l 10) (sq0 a0 a1 l 11) (sq0 a0 a1 l 12) (sq0 a0 a1 l 13) (sq0 a0 a1 l 14) (sq0 a0 a1 l 15)
noncomputable def SwizS : Ev.Spec := joined fun
  | [.agg [.u64 a0, .u64 a1], .agg [.u64 b0, .u64 b1]] => some (vec (sqLo a0 a1 (bytesF b0 b1)) (sqHi a0 a1 (bytesF b0 b1)))
  | _ => none
theorem route_qk (a0 a1 : BitVec 64) (c0 c1 c2 c3 c4 c5 c6 c7 : BitVec 8) : put (put (put (put (put (put (put (put 0#64 (maskF 8) 0 (qk a0 a1 c0)) (maskF 8) 8 (qk a0 a1 c1)) (maskF 8) 16 (qk a0 a1 c2)) (maskF 8) 24 (qk a0 a1 c3)) (maskF 8) 32 (qk a0 a1 c4)) (maskF 8) 40 (qk a0 a1 c5)) (maskF 8) 48 (qk a0 a1 c6)) (maskF 8) 56 (qk a0 a1 c7) = w8 (bt (qk a0 a1 c0) 0) (bt (qk a0 a1 c1) 0) (bt (qk a0 a1 c2) 0) (bt (qk a0 a1 c3) 0) (bt (qk a0 a1 c4) 0) (bt (qk a0 a1 c5) 0) (bt (qk a0 a1 c6) 0) (bt (qk a0 a1 c7) 0) := by
  have := route8' (qk a0 a1 c0) (qk a0 a1 c1) (qk a0 a1 c2) (qk a0 a1 c3) (qk a0 a1 c4) (qk a0 a1 c5) (qk a0 a1 c6) (qk a0 a1 c7)
  simp only [← qk_fit] at this
  exact this
theorem res38 (a0 a1 r0 r1 : BitVec 64) (l : List (BitVec 8)) (hl : l.length = 16) : (run next38 16 ⟨a0, a1, r0, r1, 0#64, 0#64, l, 0⟩).o0 = sqLo a0 a1 l ∧ (run next38 16 ⟨a0, a1, r0, r1, 0#64, 0#64, l, 0⟩).o1 = sqHi a0 a1 l := by
  obtain ⟨c0, l0, rfl, h0⟩ := len_cons hl
  obtain ⟨c1, l1, rfl, h1⟩ := len_cons h0
  obtain ⟨c2, l2, rfl, h2⟩ := len_cons h1
  obtain ⟨c3, l3, rfl, h3⟩ := len_cons h2
  obtain ⟨c4, l4, rfl, h4⟩ := len_cons h3
  obtain ⟨c5, l5, rfl, h5⟩ := len_cons h4
  obtain ⟨c6, l6, rfl, h6⟩ := len_cons h5
  obtain ⟨c7, l7, rfl, h7⟩ := len_cons h6
  obtain ⟨c8, l8, rfl, h8⟩ := len_cons h7
  obtain ⟨c9, l9, rfl, h9⟩ := len_cons h8
  obtain ⟨c10, l10, rfl, h10⟩ := len_cons h9
  obtain ⟨c11, l11, rfl, h11⟩ := len_cons h10
  obtain ⟨c12, l12, rfl, h12⟩ := len_cons h11
  obtain ⟨c13, l13, rfl, h13⟩ := len_cons h12
  obtain ⟨c14, l14, rfl, h14⟩ := len_cons h13
  obtain ⟨c15, l15, rfl, h15⟩ := len_cons h14
  obtain rfl := len_nil h15
  have e0 : (run next38 16 ⟨a0, a1, r0, r1, 0#64, 0#64, [c0, c1, c2, c3, c4, c5, c6, c7, c8, c9, c10, c11, c12, c13, c14, c15], 0⟩).o0 = put (put (put (put (put (put (put (put 0#64 (maskF 8) 0 (qk a0 a1 c0)) (maskF 8) 8 (qk a0 a1 c1)) (maskF 8) 16 (qk a0 a1 c2)) (maskF 8) 24 (qk a0 a1 c3)) (maskF 8) 32 (qk a0 a1 c4)) (maskF 8) 40 (qk a0 a1 c5)) (maskF 8) 48 (qk a0 a1 c6)) (maskF 8) 56 (qk a0 a1 c7) := by kernel_rfl
  have e1 : (run next38 16 ⟨a0, a1, r0, r1, 0#64, 0#64, [c0, c1, c2, c3, c4, c5, c6, c7, c8, c9, c10, c11, c12, c13, c14, c15], 0⟩).o1 = put (put (put (put (put (put (put (put 0#64 (maskF 8) 0 (qk a0 a1 c8)) (maskF 8) 8 (qk a0 a1 c9)) (maskF 8) 16 (qk a0 a1 c10)) (maskF 8) 24 (qk a0 a1 c11)) (maskF 8) 32 (qk a0 a1 c12)) (maskF 8) 40 (qk a0 a1 c13)) (maskF 8) 48 (qk a0 a1 c14)) (maskF 8) 56 (qk a0 a1 c15) := by kernel_rfl
  exact ⟨e0.trans (route_qk _ _ _ _ _ _ _ _ _ _), e1.trans (route_qk _ _ _ _ _ _ _ _ _ _)⟩
theorem clear0 : clear 0#64 0#64 0 = true := by decide
theorem law38 (a0 a1 b0 b1 : BitVec 64) : execFnL Tryd.prog G0 (tabOf [(24, bytesS)]) (fun _ => []) ls38 Tryd.f38 50 [vec a0 a1, vec b0 b1] some =
  if decide (25 = 25 ∧ ((bytesF b0 b1).length = 16 ∧ 0 ≤ 16 ∧ clear 0#64 0#64 0 = true)) = true then some (vec (iter go38 next38 (16 - 0) ⟨a0, a1, 0#64, 0#64, 0#64, 0#64, bytesF b0 b1, 0⟩).o0 (iter go38 next38 (16 - 0) ⟨a0, a1, 0#64, 0#64, 0#64, 0#64, bytesF b0 b1, 0⟩).o1)
  else none := by kernel_rfl
theorem Swiz38 : Snd 38 SwizS := by
  refine Sound.join (execFnL_sound (ann := fun _ => []) (ls := ls38) (TableOK.cons bytes24 TableOK.nil) mixed Tryd.func38 (by kernel_rfl) 50 (fun c hc => by
    have e : c = Tryd.f38.body.getD .skip := by rw [hc]; rfl
    rw [e]; exact loops38)) fun ds d h => ?_
  split at h
  · rename_i a0 a1 b0 b1
    cases h
    refine (law38 a0 a1 b0 b1).trans ?_
    rw [if_pos (by simp [bytesF, clear0])]
    have e := fin38 ⟨a0, a1, 0#64, 0#64, 0#64, 0#64, bytesF b0 b1, 0⟩ rfl
    dsimp only at e
    obtain ⟨e0, e1⟩ := res38 a0 a1 0#64 0#64 (bytesF b0 b1) rfl
    rw [e, e0, e1]
  · cases h

/-! by the reference -/
def clearL (o : List (BitVec 8)) (i : Nat) : Bool := (List.range 16).all fun k => decide (k < i) || (o.getD k 0#8 == 0#8)
theorem clearL_at {o : List (BitVec 8)} {i k : Nat} (h : clearL o i = true) (hk : k < 16) (hi : i ≤ k) : o.getD k 0#8 = 0#8 := by
  have := List.all_eq_true.1 h k (List.mem_range.2 hk)
  simp only [Bool.or_eq_true, decide_eq_true_eq, beq_iff_eq] at this
  rcases this with h | h
  · omega
  · exact h
def val39 (x : List (BitVec 8)) (c : BitVec 8) : BitVec 8 := if c < 16#8 then x.getD c.toNat 0#8 else 0#8
noncomputable def c39 : Code := findLoop (loops (Tryd.f39.body.getD .skip)) 4
noncomputable abbrev keep39 : List Nat := [4, 5, 6, 7, 8]
noncomputable def S39 (r0 : BitVec 64) (r1 : BitVec 64) (x : List (BitVec 8)) (z : List (BitVec 8)) (o : List (BitVec 8)) (i : Int) : St := ⟨mkT 30 [(4, .ptr 0 0), (5, .ptr 1 0), (6, .ptr 2 0), (7, .ptr 3 0), (8, .i .i64 i)], [some ⟨.agg [.u64 r0, .u64 r1], true⟩, some ⟨.a8 x, true⟩, some ⟨.a8 z, true⟩, some ⟨.a8 o, true⟩]⟩
theorem nf39 (r0 : BitVec 64) (r1 : BitVec 64) (x : List (BitVec 8)) (z : List (BitVec 8)) (o : List (BitVec 8)) (i : Int) (K : Ex → St → Option D) : exec Tryd.prog G0 (tabOf []) (fun _ => []) (fun _ => none) 50 c39 (S39 r0 r1 x z o i) (fun e st => K e (canon keep39 st)) =
  if decide (i < 16) = true then if 0 ≤ i ∧ i < 16 then if 0 + i.toNat * 1 < (z).length then if decide (z.getD (0 + i.toNat * 1) 0 < BitVec.ofInt 8 16) = true then if 0 ≤ i ∧ i < 16 then if 0 + i.toNat * 1 < (z).length then if 0 ≤ (((z.getD (0 + i.toNat * 1) 0#8).toNat : Nat) : Int) ∧ (((z.getD (0 + i.toNat * 1) 0#8).toNat : Nat) : Int) < 16 then if 0 + ((((z.getD (0 + i.toNat * 1) 0#8).toNat : Nat) : Int)).toNat * 1 < (x).length then if 0 ≤ i ∧ i < 16 then if 0 + i.toNat * 1 < (o).length then K .normal ⟨mkT 30 [(4, .ptr 0 0), (5, .ptr 1 0), (6, .ptr 2 0), (7, .ptr 3 0), (8, .i .i64 (IntKind.i64.wrap (i + 1)))], [some ⟨.agg [.u64 r0, .u64 r1], true⟩, some ⟨.a8 x, true⟩, some ⟨.a8 z, true⟩, some ⟨.a8 (o.set (0 + i.toNat * 1) (x.getD (0 + ((((z.getD (0 + i.toNat * 1) 0#8).toNat : Nat) : Int)).toNat * 1) 0#8)), true⟩]⟩ else none else none else none else none else none else none else K .normal ⟨mkT 30 [(4, .ptr 0 0), (5, .ptr 1 0), (6, .ptr 2 0), (7, .ptr 3 0), (8, .i .i64 (IntKind.i64.wrap (i + 1)))], [some ⟨.agg [.u64 r0, .u64 r1], true⟩, some ⟨.a8 x, true⟩, some ⟨.a8 z, true⟩, some ⟨.a8 o, true⟩]⟩ else none else none else K (.exit 0) ⟨mkT 30 [(4, .ptr 0 0), (5, .ptr 1 0), (6, .ptr 2 0), (7, .ptr 3 0), (8, .i .i64 i)], [some ⟨.agg [.u64 r0, .u64 r1], true⟩, some ⟨.a8 x, true⟩, some ⟨.a8 z, true⟩, some ⟨.a8 o, true⟩]⟩  := by kernel_rfl
structure X39 where
  r0 : BitVec 64
  r1 : BitVec 64
  x : List (BitVec 8)
  z : List (BitVec 8)
  o : List (BitVec 8)
  i : Nat
noncomputable abbrev Y39 (y : X39) : St := S39 y.r0 y.r1 y.x y.z y.o y.i
noncomputable def parse39 (st : St) : Option (Bool × X39) := match st with
  | ⟨t, [some ⟨.agg [.u64 r0, .u64 r1], true⟩, some ⟨.a8 x, true⟩, some ⟨.a8 z, true⟩, some ⟨.a8 o, true⟩]⟩ =>
    match t.getD 4 .any, t.getD 5 .any, t.getD 6 .any, t.getD 7 .any, t.getD 8 .any with
    | .ptr 0 0, .ptr 1 0, .ptr 2 0, .ptr 3 0, .i .i64 (.ofNat i) => some (decide (t.length = 30 ∧ (x.length = 16 ∧ z.length = 16 ∧ o.length = 16 ∧ i ≤ 16 ∧ clearL o i = true)), ⟨r0, r1, x, z, o, i⟩)
    | _, _, _, _, _ => none
  | _ => none
def go39 (y : X39) : Bool := decide (y.i < 16)
def next39 (y : X39) : X39 := { y with o := y.o.set y.i (val39 y.x (y.z.getD y.i 0#8)), i := y.i + 1 }
def I39 (y : X39) : Prop := y.x.length = 16 ∧ y.z.length = 16 ∧ y.o.length = 16 ∧ y.i ≤ 16 ∧ clearL y.o y.i = true
theorem body39 (y : X39) (h : I39 y) (K : Ex → St → Option D) : exec Tryd.prog G0 (tabOf []) (fun _ => []) (fun _ => none) 50 c39 (Y39 y) (fun e st => K e (canon keep39 st)) =
    if go39 y = true then K .normal (Y39 (next39 y)) else if (fun (_ : X39) => false) y = true then K .ret (Y39 y) else K (.exit 0) (Y39 y) := by
  obtain ⟨hx, hz, ho, hi, hc⟩ := h
  refine (nf39 y.r0 y.r1 y.x y.z y.o y.i K).trans ?_
  have e16 : BitVec.ofInt 8 16 = 16#8 := rfl
  have z8 : (0 : BitVec 8) = 0#8 := rfl
  simp only [e16, z8, Int.toNat_natCast, hx, hz, ho, Nat.mul_one, Nat.zero_add]
  unfold go39
  by_cases h : y.i < 16
  · have h1 : (y.i : Int) < 16 := by omega
    have h2 : (0 : Int) ≤ (y.i : Int) := by omega
    have hw : IntKind.i64.wrap ((y.i : Int) + 1) = ((y.i + 1 : Nat) : Int) := by rw [wrap_i64 (by omega) (by omega)]; rfl
    simp only [h, h1, h2, decide_true, if_true, and_self, hw]
    by_cases h3 : y.z.getD y.i 0#8 < 16#8
    · have h5 := lt16_nat.1 h3
      have h6 : ((y.z.getD y.i 0#8).toNat : Int) < 16 := by omega
      have h7 : (0 : Int) ≤ ((y.z.getD y.i 0#8).toNat : Int) := by omega
      simp only [h3, h5, h6, h7, decide_true, if_true, and_self]
      simp only [next39, val39, h3, if_true]
      rfl
    · have hq : val39 y.x (y.z.getD y.i 0#8) = y.o[y.i]'(by omega) := by
        have := clearL_at hc h (Nat.le_refl _)
        rw [List.getD_eq_getElem?_getD, List.getElem?_eq_getElem (by omega : y.i < y.o.length)] at this
        simp only [Option.getD_some] at this
        rw [this]
        simp only [val39, h3, if_false]
      have hn : next39 y = { y with i := y.i + 1 } := by simp only [next39, hq, List.set_getElem_self]
      simp only [h3, decide_false, if_false, Bool.false_eq_true, hn]
      rfl
  · have h1 : ¬ (y.i : Int) < 16 := by omega
    simp only [h, h1, decide_false, Bool.false_eq_true, if_false]
    rfl
theorem inv39 (y : X39) (h : I39 y) (hg : go39 y = true) : I39 (next39 y) := by
  obtain ⟨hx, hz, ho, hi, hc⟩ := h
  have hg : y.i < 16 := of_decide_eq_true hg
  refine ⟨hx, hz, by simpa [next39] using ho, by show y.i + 1 ≤ 16; omega, List.all_eq_true.2 fun k hk => ?_⟩
  have hk := List.mem_range.1 hk
  simp only [Bool.or_eq_true, decide_eq_true_eq, beq_iff_eq]
  rcases Nat.lt_or_ge k (y.i + 1) with h | h
  · exact .inl h
  · refine .inr ?_
    show (y.o.set y.i _).getD k 0#8 = 0#8
    rw [List.getD_eq_getElem?_getD, List.getElem?_set, if_neg (by omega), ← List.getD_eq_getElem?_getD]
    exact clearL_at hc hk (by omega)
theorem m39 (y : X39) (h : go39 y = true) : 16 - y.i = 16 - (next39 y).i + 1 := by
  have hg : y.i < 16 := of_decide_eq_true h
  show 16 - y.i = 16 - (y.i + 1) + 1
  omega
noncomputable abbrev sum39 : LoopF := sumG keep39 parse39 (fun _ => false) .ret (fun y => Y39 y) (.exit 0) (fun y => Y39 y) (fun y => iter (go39) (next39) ((fun y => 16 - y.i) y) y)
theorem sem39 : SemOK Tryd.prog G0 c39 sum39 := by
  refine SemOK.count (sp := tabOf []) (ann := fun _ => []) (ls := fun _ => none) TableOK.nil mixed 50 LsOK.none Y39 _ _ (by simp [Ex.out]) _ _ (by simp [Ex.out]) _ keep39 parse39 (go39) (next39) I39 inv39 body39 (fun y => 16 - y.i) m39 ?_
  intro st y hx
  unfold parse39 at hx
  split at hx
  · rename_i t r0 r1 x z o
    split at hx
    · rename_i i h4 h5 h6 h7 h8
      simp only [Option.some.injEq, Prod.mk.injEq, decide_eq_true_eq] at hx
      obtain ⟨⟨g1, g2⟩, rfl⟩ := hx
      refine ⟨g2, fun w0 L' a w hrel => ?_⟩
      exact Rel.pick hrel g1 fun x hx => by
        simp only [List.mem_cons, List.not_mem_nil, or_false] at hx
        rcases hx with rfl | rfl | rfl | rfl | rfl
        · exact h4
        · exact h5
        · exact h6
        · exact h7
        · exact h8
    · cases hx
  · cases hx
noncomputable def ls39 : Nat → Option LoopF := lsOf [(4, sum39)]
theorem loops39 : LsOK Tryd.prog G0 ls39 (Tryd.f39.body.getD .skip) := by
  refine LsOK.of (of_decide_eq_true (by kernel_rfl)) fun x hx => ?_
  simp only [List.mem_cons, List.not_mem_nil, or_false] at hx
  subst hx
  exact sem39
theorem run39 (k : Nat) : ∀ y : X39, (run next39 k y).i = y.i + k := by
  induction k with
  | zero => intro y; rfl
  | succ k ih => intro y; rw [run, ih (next39 y)]; show y.i + 1 + k = _; omega
theorem fin39 (y : X39) (h0 : y.i = 0) : iter go39 next39 (16 - y.i) y = run next39 16 y := by
  rw [h0]
  refine iter_run _ _ fun k hk => ?_
  simp only [go39, run39, h0, Nat.zero_add, decide_eq_true_eq]
  exact hk
theorem val_qk (a0 a1 : BitVec 64) (c : BitVec 8) : val39 (bytesF a0 a1) c = bt (qk a0 a1 c) 0 := by
  have es : sOfU .i64 c = (c.toNat : Int) := by
    unfold sOfU
    rw [if_pos (by decide)]
  unfold val39 qk
  rw [es]
  by_cases h1 : c < 16#8
  · rw [if_pos h1, if_pos h1]
    exact bt_getF a0 a1 _ (lt16_nat.1 h1)
  · rw [if_neg h1, if_neg h1]; decide
theorem res39 (a0 a1 r0 r1 : BitVec 64) (l : List (BitVec 8)) : (run next39 16 ⟨r0, r1, bytesF a0 a1, l, [0#8, 0#8, 0#8, 0#8, 0#8, 0#8, 0#8, 0#8, 0#8, 0#8, 0#8, 0#8, 0#8, 0#8, 0#8, 0#8], 0⟩).o = [sq0 a0 a1 l 0, sq0 a0 a1 l 1, sq0 a0 a1 l 2, sq0 a0 a1 l 3, sq0 a0 a1 l 4, sq0 a0 a1 l 5, sq0 a0 a1 l 6, sq0 a0 a1 l 7, sq0 a0 a1 l 8, sq0 a0 a1 l 9, sq0 a0 a1 l 10, sq0 a0 a1 l 11, sq0 a0 a1 l 12, sq0 a0 a1 l 13, sq0 a0 a1 l 14, sq0 a0 a1 l 15] := by
  have e0 : (run next39 16 ⟨r0, r1, bytesF a0 a1, l, [0#8, 0#8, 0#8, 0#8, 0#8, 0#8, 0#8, 0#8, 0#8, 0#8, 0#8, 0#8, 0#8, 0#8, 0#8, 0#8], 0⟩).o = [val39 (bytesF a0 a1) (l.getD 0 0#8), val39 (bytesF a0 a1) (l.getD 1 0#8), val39 (bytesF a0 a1) (l.getD 2 0#8), val39 (bytesF a0 a1) (l.getD 3 0#8), val39 (bytesF a0 a1) (l.getD 4 0#8), val39 (bytesF a0 a1) (l.getD 5 0#8), val39 (bytesF a0 a1) (l.getD 6 0#8), val39 (bytesF a0 a1) (l.getD 7 0#8), val39 (bytesF a0 a1) (l.getD 8 0#8), val39 (bytesF a0 a1) (l.getD 9 0#8), val39 (bytesF a0 a1) (l.getD 10 0#8), val39 (bytesF a0 a1) (l.getD 11 0#8), val39 (bytesF a0 a1) (l.getD 12 0#8), val39 (bytesF a0 a1) (l.getD 13 0#8), val39 (bytesF a0 a1) (l.getD 14 0#8), val39 (bytesF a0 a1) (l.getD 15 0#8)] := by kernel_rfl
  rw [e0]
  simp only [val_qk]
  rfl
theorem clearL0 : clearL [0#8, 0#8, 0#8, 0#8, 0#8, 0#8, 0#8, 0#8, 0#8, 0#8, 0#8, 0#8, 0#8, 0#8, 0#8, 0#8] 0 = true := by decide
theorem law39 (a0 a1 b0 b1 : BitVec 64) : execFnL Tryd.prog G0 (tabOf [(25, bytesS), (27, ofBytesL)]) (fun _ => []) ls39 Tryd.f39 50 [vec a0 a1, vec b0 b1] some =
  if decide (30 = 30 ∧ ((bytesF a0 a1).length = 16 ∧ (bytesF b0 b1).length = 16 ∧ ([0#8, 0#8, 0#8, 0#8, 0#8, 0#8, 0#8, 0#8, 0#8, 0#8, 0#8, 0#8, 0#8, 0#8, 0#8, 0#8] : List (BitVec 8)).length = 16 ∧ 0 ≤ 16 ∧ clearL [0#8, 0#8, 0#8, 0#8, 0#8, 0#8, 0#8, 0#8, 0#8, 0#8, 0#8, 0#8, 0#8, 0#8, 0#8, 0#8] 0 = true)) = true then
    if (iter go39 next39 (16 - 0) ⟨0#64, 0#64, bytesF a0 a1, bytesF b0 b1, [0#8, 0#8, 0#8, 0#8, 0#8, 0#8, 0#8, 0#8, 0#8, 0#8, 0#8, 0#8, 0#8, 0#8, 0#8, 0#8], 0⟩).o.length = 16 then if decide ((iter go39 next39 (16 - 0) ⟨0#64, 0#64, bytesF a0 a1, bytesF b0 b1, [0#8, 0#8, 0#8, 0#8, 0#8, 0#8, 0#8, 0#8, 0#8, 0#8, 0#8, 0#8, 0#8, 0#8, 0#8, 0#8], 0⟩).o.length = 16) = true then some (vec (w8 ((iter go39 next39 (16 - 0) ⟨0#64, 0#64, bytesF a0 a1, bytesF b0 b1, [0#8, 0#8, 0#8, 0#8, 0#8, 0#8, 0#8, 0#8, 0#8, 0#8, 0#8, 0#8, 0#8, 0#8, 0#8, 0#8], 0⟩).o.getD 0 0#8) ((iter go39 next39 (16 - 0) ⟨0#64, 0#64, bytesF a0 a1, bytesF b0 b1, [0#8, 0#8, 0#8, 0#8, 0#8, 0#8, 0#8, 0#8, 0#8, 0#8, 0#8, 0#8, 0#8, 0#8, 0#8, 0#8], 0⟩).o.getD 1 0#8) ((iter go39 next39 (16 - 0) ⟨0#64, 0#64, bytesF a0 a1, bytesF b0 b1, [0#8, 0#8, 0#8, 0#8, 0#8, 0#8, 0#8, 0#8, 0#8, 0#8, 0#8, 0#8, 0#8, 0#8, 0#8, 0#8], 0⟩).o.getD 2 0#8) ((iter go39 next39 (16 - 0) ⟨0#64, 0#64, bytesF a0 a1, bytesF b0 b1, [0#8, 0#8, 0#8, 0#8, 0#8, 0#8, 0#8, 0#8, 0#8, 0#8, 0#8, 0#8, 0#8, 0#8, 0#8, 0#8], 0⟩).o.getD 3 0#8) ((iter go39 next39 (16 - 0) ⟨0#64, 0#64, bytesF a0 a1, bytesF b0 b1, [0#8, 0#8, 0#8, 0#8, 0#8, 0#8, 0#8, 0#8, 0#8, 0#8, 0#8, 0#8, 0#8, 0#8, 0#8, 0#8], 0⟩).o.getD 4 0#8) ((iter go39 next39 (16 - 0) ⟨0#64, 0#64, bytesF a0 a1, bytesF b0 b1, [0#8, 0#8, 0#8, 0#8, 0#8, 0#8, 0#8, 0#8, 0#8, 0#8, 0#8, 0#8, 0#8, 0#8, 0#8, 0#8], 0⟩).o.getD 5 0#8) ((iter go39 next39 (16 - 0) ⟨0#64, 0#64, bytesF a0 a1, bytesF b0 b1, [0#8, 0#8, 0#8, 0#8, 0#8, 0#8, 0#8, 0#8, 0#8, 0#8, 0#8, 0#8, 0#8, 0#8, 0#8, 0#8], 0⟩).o.getD 6 0#8) ((iter go39 next39 (16 - 0) ⟨0#64, 0#64, bytesF a0 a1, bytesF b0 b1, [0#8, 0#8, 0#8, 0#8, 0#8, 0#8, 0#8, 0#8, 0#8, 0#8, 0#8, 0#8, 0#8, 0#8, 0#8, 0#8], 0⟩).o.getD 7 0#8)) (w8 ((iter go39 next39 (16 - 0) ⟨0#64, 0#64, bytesF a0 a1, bytesF b0 b1, [0#8, 0#8, 0#8, 0#8, 0#8, 0#8, 0#8, 0#8, 0#8, 0#8, 0#8, 0#8, 0#8, 0#8, 0#8, 0#8], 0⟩).o.getD 8 0#8) ((iter go39 next39 (16 - 0) ⟨0#64, 0#64, bytesF a0 a1, bytesF b0 b1, [0#8, 0#8, 0#8, 0#8, 0#8, 0#8, 0#8, 0#8, 0#8, 0#8, 0#8, 0#8, 0#8, 0#8, 0#8, 0#8], 0⟩).o.getD 9 0#8) ((iter go39 next39 (16 - 0) ⟨0#64, 0#64, bytesF a0 a1, bytesF b0 b1, [0#8, 0#8, 0#8, 0#8, 0#8, 0#8, 0#8, 0#8, 0#8, 0#8, 0#8, 0#8, 0#8, 0#8, 0#8, 0#8], 0⟩).o.getD 10 0#8) ((iter go39 next39 (16 - 0) ⟨0#64, 0#64, bytesF a0 a1, bytesF b0 b1, [0#8, 0#8, 0#8, 0#8, 0#8, 0#8, 0#8, 0#8, 0#8, 0#8, 0#8, 0#8, 0#8, 0#8, 0#8, 0#8], 0⟩).o.getD 11 0#8) ((iter go39 next39 (16 - 0) ⟨0#64, 0#64, bytesF a0 a1, bytesF b0 b1, [0#8, 0#8, 0#8, 0#8, 0#8, 0#8, 0#8, 0#8, 0#8, 0#8, 0#8, 0#8, 0#8, 0#8, 0#8, 0#8], 0⟩).o.getD 12 0#8) ((iter go39 next39 (16 - 0) ⟨0#64, 0#64, bytesF a0 a1, bytesF b0 b1, [0#8, 0#8, 0#8, 0#8, 0#8, 0#8, 0#8, 0#8, 0#8, 0#8, 0#8, 0#8, 0#8, 0#8, 0#8, 0#8], 0⟩).o.getD 13 0#8) ((iter go39 next39 (16 - 0) ⟨0#64, 0#64, bytesF a0 a1, bytesF b0 b1, [0#8, 0#8, 0#8, 0#8, 0#8, 0#8, 0#8, 0#8, 0#8, 0#8, 0#8, 0#8, 0#8, 0#8, 0#8, 0#8], 0⟩).o.getD 14 0#8) ((iter go39 next39 (16 - 0) ⟨0#64, 0#64, bytesF a0 a1, bytesF b0 b1, [0#8, 0#8, 0#8, 0#8, 0#8, 0#8, 0#8, 0#8, 0#8, 0#8, 0#8, 0#8, 0#8, 0#8, 0#8, 0#8], 0⟩).o.getD 15 0#8))) else none else none
  else none := by kernel_rfl
theorem Swiz39 : Snd 39 SwizS := by
  refine Sound.join (execFnL_sound (ann := fun _ => []) (ls := ls39) (TableOK.cons bytes25 (TableOK.cons ofBytesL27 TableOK.nil)) mixed Tryd.func39 (by kernel_rfl) 50 (fun c hc => by
    have e : c = Tryd.f39.body.getD .skip := by rw [hc]; rfl
    rw [e]; exact loops39)) fun ds d h => ?_
  split at h
  · rename_i a0 a1 b0 b1
    cases h
    refine (law39 a0 a1 b0 b1).trans ?_
    rw [if_pos (by simp [bytesF, clearL0])]
    have e := fin39 ⟨0#64, 0#64, bytesF a0 a1, bytesF b0 b1, [0#8, 0#8, 0#8, 0#8, 0#8, 0#8, 0#8, 0#8, 0#8, 0#8, 0#8, 0#8, 0#8, 0#8, 0#8, 0#8], 0⟩ rfl
    dsimp only at e
    have e0 := res39 a0 a1 0#64 0#64 (bytesF b0 b1)
    rw [e, e0]
    rfl
  · cases h
end Go.L06
