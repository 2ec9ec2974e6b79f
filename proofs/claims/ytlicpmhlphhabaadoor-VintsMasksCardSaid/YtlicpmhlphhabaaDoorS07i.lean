/-
  Part of the proof; what its functions and lemmas say stands in the text.
-/
import Derived.Test.YtlicpmhlphhabaaDoorWhC
import Derived.Test.YtlicpmhlphhabaaDoorS07B
set_option linter.unusedSimpArgs false
set_option linter.unusedVariables false
/-!
Whole numbers: the reference's loops.
-/
namespace Go.L07
open Go.Ev Go.Proofs Go.RowKit Go.Wh

noncomputable def cb39 : Code := findLoop (loops (Tryd.f78.body.getD .skip)) 3
noncomputable abbrev keepb39 : List Nat := [0, 1, 2, 3, 9, 10]
noncomputable def Sb39 (o : BitVec 8) (w : Int) (a : BitVec 64) (b : BitVec 64) (q : BitVec 64) (i : Int) : St := ⟨mkT 56 [(0, .u8 o), (1, .i .i64 w), (2, .u64 a), (3, .u64 b), (9, .u64 q), (10, .i .i64 i)], []⟩
theorem nfb39 (o : BitVec 8) (w : Int) (a : BitVec 64) (b : BitVec 64) (q : BitVec 64) (i : Int) (K : Ex → St → Option D) : exec Tryd.prog G0 (tabOf []) (fun _ => []) (fun _ => none) 50 cb39 (Sb39 o w a b q i) (fun e st => K e (canon keepb39 st)) =
  if decide (i < w) = true then if (o == 8#8) = true then if ((a >>> (BitVec.ofInt 64 i).toNat &&& 1#64) + (b >>> (BitVec.ofInt 64 i).toNat &&& 1#64) == 2#64) = false then if (o == 9#8) = true then if decide (BitVec.ofInt 64 0 < (a >>> (BitVec.ofInt 64 i).toNat &&& BitVec.ofInt 64 1) + (b >>> (BitVec.ofInt 64 i).toNat &&& BitVec.ofInt 64 1)) = false then if (o == 10#8) = true then if ((a >>> (BitVec.ofInt 64 i).toNat &&& 1#64) + (b >>> (BitVec.ofInt 64 i).toNat &&& 1#64) == 1#64) = true then K .normal ⟨mkT 56 [(0, .u8 o), (1, .i .i64 w), (2, .u64 a), (3, .u64 b), (9, .u64 (q ||| 1#64 <<< (BitVec.ofInt 64 i).toNat)), (10, .i .i64 (IntKind.i64.wrap (i + 1)))], []⟩ else K .normal ⟨mkT 56 [(0, .u8 o), (1, .i .i64 w), (2, .u64 a), (3, .u64 b), (9, .u64 q), (10, .i .i64 (IntKind.i64.wrap (i + 1)))], []⟩ else K .normal ⟨mkT 56 [(0, .u8 o), (1, .i .i64 w), (2, .u64 a), (3, .u64 b), (9, .u64 q), (10, .i .i64 (IntKind.i64.wrap (i + 1)))], []⟩ else K .normal ⟨mkT 56 [(0, .u8 o), (1, .i .i64 w), (2, .u64 a), (3, .u64 b), (9, .u64 (q ||| 1#64 <<< (BitVec.ofInt 64 i).toNat)), (10, .i .i64 (IntKind.i64.wrap (i + 1)))], []⟩ else if (o == 10#8) = true then if ((a >>> (BitVec.ofInt 64 i).toNat &&& 1#64) + (b >>> (BitVec.ofInt 64 i).toNat &&& 1#64) == 1#64) = true then K .normal ⟨mkT 56 [(0, .u8 o), (1, .i .i64 w), (2, .u64 a), (3, .u64 b), (9, .u64 (q ||| 1#64 <<< (BitVec.ofInt 64 i).toNat)), (10, .i .i64 (IntKind.i64.wrap (i + 1)))], []⟩ else K .normal ⟨mkT 56 [(0, .u8 o), (1, .i .i64 w), (2, .u64 a), (3, .u64 b), (9, .u64 q), (10, .i .i64 (IntKind.i64.wrap (i + 1)))], []⟩ else K .normal ⟨mkT 56 [(0, .u8 o), (1, .i .i64 w), (2, .u64 a), (3, .u64 b), (9, .u64 q), (10, .i .i64 (IntKind.i64.wrap (i + 1)))], []⟩ else K .normal ⟨mkT 56 [(0, .u8 o), (1, .i .i64 w), (2, .u64 a), (3, .u64 b), (9, .u64 (q ||| 1#64 <<< (BitVec.ofInt 64 i).toNat)), (10, .i .i64 (IntKind.i64.wrap (i + 1)))], []⟩ else if (o == 9#8) = true then if decide (BitVec.ofInt 64 0 < (a >>> (BitVec.ofInt 64 i).toNat &&& BitVec.ofInt 64 1) + (b >>> (BitVec.ofInt 64 i).toNat &&& BitVec.ofInt 64 1)) = false then if (o == 10#8) = true then if ((a >>> (BitVec.ofInt 64 i).toNat &&& 1#64) + (b >>> (BitVec.ofInt 64 i).toNat &&& 1#64) == 1#64) = true then K .normal ⟨mkT 56 [(0, .u8 o), (1, .i .i64 w), (2, .u64 a), (3, .u64 b), (9, .u64 (q ||| 1#64 <<< (BitVec.ofInt 64 i).toNat)), (10, .i .i64 (IntKind.i64.wrap (i + 1)))], []⟩ else K .normal ⟨mkT 56 [(0, .u8 o), (1, .i .i64 w), (2, .u64 a), (3, .u64 b), (9, .u64 q), (10, .i .i64 (IntKind.i64.wrap (i + 1)))], []⟩ else K .normal ⟨mkT 56 [(0, .u8 o), (1, .i .i64 w), (2, .u64 a), (3, .u64 b), (9, .u64 q), (10, .i .i64 (IntKind.i64.wrap (i + 1)))], []⟩ else K .normal ⟨mkT 56 [(0, .u8 o), (1, .i .i64 w), (2, .u64 a), (3, .u64 b), (9, .u64 (q ||| 1#64 <<< (BitVec.ofInt 64 i).toNat)), (10, .i .i64 (IntKind.i64.wrap (i + 1)))], []⟩ else if (o == 10#8) = true then if ((a >>> (BitVec.ofInt 64 i).toNat &&& 1#64) + (b >>> (BitVec.ofInt 64 i).toNat &&& 1#64) == 1#64) = true then K .normal ⟨mkT 56 [(0, .u8 o), (1, .i .i64 w), (2, .u64 a), (3, .u64 b), (9, .u64 (q ||| 1#64 <<< (BitVec.ofInt 64 i).toNat)), (10, .i .i64 (IntKind.i64.wrap (i + 1)))], []⟩ else K .normal ⟨mkT 56 [(0, .u8 o), (1, .i .i64 w), (2, .u64 a), (3, .u64 b), (9, .u64 q), (10, .i .i64 (IntKind.i64.wrap (i + 1)))], []⟩ else K .normal ⟨mkT 56 [(0, .u8 o), (1, .i .i64 w), (2, .u64 a), (3, .u64 b), (9, .u64 q), (10, .i .i64 (IntKind.i64.wrap (i + 1)))], []⟩ else K (.exit 0) ⟨mkT 56 [(0, .u8 o), (1, .i .i64 w), (2, .u64 a), (3, .u64 b), (9, .u64 q), (10, .i .i64 i)], []⟩  := by kernel_rfl
structure Xb39 where
  o : BitVec 8
  w : Int
  a : BitVec 64
  b : BitVec 64
  q : BitVec 64
  i : Nat
noncomputable abbrev Yb39 (y : Xb39) : St := Sb39 y.o y.w y.a y.b y.q y.i
noncomputable def parseb39 (st : St) : Option (Bool × Xb39) := match st with
  | ⟨t, []⟩ =>
    match t.getD 0 .any, t.getD 1 .any, t.getD 2 .any, t.getD 3 .any, t.getD 9 .any, t.getD 10 .any with
    | .u8 o, .i .i64 w, .u64 a, .u64 b, .u64 q, .i .i64 (.ofNat i) => some (decide (t.length = 56 ∧ (okW w = true ∧ i ≤ w.toNat)), ⟨o, w, a, b, q, i⟩)
    | _, _, _, _, _, _ => none
  | _ => none
def gob39 (y : Xb39) : Bool := decide (y.i < y.w.toNat)
def bitAt (y : Xb39) : Bool := bitB y.o (y.a.getLsbD y.i) (y.b.getLsbD y.i)
def nextb39 (y : Xb39) : Xb39 := { y with q := y.q ||| (if bitAt y = true then 1#64 else 0#64) <<< y.i, i := y.i + 1 }
def Ib39 (y : Xb39) : Prop := okW y.w = true ∧ y.i ≤ y.w.toNat
theorem two_bits (x y : Bool) : ((if x = true then 1#64 else 0#64) + (if y = true then 1#64 else 0#64) == 2#64) = (x && y) ∧ (decide (BitVec.ofInt 64 0 < (if x = true then 1#64 else 0#64) + (if y = true then 1#64 else 0#64))) = (x || y) ∧ ((if x = true then 1#64 else 0#64) + (if y = true then 1#64 else 0#64) == 1#64) = (x != y) := by
  cases x <;> cases y <;> decide
theorem bodyb39 (y : Xb39) (h : Ib39 y) (K : Ex → St → Option D) : exec Tryd.prog G0 (tabOf []) (fun _ => []) (fun _ => none) 50 cb39 (Yb39 y) (fun e st => K e (canon keepb39 st)) =
    if gob39 y = true then K .normal (Yb39 (nextb39 y)) else if (fun (_ : Xb39) => false) y = true then K .ret (Yb39 y) else K (.exit 0) (Yb39 y) := by
  obtain ⟨hw, hi⟩ := h
  obtain ⟨g1, g2⟩ := okW_rng hw
  refine (nfb39 y.o y.w y.a y.b y.q y.i K).trans ?_
  have ei : (BitVec.ofInt 64 (y.i : Int)).toNat = y.i := ofInt_nat64 (by omega)
  have e1 : BitVec.ofInt 64 1 = 1#64 := rfl
  obtain ⟨t1, t2, t3⟩ := two_bits (y.a.getLsbD y.i) (y.b.getLsbD y.i)
  simp only [e1, ei, bit_and, t1, t2, t3]
  unfold gob39
  by_cases h : y.i < y.w.toNat
  · have h1 : (y.i : Int) < y.w := by omega
    have hwr : IntKind.i64.wrap ((y.i : Int) + 1) = ((y.i + 1 : Nat) : Int) := by rw [wrap_in (by omega) (by omega)]; rfl
    simp only [h, h1, decide_true, if_true, hwr]
    have yes : bitAt y = true → Yb39 (nextb39 y) = Sb39 y.o y.w y.a y.b (y.q ||| 1#64 <<< y.i) ((y.i + 1 : Nat) : Int) := fun hb => by simp only [nextb39, hb, if_true]
    have no : bitAt y = false → Yb39 (nextb39 y) = Sb39 y.o y.w y.a y.b y.q ((y.i + 1 : Nat) : Int) := fun hb => by
      have e : (if false = true then 1#64 else 0#64) <<< y.i = 0#64 := by simp
      simp only [nextb39, hb]
      rw [e, BitVec.or_zero]
    have hd : bitAt y = bitB y.o (y.a.getLsbD y.i) (y.b.getLsbD y.i) := rfl
    unfold bitB at hd
    revert yes no hd
    generalize y.a.getLsbD y.i = A
    generalize y.b.getLsbD y.i = B
    generalize bitAt y = b
    intro yes no hd
    have z0 : ∀ x y : Bool, x = y → (x == y) = true := by decide
    by_cases o8 : y.o = 8#8
    · have q8 : (y.o == 8#8) = true := by simp [o8]
      have q9 : (y.o == 9#8) = false := by simp [o8]
      have q10 : (y.o == 10#8) = false := by simp [o8]
      rw [q8, if_pos rfl] at hd
      simp only [q8, q9, q10, if_true, Bool.false_eq_true, if_false]
      cases A <;> cases B <;> (simp at hd; subst hd) <;> first | exact congrArg (K .normal) (yes rfl).symm | exact congrArg (K .normal) (no rfl).symm
    · have q8 : (y.o == 8#8) = false := by simpa using o8
      by_cases o9 : y.o = 9#8
      · have q9 : (y.o == 9#8) = true := by simp [o9]
        have q10 : (y.o == 10#8) = false := by simp [o9]
        rw [q8, if_neg (by simp), q9, if_pos rfl] at hd
        simp only [q8, q9, q10, if_true, Bool.false_eq_true, if_false]
        cases A <;> cases B <;> (simp at hd; subst hd) <;> first | exact congrArg (K .normal) (yes rfl).symm | exact congrArg (K .normal) (no rfl).symm
      · have q9 : (y.o == 9#8) = false := by simpa using o9
        by_cases o10 : y.o = 10#8
        · have q10 : (y.o == 10#8) = true := by simp [o10]
          rw [q8, if_neg (by simp), q9, if_neg (by simp), q10, if_pos rfl] at hd
          simp only [q8, q9, q10, if_true, Bool.false_eq_true, if_false]
          cases A <;> cases B <;> (simp at hd; subst hd) <;> first | exact congrArg (K .normal) (yes rfl).symm | exact congrArg (K .normal) (no rfl).symm
        · have q10 : (y.o == 10#8) = false := by simpa using o10
          rw [q8, if_neg (by simp), q9, if_neg (by simp), q10, if_neg (by simp)] at hd
          simp only [q8, q9, q10, Bool.false_eq_true, if_false]
          subst hd
          exact congrArg (K .normal) (no rfl).symm
  · have h1 : ¬ (y.i : Int) < y.w := by omega
    simp only [h, h1, decide_false, Bool.false_eq_true, if_false]
    rfl
theorem invb39 (y : Xb39) (h : Ib39 y) (hg : gob39 y = true) : Ib39 (nextb39 y) := ⟨h.1, by have := of_decide_eq_true hg; show y.i + 1 ≤ y.w.toNat; omega⟩
theorem mb39 (y : Xb39) (h : gob39 y = true) : y.w.toNat - y.i = (nextb39 y).w.toNat - (nextb39 y).i + 1 := by
  have hg := of_decide_eq_true h
  show y.w.toNat - y.i = y.w.toNat - (y.i + 1) + 1
  omega
noncomputable abbrev sumb39 : LoopF := sumG keepb39 parseb39 (fun _ => false) .ret (fun y => Yb39 y) (.exit 0) (fun y => Yb39 y) (fun y => iter (gob39) (nextb39) ((fun y => y.w.toNat - y.i) y) y)
theorem semb39 : SemOK Tryd.prog G0 cb39 sumb39 := by
  refine SemOK.count (sp := tabOf []) (ann := fun _ => []) (ls := fun _ => none) TableOK.nil mixed 50 LsOK.none Yb39 _ _ (by simp [Ex.out]) _ _ (by simp [Ex.out]) _ keepb39 parseb39 (gob39) (nextb39) Ib39 invb39 bodyb39 (fun y => y.w.toNat - y.i) mb39 ?_
  intro st y hx
  unfold parseb39 at hx
  split at hx
  · rename_i t 
    split at hx
    · rename_i o w a b q i h0 h1 h2 h3 h9 h10
      simp only [Option.some.injEq, Prod.mk.injEq, decide_eq_true_eq] at hx
      obtain ⟨⟨g1, g2⟩, rfl⟩ := hx
      refine ⟨g2, fun w0 L' a w hrel => ?_⟩
      exact Rel.pick hrel g1 fun x hx => by
        simp only [List.mem_cons, List.not_mem_nil, or_false] at hx
        rcases hx with rfl | rfl | rfl | rfl | rfl | rfl
        · exact h0
        · exact h1
        · exact h2
        · exact h3
        · exact h9
        · exact h10
    · cases hx
  · cases hx
noncomputable def lsb39 : Nat → Option LoopF := lsOf [(3, sumb39)]
theorem loopsb39 : LsOK Tryd.prog G0 lsb39 (Tryd.f78.body.getD .skip) := by
  refine LsOK.of (of_decide_eq_true (by kernel_rfl)) fun x hx => ?_
  simp only [List.mem_cons, List.not_mem_nil, or_false] at hx
  subst hx
  exact semb39
def Jb39 (s y : Xb39) : Prop := y.o = s.o ∧ y.w = s.w ∧ y.a = s.a ∧ y.b = s.b ∧ y.i ≤ s.w.toNat ∧ ∀ j, j < 64 → y.q.getLsbD j = (decide (j < y.i) && bitB s.o (s.a.getLsbD j) (s.b.getLsbD j))
theorem finb39 (s : Xb39) (hw : okW s.w = true) (hq : s.q = 0#64) (hi : s.i = 0) (ha : fitF s.w s.a = true) (hb : fitF s.w s.b = true) : (iter gob39 nextb39 (s.w.toNat - s.i) s).q = bitsV s.o s.a s.b := by
  obtain ⟨g1, g2⟩ := okW_rng hw
  have hJ := iter_inv (go := gob39) (next := nextb39) (J := Jb39 s) (fun y ⟨h1, h2, h3, h4, h5, h6⟩ hg => by
    have hg := of_decide_eq_true hg
    rw [h2] at hg
    refine ⟨h1, h2, h3, h4, by show y.i + 1 ≤ _; omega, fun j hj => ?_⟩
    show (y.q ||| (if bitAt y = true then 1#64 else 0#64) <<< y.i).getLsbD j = (decide (j < y.i + 1) && _)
    rw [or_bit _ _ _ _ (by omega) hj, h6 j hj]
    rcases Nat.lt_trichotomy j y.i with h | h | h
    · have e1 : decide (j < y.i) = true := decide_eq_true h
      have e2 : decide (j = y.i) = false := decide_eq_false (by omega)
      have e3 : decide (j < y.i + 1) = true := decide_eq_true (by omega)
      rw [e1, e2, e3]; simp
    · have e1 : decide (j < y.i) = false := decide_eq_false (by omega)
      have e2 : decide (j = y.i) = true := decide_eq_true h
      have e3 : decide (j < y.i + 1) = true := decide_eq_true (by omega)
      rw [e1, e2, e3, bitAt, h1, h3, h4, ← h]; simp
    · have e1 : decide (j < y.i) = false := decide_eq_false (by omega)
      have e2 : decide (j = y.i) = false := decide_eq_false (by omega)
      have e3 : decide (j < y.i + 1) = false := decide_eq_false (by omega)
      rw [e1, e2, e3]; simp) (s.w.toNat - s.i) s ⟨rfl, rfl, rfl, rfl, by omega, fun j hj => by rw [hq, hi]; simp⟩
  have hs := iter_stop (go := gob39) (next := nextb39) (m := fun y => y.w.toNat - y.i) mb39 _ s rfl
  revert hJ hs
  generalize iter gob39 nextb39 (s.w.toNat - s.i) s = z
  intro ⟨h1, h2, h3, h4, h5, h6⟩ hs
  have hz : z.i = s.w.toNat := by
    have := of_decide_eq_false hs
    rw [h2] at this
    omega
  refine bits_of fun j hj => ?_
  rw [h6 j hj, bitsV_bit, hz]
  by_cases hjw : j < s.w.toNat
  · rw [decide_eq_true hjw, Bool.true_and]
  · rw [decide_eq_false hjw, Bool.false_and, bitsV_fit ha hb (by omega)]
noncomputable def bitsS : Ev.Spec := guarded fun | [.u8 o, .i .i64 w, .u64 a, .u64 b] => some (fitF w a && fitF w b, .u64 (bitsV o a b)) | _ => none
theorem lawb39 (o : BitVec 8) (w : Int) (a b : BitVec 64) : execFnL Tryd.prog G0 (tabOf []) (fun _ => []) lsb39 Tryd.f78 50 [.u8 o, .i .i64 w, .u64 a, .u64 b] some =
  if decide (56 = 56 ∧ (okW w = true ∧ 0 ≤ w.toNat)) = true then some (.u64 (iter gob39 nextb39 (w.toNat - 0) ⟨o, w, a, b, 0#64, 0⟩).q) else none := by kernel_rfl
theorem t_rbits : Snd 78 bitsS := by
  refine Sound.guard (execFnL_sound (ann := fun _ => []) (ls := lsb39) TableOK.nil mixed Tryd.func78 (by kernel_rfl) 50 (fun c hc => by
    have e : c = Tryd.f78.body.getD .skip := by rw [hc]; rfl
    rw [e]; exact loopsb39)) fun ds d h => ?_
  split at h
  · rename_i o w a b
    simp only [Option.some.injEq, Prod.mk.injEq, Bool.and_eq_true] at h
    obtain ⟨⟨h1, h2⟩, rfl⟩ := h
    have hw := (fitF_nat h1).1
    refine (lawb39 o w a b).trans ?_
    rw [if_pos (by simp [hw])]
    exact congrArg (fun x => some (D.u64 x)) (finb39 ⟨o, w, a, b, 0#64, 0⟩ hw rfl rfl h1 h2)
  · cases h
end Go.L07
