/-
  Part of the proof; what its functions and lemmas say stands in the text.
-/
import Derived.Test.YtlicpmhlphhabaaDoorS07i
set_option linter.unusedSimpArgs false
set_option linter.unusedVariables false
/-!
Whole numbers: the reference's moves.
-/
namespace Go.L07
open Go.Ev Go.Proofs Go.RowKit Go.Wh

def movBit (o : BitVec 8) (w n : Int) (a : BitVec 64) (i : Nat) : BitVec 64 := if movB o w n i a = true then 1#64 else 0#64
theorem movBit_if (o : BitVec 8) (w n : Int) (a : BitVec 64) (i : Nat) {f : Int} (hf : fromI o w n i = f) (h64 : w ≤ 64) : (if 0 ≤ f ∧ f < w then a >>> (BitVec.ofInt 64 f).toNat &&& 1#64 else 0#64) = movBit o w n a i := by
  unfold movBit
  by_cases h : 0 ≤ f ∧ f < w
  · rw [if_pos h, movB_of hf h, ofInt_toNat h.1 (by omega), bit_and]
  · rw [if_neg h, movB_no hf h]; rfl
theorem if_K {c : Prop} [Decidable c] {x y : BitVec 64} (k : BitVec 64 → Option D) : (if c then k x else k y) = k (if c then x else y) := by split <;> rfl
noncomputable def cm11 : Code := findLoop (loops (Tryd.f79.body.getD .skip)) 4
noncomputable abbrev keepm11 : List Nat := [0, 1, 2, 9, 10, 11]
noncomputable def Sm11 (w : Int) (a : BitVec 64) (n : Int) (q : BitVec 64) (i : Int) : St := ⟨mkT 78 [(0, .u8 11#8), (1, .i .i64 w), (2, .u64 a), (9, .i .i64 n), (10, .u64 q), (11, .i .i64 i)], []⟩
theorem nfm11 (w : Int) (a : BitVec 64) (n : Int) (q : BitVec 64) (i : Int) (K : Ex → St → Option D) : exec Tryd.prog G0 (tabOf []) (fun _ => []) (fun _ => none) 50 cm11 (Sm11 w a n q i) (fun e st => K e (canon keepm11 st)) =
  if decide (i < w) = true then if decide (w ≤ IntKind.i64.wrap (i - n)) = true then if decide (0 ≤ IntKind.i64.wrap (i - n)) = true then if decide (IntKind.i64.wrap (i - n) < w) = true then K .normal ⟨mkT 78 [(0, .u8 11#8), (1, .i .i64 w), (2, .u64 a), (9, .i .i64 n), (10, .u64 (q ||| (a >>> (BitVec.ofInt 64 (IntKind.i64.wrap (i - n))).toNat &&& 1#64) <<< (BitVec.ofInt 64 i).toNat)), (11, .i .i64 (IntKind.i64.wrap (i + 1)))], []⟩ else K .normal ⟨mkT 78 [(0, .u8 11#8), (1, .i .i64 w), (2, .u64 a), (9, .i .i64 n), (10, .u64 (q ||| 0#64 <<< (BitVec.ofInt 64 i).toNat)), (11, .i .i64 (IntKind.i64.wrap (i + 1)))], []⟩ else K .normal ⟨mkT 78 [(0, .u8 11#8), (1, .i .i64 w), (2, .u64 a), (9, .i .i64 n), (10, .u64 (q ||| 0#64 <<< (BitVec.ofInt 64 i).toNat)), (11, .i .i64 (IntKind.i64.wrap (i + 1)))], []⟩ else if decide (0 ≤ IntKind.i64.wrap (i - n)) = true then if decide (IntKind.i64.wrap (i - n) < w) = true then K .normal ⟨mkT 78 [(0, .u8 11#8), (1, .i .i64 w), (2, .u64 a), (9, .i .i64 n), (10, .u64 (q ||| (a >>> (BitVec.ofInt 64 (IntKind.i64.wrap (i - n))).toNat &&& 1#64) <<< (BitVec.ofInt 64 i).toNat)), (11, .i .i64 (IntKind.i64.wrap (i + 1)))], []⟩ else K .normal ⟨mkT 78 [(0, .u8 11#8), (1, .i .i64 w), (2, .u64 a), (9, .i .i64 n), (10, .u64 (q ||| 0#64 <<< (BitVec.ofInt 64 i).toNat)), (11, .i .i64 (IntKind.i64.wrap (i + 1)))], []⟩ else K .normal ⟨mkT 78 [(0, .u8 11#8), (1, .i .i64 w), (2, .u64 a), (9, .i .i64 n), (10, .u64 (q ||| 0#64 <<< (BitVec.ofInt 64 i).toNat)), (11, .i .i64 (IntKind.i64.wrap (i + 1)))], []⟩ else K (.exit 0) ⟨mkT 78 [(0, .u8 11#8), (1, .i .i64 w), (2, .u64 a), (9, .i .i64 n), (10, .u64 q), (11, .i .i64 i)], []⟩  := by kernel_rfl
structure Xm11 where
  w : Int
  a : BitVec 64
  n : Int
  q : BitVec 64
  i : Nat
noncomputable abbrev Ym11 (y : Xm11) : St := Sm11 y.w y.a y.n y.q y.i
noncomputable def parsem11 (st : St) : Option (Bool × Xm11) := match st with
  | ⟨t, []⟩ =>
    match t.getD 0 .any, t.getD 1 .any, t.getD 2 .any, t.getD 9 .any, t.getD 10 .any, t.getD 11 .any with
    | .u8 o, .i .i64 w, .u64 a, .i .i64 n, .u64 q, .i .i64 (.ofNat i) => some (decide (t.length = 78 ∧ o = 11#8 ∧ (okW w = true ∧ 0 ≤ n ∧ n < w ∧ i ≤ w.toNat)), ⟨w, a, n, q, i⟩)
    | _, _, _, _, _, _ => none
  | _ => none
def gom11 (y : Xm11) : Bool := decide (y.i < y.w.toNat)
def nextm11 (y : Xm11) : Xm11 := { y with q := y.q ||| movBit 11#8 y.w y.n y.a y.i <<< y.i, i := y.i + 1 }
def Im11 (y : Xm11) : Prop := okW y.w = true ∧ 0 ≤ y.n ∧ y.n < y.w ∧ y.i ≤ y.w.toNat
theorem bodym11 (y : Xm11) (h : Im11 y) (K : Ex → St → Option D) : exec Tryd.prog G0 (tabOf []) (fun _ => []) (fun _ => none) 50 cm11 (Ym11 y) (fun e st => K e (canon keepm11 st)) =
    if gom11 y = true then K .normal (Ym11 (nextm11 y)) else if (fun (_ : Xm11) => false) y = true then K .ret (Ym11 y) else K (.exit 0) (Ym11 y) := by
  obtain ⟨hw, hn0, hn1, hi⟩ := h
  obtain ⟨g1, g2⟩ := okW_rng hw
  refine (nfm11 y.w y.a y.n y.q y.i K).trans ?_
  have ei : (BitVec.ofInt 64 (y.i : Int)).toNat = y.i := ofInt_nat64 (by omega)
  simp only [ei]
  unfold gom11
  by_cases h : y.i < y.w.toNat
  · have h1 : (y.i : Int) < y.w := by omega
    have hwr : IntKind.i64.wrap ((y.i : Int) + 1) = ((y.i + 1 : Nat) : Int) := by rw [wrap_in (by omega) (by omega)]; rfl
    have w1 : IntKind.i64.wrap ((y.i : Int) - y.n) = (y.i : Int) - y.n := wrap_in (by omega) (by omega)
    have hw0 : ¬ y.w = 0 := by omega
    simp only [h, h1, decide_true, if_true, hwr, w1, hw0, if_false]
    refine (leaf3 y.w ((y.i : Int) - y.n) (K .normal (Sm11 y.w y.a y.n (y.q ||| (y.a >>> (BitVec.ofInt 64 ((y.i : Int) - y.n)).toNat &&& 1#64) <<< y.i) ((y.i + 1 : Nat) : Int))) (K .normal (Sm11 y.w y.a y.n (y.q ||| 0#64 <<< y.i) ((y.i + 1 : Nat) : Int)))).trans ?_
    refine (if_K (fun q => K .normal (Sm11 y.w y.a y.n (y.q ||| q <<< y.i) ((y.i + 1 : Nat) : Int)))).trans ?_
    rw [movBit_if 11#8 y.w y.n y.a y.i (from11 _ _ _) (by omega)]
    rfl
  · have h1 : ¬ (y.i : Int) < y.w := by omega
    simp only [h, h1, decide_false, Bool.false_eq_true, if_false]
    rfl
theorem invm11 (y : Xm11) (h : Im11 y) (hg : gom11 y = true) : Im11 (nextm11 y) := ⟨h.1, h.2.1, h.2.2.1, by have := of_decide_eq_true hg; show y.i + 1 ≤ y.w.toNat; omega⟩
theorem mmm11 (y : Xm11) (h : gom11 y = true) : y.w.toNat - y.i = (nextm11 y).w.toNat - (nextm11 y).i + 1 := by
  have hg := of_decide_eq_true h
  show y.w.toNat - y.i = y.w.toNat - (y.i + 1) + 1
  omega
noncomputable abbrev summ11 : LoopF := sumG keepm11 parsem11 (fun _ => false) .ret (fun y => Ym11 y) (.exit 0) (fun y => Ym11 y) (fun y => iter (gom11) (nextm11) ((fun y => y.w.toNat - y.i) y) y)
theorem semm11 : SemOK Tryd.prog G0 cm11 summ11 := by
  refine SemOK.count (sp := tabOf []) (ann := fun _ => []) (ls := fun _ => none) TableOK.nil mixed 50 LsOK.none Ym11 _ _ (by simp [Ex.out]) _ _ (by simp [Ex.out]) _ keepm11 parsem11 (gom11) (nextm11) Im11 invm11 bodym11 (fun y => y.w.toNat - y.i) mmm11 ?_
  intro st y hx
  unfold parsem11 at hx
  split at hx
  · rename_i t 
    split at hx
    · rename_i o w a n q i h0 h1 h2 h9 h10 h11
      simp only [Option.some.injEq, Prod.mk.injEq, decide_eq_true_eq] at hx
      obtain ⟨⟨g1, rfl, g2⟩, rfl⟩ := hx
      refine ⟨g2, fun w0 L' a w hrel => ?_⟩
      exact Rel.pick hrel g1 fun x hx => by
        simp only [List.mem_cons, List.not_mem_nil, or_false] at hx
        rcases hx with rfl | rfl | rfl | rfl | rfl | rfl
        · exact h0
        · exact h1
        · exact h2
        · exact h9
        · exact h10
        · exact h11
    · cases hx
  · cases hx
noncomputable def lsm11 : Nat → Option LoopF := lsOf [(4, summ11)]
theorem loopsm11 : LsOK Tryd.prog G0 lsm11 (Tryd.f79.body.getD .skip) := by
  refine LsOK.of (of_decide_eq_true (by kernel_rfl)) fun x hx => ?_
  simp only [List.mem_cons, List.not_mem_nil, or_false] at hx
  subst hx
  exact semm11
def Jm11 (s y : Xm11) : Prop := y.w = s.w ∧ y.a = s.a ∧ y.n = s.n ∧ y.i ≤ s.w.toNat ∧ ∀ j, j < 64 → y.q.getLsbD j = (decide (j < y.i) && movB 11#8 s.w s.n j s.a)
theorem finm11 (s : Xm11) (hw : okW s.w = true) (hq : s.q = 0#64) (hi : s.i = 0) (j : Nat) (hj : j < 64) : (iter gom11 nextm11 (s.w.toNat - s.i) s).q.getLsbD j = (decide ((j : Int) < s.w) && movB 11#8 s.w s.n j s.a) := by
  obtain ⟨g1, g2⟩ := okW_rng hw
  have hJ := iter_inv (go := gom11) (next := nextm11) (J := Jm11 s) (fun y ⟨h2, h3, h4, h5, h6⟩ hg => by
    have hg := of_decide_eq_true hg
    rw [h2] at hg
    refine ⟨h2, h3, h4, by show y.i + 1 ≤ _; omega, fun j hj => ?_⟩
    show (y.q ||| movBit 11#8 y.w y.n y.a y.i <<< y.i).getLsbD j = (decide (j < y.i + 1) && _)
    unfold movBit
    rw [or_bit _ _ _ _ (by omega) hj, h6 j hj]
    rcases Nat.lt_trichotomy j y.i with h | h | h
    · have e1 : decide (j < y.i) = true := decide_eq_true h
      have e2 : decide (j = y.i) = false := decide_eq_false (by omega)
      have e3 : decide (j < y.i + 1) = true := decide_eq_true (by omega)
      rw [e1, e2, e3]; simp
    · have e1 : decide (j < y.i) = false := decide_eq_false (by omega)
      have e2 : decide (j = y.i) = true := decide_eq_true h
      have e3 : decide (j < y.i + 1) = true := decide_eq_true (by omega)
      rw [e1, e2, e3, h2, h3, h4, ← h]; simp
    · have e1 : decide (j < y.i) = false := decide_eq_false (by omega)
      have e2 : decide (j = y.i) = false := decide_eq_false (by omega)
      have e3 : decide (j < y.i + 1) = false := decide_eq_false (by omega)
      rw [e1, e2, e3]; simp) (s.w.toNat - s.i) s ⟨rfl, rfl, rfl, by omega, fun j hj => by rw [hq, hi]; simp⟩
  have hs := iter_stop (go := gom11) (next := nextm11) (m := fun y => y.w.toNat - y.i) mmm11 _ s rfl
  revert hJ hs
  generalize iter gom11 nextm11 (s.w.toNat - s.i) s = z
  intro ⟨h2, h3, h4, h5, h6⟩ hs
  have hz : z.i = s.w.toNat := by
    have := of_decide_eq_false hs
    rw [h2] at this
    omega
  rw [h6 j hj, hz]
  congr 1
  rw [Bool.eq_iff_iff, decide_eq_true_eq, decide_eq_true_eq]
  omega
theorem lawm11 (w : Int) (a b : BitVec 64) : execFnL Tryd.prog G0 (tabOf []) (fun _ => []) lsm11 Tryd.f79 50 [.u8 11#8, .i .i64 w, .u64 a, .u64 b] some =
  if BitVec.ofInt 64 w = 0#64 then none else
  if decide (78 = 78 ∧ 11#8 = 11#8 ∧ (okW w = true ∧ 0 ≤ sOfU .i64 (b % BitVec.ofInt 64 w) ∧ sOfU .i64 (b % BitVec.ofInt 64 w) < w ∧ 0 ≤ w.toNat)) = true then some (.u64 (iter gom11 nextm11 (w.toNat - 0) ⟨w, a, sOfU .i64 (b % BitVec.ofInt 64 w), 0#64, 0⟩).q) else none := by kernel_rfl
theorem ptm11 (w : Int) (a b : BitVec 64) (ha : fitF w a = true) : Pt Tryd.prog G0 79 [.u8 11#8, .i .i64 w, .u64 a, .u64 b] (.u64 (movV 11#8 w a (b % BitVec.ofInt 64 w))) := by
  refine (execFnL_sound (ann := fun _ => []) (ls := lsm11) TableOK.nil mixed Tryd.func79 (by kernel_rfl) 50 (fun c hc => by
    have e : c = Tryd.f79.body.getD .skip := by rw [hc]; rfl
    rw [e]; exact loopsm11)).pt ((lawm11 w a b).trans ?_)
  have hw := (fitF_nat ha).1
  obtain ⟨g1, g2⟩ := okW_rng hw
  have hm := modW hw b
  have hs : sOfU .i64 (b % BitVec.ofInt 64 w) = ((b % BitVec.ofInt 64 w).toNat : Int) := by
    rw [sOfU64, toInt64, if_pos (by omega)]
  rw [if_neg (ofW_ne hw), hs, if_pos (by rw [decide_eq_true_eq]; exact ⟨rfl, rfl, hw, by omega, by omega, by omega⟩)]
  refine congrArg (fun x => some (D.u64 x)) (bits_of fun j hj => ?_)
  rw [mov_bit ha hm (by simp) hj]
  exact finm11 ⟨w, a, ((b % BitVec.ofInt 64 w).toNat : Int), 0#64, 0⟩ hw rfl rfl j hj
noncomputable def cm12 : Code := findLoop (loops (Tryd.f79.body.getD .skip)) 4
noncomputable abbrev keepm12 : List Nat := [0, 1, 2, 9, 10, 11]
noncomputable def Sm12 (w : Int) (a : BitVec 64) (n : Int) (q : BitVec 64) (i : Int) : St := ⟨mkT 78 [(0, .u8 12#8), (1, .i .i64 w), (2, .u64 a), (9, .i .i64 n), (10, .u64 q), (11, .i .i64 i)], []⟩
theorem nfm12 (w : Int) (a : BitVec 64) (n : Int) (q : BitVec 64) (i : Int) (K : Ex → St → Option D) : exec Tryd.prog G0 (tabOf []) (fun _ => []) (fun _ => none) 50 cm12 (Sm12 w a n q i) (fun e st => K e (canon keepm12 st)) =
  if decide (i < w) = true then if decide (w ≤ IntKind.i64.wrap (i + n)) = true then if decide (0 ≤ IntKind.i64.wrap (i + n)) = true then if decide (IntKind.i64.wrap (i + n) < w) = true then K .normal ⟨mkT 78 [(0, .u8 12#8), (1, .i .i64 w), (2, .u64 a), (9, .i .i64 n), (10, .u64 (q ||| (a >>> (BitVec.ofInt 64 (IntKind.i64.wrap (i + n))).toNat &&& 1#64) <<< (BitVec.ofInt 64 i).toNat)), (11, .i .i64 (IntKind.i64.wrap (i + 1)))], []⟩ else K .normal ⟨mkT 78 [(0, .u8 12#8), (1, .i .i64 w), (2, .u64 a), (9, .i .i64 n), (10, .u64 (q ||| 0#64 <<< (BitVec.ofInt 64 i).toNat)), (11, .i .i64 (IntKind.i64.wrap (i + 1)))], []⟩ else K .normal ⟨mkT 78 [(0, .u8 12#8), (1, .i .i64 w), (2, .u64 a), (9, .i .i64 n), (10, .u64 (q ||| 0#64 <<< (BitVec.ofInt 64 i).toNat)), (11, .i .i64 (IntKind.i64.wrap (i + 1)))], []⟩ else if decide (0 ≤ IntKind.i64.wrap (i + n)) = true then if decide (IntKind.i64.wrap (i + n) < w) = true then K .normal ⟨mkT 78 [(0, .u8 12#8), (1, .i .i64 w), (2, .u64 a), (9, .i .i64 n), (10, .u64 (q ||| (a >>> (BitVec.ofInt 64 (IntKind.i64.wrap (i + n))).toNat &&& 1#64) <<< (BitVec.ofInt 64 i).toNat)), (11, .i .i64 (IntKind.i64.wrap (i + 1)))], []⟩ else K .normal ⟨mkT 78 [(0, .u8 12#8), (1, .i .i64 w), (2, .u64 a), (9, .i .i64 n), (10, .u64 (q ||| 0#64 <<< (BitVec.ofInt 64 i).toNat)), (11, .i .i64 (IntKind.i64.wrap (i + 1)))], []⟩ else K .normal ⟨mkT 78 [(0, .u8 12#8), (1, .i .i64 w), (2, .u64 a), (9, .i .i64 n), (10, .u64 (q ||| 0#64 <<< (BitVec.ofInt 64 i).toNat)), (11, .i .i64 (IntKind.i64.wrap (i + 1)))], []⟩ else K (.exit 0) ⟨mkT 78 [(0, .u8 12#8), (1, .i .i64 w), (2, .u64 a), (9, .i .i64 n), (10, .u64 q), (11, .i .i64 i)], []⟩  := by kernel_rfl
structure Xm12 where
  w : Int
  a : BitVec 64
  n : Int
  q : BitVec 64
  i : Nat
noncomputable abbrev Ym12 (y : Xm12) : St := Sm12 y.w y.a y.n y.q y.i
noncomputable def parsem12 (st : St) : Option (Bool × Xm12) := match st with
  | ⟨t, []⟩ =>
    match t.getD 0 .any, t.getD 1 .any, t.getD 2 .any, t.getD 9 .any, t.getD 10 .any, t.getD 11 .any with
    | .u8 o, .i .i64 w, .u64 a, .i .i64 n, .u64 q, .i .i64 (.ofNat i) => some (decide (t.length = 78 ∧ o = 12#8 ∧ (okW w = true ∧ 0 ≤ n ∧ n < w ∧ i ≤ w.toNat)), ⟨w, a, n, q, i⟩)
    | _, _, _, _, _, _ => none
  | _ => none
def gom12 (y : Xm12) : Bool := decide (y.i < y.w.toNat)
def nextm12 (y : Xm12) : Xm12 := { y with q := y.q ||| movBit 12#8 y.w y.n y.a y.i <<< y.i, i := y.i + 1 }
def Im12 (y : Xm12) : Prop := okW y.w = true ∧ 0 ≤ y.n ∧ y.n < y.w ∧ y.i ≤ y.w.toNat
theorem bodym12 (y : Xm12) (h : Im12 y) (K : Ex → St → Option D) : exec Tryd.prog G0 (tabOf []) (fun _ => []) (fun _ => none) 50 cm12 (Ym12 y) (fun e st => K e (canon keepm12 st)) =
    if gom12 y = true then K .normal (Ym12 (nextm12 y)) else if (fun (_ : Xm12) => false) y = true then K .ret (Ym12 y) else K (.exit 0) (Ym12 y) := by
  obtain ⟨hw, hn0, hn1, hi⟩ := h
  obtain ⟨g1, g2⟩ := okW_rng hw
  refine (nfm12 y.w y.a y.n y.q y.i K).trans ?_
  have ei : (BitVec.ofInt 64 (y.i : Int)).toNat = y.i := ofInt_nat64 (by omega)
  simp only [ei]
  unfold gom12
  by_cases h : y.i < y.w.toNat
  · have h1 : (y.i : Int) < y.w := by omega
    have hwr : IntKind.i64.wrap ((y.i : Int) + 1) = ((y.i + 1 : Nat) : Int) := by rw [wrap_in (by omega) (by omega)]; rfl
    have w1 : IntKind.i64.wrap ((y.i : Int) + y.n) = (y.i : Int) + y.n := wrap_in (by omega) (by omega)
    have hw0 : ¬ y.w = 0 := by omega
    simp only [h, h1, decide_true, if_true, hwr, w1, hw0, if_false]
    refine (leaf3 y.w ((y.i : Int) + y.n) (K .normal (Sm12 y.w y.a y.n (y.q ||| (y.a >>> (BitVec.ofInt 64 ((y.i : Int) + y.n)).toNat &&& 1#64) <<< y.i) ((y.i + 1 : Nat) : Int))) (K .normal (Sm12 y.w y.a y.n (y.q ||| 0#64 <<< y.i) ((y.i + 1 : Nat) : Int)))).trans ?_
    refine (if_K (fun q => K .normal (Sm12 y.w y.a y.n (y.q ||| q <<< y.i) ((y.i + 1 : Nat) : Int)))).trans ?_
    rw [movBit_if 12#8 y.w y.n y.a y.i (from12 _ _ _) (by omega)]
    rfl
  · have h1 : ¬ (y.i : Int) < y.w := by omega
    simp only [h, h1, decide_false, Bool.false_eq_true, if_false]
    rfl
theorem invm12 (y : Xm12) (h : Im12 y) (hg : gom12 y = true) : Im12 (nextm12 y) := ⟨h.1, h.2.1, h.2.2.1, by have := of_decide_eq_true hg; show y.i + 1 ≤ y.w.toNat; omega⟩
theorem mmm12 (y : Xm12) (h : gom12 y = true) : y.w.toNat - y.i = (nextm12 y).w.toNat - (nextm12 y).i + 1 := by
  have hg := of_decide_eq_true h
  show y.w.toNat - y.i = y.w.toNat - (y.i + 1) + 1
  omega
noncomputable abbrev summ12 : LoopF := sumG keepm12 parsem12 (fun _ => false) .ret (fun y => Ym12 y) (.exit 0) (fun y => Ym12 y) (fun y => iter (gom12) (nextm12) ((fun y => y.w.toNat - y.i) y) y)
theorem semm12 : SemOK Tryd.prog G0 cm12 summ12 := by
  refine SemOK.count (sp := tabOf []) (ann := fun _ => []) (ls := fun _ => none) TableOK.nil mixed 50 LsOK.none Ym12 _ _ (by simp [Ex.out]) _ _ (by simp [Ex.out]) _ keepm12 parsem12 (gom12) (nextm12) Im12 invm12 bodym12 (fun y => y.w.toNat - y.i) mmm12 ?_
  intro st y hx
  unfold parsem12 at hx
  split at hx
  · rename_i t 
    split at hx
    · rename_i o w a n q i h0 h1 h2 h9 h10 h11
      simp only [Option.some.injEq, Prod.mk.injEq, decide_eq_true_eq] at hx
      obtain ⟨⟨g1, rfl, g2⟩, rfl⟩ := hx
      refine ⟨g2, fun w0 L' a w hrel => ?_⟩
      exact Rel.pick hrel g1 fun x hx => by
        simp only [List.mem_cons, List.not_mem_nil, or_false] at hx
        rcases hx with rfl | rfl | rfl | rfl | rfl | rfl
        · exact h0
        · exact h1
        · exact h2
        · exact h9
        · exact h10
        · exact h11
    · cases hx
  · cases hx
noncomputable def lsm12 : Nat → Option LoopF := lsOf [(4, summ12)]
theorem loopsm12 : LsOK Tryd.prog G0 lsm12 (Tryd.f79.body.getD .skip) := by
  refine LsOK.of (of_decide_eq_true (by kernel_rfl)) fun x hx => ?_
  simp only [List.mem_cons, List.not_mem_nil, or_false] at hx
  subst hx
  exact semm12
def Jm12 (s y : Xm12) : Prop := y.w = s.w ∧ y.a = s.a ∧ y.n = s.n ∧ y.i ≤ s.w.toNat ∧ ∀ j, j < 64 → y.q.getLsbD j = (decide (j < y.i) && movB 12#8 s.w s.n j s.a)
theorem finm12 (s : Xm12) (hw : okW s.w = true) (hq : s.q = 0#64) (hi : s.i = 0) (j : Nat) (hj : j < 64) : (iter gom12 nextm12 (s.w.toNat - s.i) s).q.getLsbD j = (decide ((j : Int) < s.w) && movB 12#8 s.w s.n j s.a) := by
  obtain ⟨g1, g2⟩ := okW_rng hw
  have hJ := iter_inv (go := gom12) (next := nextm12) (J := Jm12 s) (fun y ⟨h2, h3, h4, h5, h6⟩ hg => by
    have hg := of_decide_eq_true hg
    rw [h2] at hg
    refine ⟨h2, h3, h4, by show y.i + 1 ≤ _; omega, fun j hj => ?_⟩
    show (y.q ||| movBit 12#8 y.w y.n y.a y.i <<< y.i).getLsbD j = (decide (j < y.i + 1) && _)
    unfold movBit
    rw [or_bit _ _ _ _ (by omega) hj, h6 j hj]
    rcases Nat.lt_trichotomy j y.i with h | h | h
    · have e1 : decide (j < y.i) = true := decide_eq_true h
      have e2 : decide (j = y.i) = false := decide_eq_false (by omega)
      have e3 : decide (j < y.i + 1) = true := decide_eq_true (by omega)
      rw [e1, e2, e3]; simp
    · have e1 : decide (j < y.i) = false := decide_eq_false (by omega)
      have e2 : decide (j = y.i) = true := decide_eq_true h
      have e3 : decide (j < y.i + 1) = true := decide_eq_true (by omega)
      rw [e1, e2, e3, h2, h3, h4, ← h]; simp
    · have e1 : decide (j < y.i) = false := decide_eq_false (by omega)
      have e2 : decide (j = y.i) = false := decide_eq_false (by omega)
      have e3 : decide (j < y.i + 1) = false := decide_eq_false (by omega)
      rw [e1, e2, e3]; simp) (s.w.toNat - s.i) s ⟨rfl, rfl, rfl, by omega, fun j hj => by rw [hq, hi]; simp⟩
  have hs := iter_stop (go := gom12) (next := nextm12) (m := fun y => y.w.toNat - y.i) mmm12 _ s rfl
  revert hJ hs
  generalize iter gom12 nextm12 (s.w.toNat - s.i) s = z
  intro ⟨h2, h3, h4, h5, h6⟩ hs
  have hz : z.i = s.w.toNat := by
    have := of_decide_eq_false hs
    rw [h2] at this
    omega
  rw [h6 j hj, hz]
  congr 1
  rw [Bool.eq_iff_iff, decide_eq_true_eq, decide_eq_true_eq]
  omega
theorem lawm12 (w : Int) (a b : BitVec 64) : execFnL Tryd.prog G0 (tabOf []) (fun _ => []) lsm12 Tryd.f79 50 [.u8 12#8, .i .i64 w, .u64 a, .u64 b] some =
  if BitVec.ofInt 64 w = 0#64 then none else
  if decide (78 = 78 ∧ 12#8 = 12#8 ∧ (okW w = true ∧ 0 ≤ sOfU .i64 (b % BitVec.ofInt 64 w) ∧ sOfU .i64 (b % BitVec.ofInt 64 w) < w ∧ 0 ≤ w.toNat)) = true then some (.u64 (iter gom12 nextm12 (w.toNat - 0) ⟨w, a, sOfU .i64 (b % BitVec.ofInt 64 w), 0#64, 0⟩).q) else none := by kernel_rfl
theorem ptm12 (w : Int) (a b : BitVec 64) (ha : fitF w a = true) : Pt Tryd.prog G0 79 [.u8 12#8, .i .i64 w, .u64 a, .u64 b] (.u64 (movV 12#8 w a (b % BitVec.ofInt 64 w))) := by
  refine (execFnL_sound (ann := fun _ => []) (ls := lsm12) TableOK.nil mixed Tryd.func79 (by kernel_rfl) 50 (fun c hc => by
    have e : c = Tryd.f79.body.getD .skip := by rw [hc]; rfl
    rw [e]; exact loopsm12)).pt ((lawm12 w a b).trans ?_)
  have hw := (fitF_nat ha).1
  obtain ⟨g1, g2⟩ := okW_rng hw
  have hm := modW hw b
  have hs : sOfU .i64 (b % BitVec.ofInt 64 w) = ((b % BitVec.ofInt 64 w).toNat : Int) := by
    rw [sOfU64, toInt64, if_pos (by omega)]
  rw [if_neg (ofW_ne hw), hs, if_pos (by rw [decide_eq_true_eq]; exact ⟨rfl, rfl, hw, by omega, by omega, by omega⟩)]
  refine congrArg (fun x => some (D.u64 x)) (bits_of fun j hj => ?_)
  rw [mov_bit ha hm (by simp) hj]
  exact finm12 ⟨w, a, ((b % BitVec.ofInt 64 w).toNat : Int), 0#64, 0⟩ hw rfl rfl j hj
noncomputable def cm13 : Code := findLoop (loops (Tryd.f79.body.getD .skip)) 4
noncomputable abbrev keepm13 : List Nat := [0, 1, 2, 9, 10, 11]
noncomputable def Sm13 (w : Int) (a : BitVec 64) (n : Int) (q : BitVec 64) (i : Int) : St := ⟨mkT 78 [(0, .u8 13#8), (1, .i .i64 w), (2, .u64 a), (9, .i .i64 n), (10, .u64 q), (11, .i .i64 i)], []⟩
theorem nfm13 (w : Int) (a : BitVec 64) (n : Int) (q : BitVec 64) (i : Int) (K : Ex → St → Option D) : exec Tryd.prog G0 (tabOf []) (fun _ => []) (fun _ => none) 50 cm13 (Sm13 w a n q i) (fun e st => K e (canon keepm13 st)) =
  if decide (i < w) = true then if decide (w ≤ IntKind.i64.wrap (i + n)) = true then if decide (0 ≤ IntKind.i64.wrap (w - 1)) = true then if decide (IntKind.i64.wrap (w - 1) < w) = true then K .normal ⟨mkT 78 [(0, .u8 13#8), (1, .i .i64 w), (2, .u64 a), (9, .i .i64 n), (10, .u64 (q ||| (a >>> (BitVec.ofInt 64 (IntKind.i64.wrap (w - 1))).toNat &&& 1#64) <<< (BitVec.ofInt 64 i).toNat)), (11, .i .i64 (IntKind.i64.wrap (i + 1)))], []⟩ else K .normal ⟨mkT 78 [(0, .u8 13#8), (1, .i .i64 w), (2, .u64 a), (9, .i .i64 n), (10, .u64 (q ||| 0#64 <<< (BitVec.ofInt 64 i).toNat)), (11, .i .i64 (IntKind.i64.wrap (i + 1)))], []⟩ else K .normal ⟨mkT 78 [(0, .u8 13#8), (1, .i .i64 w), (2, .u64 a), (9, .i .i64 n), (10, .u64 (q ||| 0#64 <<< (BitVec.ofInt 64 i).toNat)), (11, .i .i64 (IntKind.i64.wrap (i + 1)))], []⟩ else if decide (0 ≤ IntKind.i64.wrap (i + n)) = true then if decide (IntKind.i64.wrap (i + n) < w) = true then K .normal ⟨mkT 78 [(0, .u8 13#8), (1, .i .i64 w), (2, .u64 a), (9, .i .i64 n), (10, .u64 (q ||| (a >>> (BitVec.ofInt 64 (IntKind.i64.wrap (i + n))).toNat &&& 1#64) <<< (BitVec.ofInt 64 i).toNat)), (11, .i .i64 (IntKind.i64.wrap (i + 1)))], []⟩ else K .normal ⟨mkT 78 [(0, .u8 13#8), (1, .i .i64 w), (2, .u64 a), (9, .i .i64 n), (10, .u64 (q ||| 0#64 <<< (BitVec.ofInt 64 i).toNat)), (11, .i .i64 (IntKind.i64.wrap (i + 1)))], []⟩ else K .normal ⟨mkT 78 [(0, .u8 13#8), (1, .i .i64 w), (2, .u64 a), (9, .i .i64 n), (10, .u64 (q ||| 0#64 <<< (BitVec.ofInt 64 i).toNat)), (11, .i .i64 (IntKind.i64.wrap (i + 1)))], []⟩ else K (.exit 0) ⟨mkT 78 [(0, .u8 13#8), (1, .i .i64 w), (2, .u64 a), (9, .i .i64 n), (10, .u64 q), (11, .i .i64 i)], []⟩  := by kernel_rfl
structure Xm13 where
  w : Int
  a : BitVec 64
  n : Int
  q : BitVec 64
  i : Nat
noncomputable abbrev Ym13 (y : Xm13) : St := Sm13 y.w y.a y.n y.q y.i
noncomputable def parsem13 (st : St) : Option (Bool × Xm13) := match st with
  | ⟨t, []⟩ =>
    match t.getD 0 .any, t.getD 1 .any, t.getD 2 .any, t.getD 9 .any, t.getD 10 .any, t.getD 11 .any with
    | .u8 o, .i .i64 w, .u64 a, .i .i64 n, .u64 q, .i .i64 (.ofNat i) => some (decide (t.length = 78 ∧ o = 13#8 ∧ (okW w = true ∧ 0 ≤ n ∧ n < w ∧ i ≤ w.toNat)), ⟨w, a, n, q, i⟩)
    | _, _, _, _, _, _ => none
  | _ => none
def gom13 (y : Xm13) : Bool := decide (y.i < y.w.toNat)
def nextm13 (y : Xm13) : Xm13 := { y with q := y.q ||| movBit 13#8 y.w y.n y.a y.i <<< y.i, i := y.i + 1 }
def Im13 (y : Xm13) : Prop := okW y.w = true ∧ 0 ≤ y.n ∧ y.n < y.w ∧ y.i ≤ y.w.toNat
theorem bodym13 (y : Xm13) (h : Im13 y) (K : Ex → St → Option D) : exec Tryd.prog G0 (tabOf []) (fun _ => []) (fun _ => none) 50 cm13 (Ym13 y) (fun e st => K e (canon keepm13 st)) =
    if gom13 y = true then K .normal (Ym13 (nextm13 y)) else if (fun (_ : Xm13) => false) y = true then K .ret (Ym13 y) else K (.exit 0) (Ym13 y) := by
  obtain ⟨hw, hn0, hn1, hi⟩ := h
  obtain ⟨g1, g2⟩ := okW_rng hw
  refine (nfm13 y.w y.a y.n y.q y.i K).trans ?_
  have ei : (BitVec.ofInt 64 (y.i : Int)).toNat = y.i := ofInt_nat64 (by omega)
  simp only [ei]
  unfold gom13
  by_cases h : y.i < y.w.toNat
  · have h1 : (y.i : Int) < y.w := by omega
    have hwr : IntKind.i64.wrap ((y.i : Int) + 1) = ((y.i + 1 : Nat) : Int) := by rw [wrap_in (by omega) (by omega)]; rfl
    have w1 : IntKind.i64.wrap ((y.i : Int) + y.n) = (y.i : Int) + y.n := wrap_in (by omega) (by omega)
    have w2 : IntKind.i64.wrap (y.w - 1) = y.w - 1 := wrap_in (by omega) (by omega)
    have hw0 : ¬ y.w = 0 := by omega
    simp only [h, h1, decide_true, if_true, hwr, w1, w2, hw0, if_false]
    refine (leaf3' y.w ((y.i : Int) + y.n) (y.w - 1) (K .normal (Sm13 y.w y.a y.n (y.q ||| (y.a >>> (BitVec.ofInt 64 (y.w - 1)).toNat &&& 1#64) <<< y.i) ((y.i + 1 : Nat) : Int))) (K .normal (Sm13 y.w y.a y.n (y.q ||| 0#64 <<< y.i) ((y.i + 1 : Nat) : Int))) (K .normal (Sm13 y.w y.a y.n (y.q ||| (y.a >>> (BitVec.ofInt 64 ((y.i : Int) + y.n)).toNat &&& 1#64) <<< y.i) ((y.i + 1 : Nat) : Int)))).trans ?_
    by_cases hc : y.w ≤ (y.i : Int) + y.n
    · rw [if_pos hc]
      refine (if_K (fun q => K .normal (Sm13 y.w y.a y.n (y.q ||| q <<< y.i) ((y.i + 1 : Nat) : Int)))).trans ?_
      rw [movBit_if 13#8 y.w y.n y.a y.i ((from13 _ _ _).trans (if_pos hc)) (by omega)]
      rfl
    · rw [if_neg hc]
      refine (if_K (fun q => K .normal (Sm13 y.w y.a y.n (y.q ||| q <<< y.i) ((y.i + 1 : Nat) : Int)))).trans ?_
      rw [movBit_if 13#8 y.w y.n y.a y.i ((from13 _ _ _).trans (if_neg hc)) (by omega)]
      rfl
  · have h1 : ¬ (y.i : Int) < y.w := by omega
    simp only [h, h1, decide_false, Bool.false_eq_true, if_false]
    rfl
theorem invm13 (y : Xm13) (h : Im13 y) (hg : gom13 y = true) : Im13 (nextm13 y) := ⟨h.1, h.2.1, h.2.2.1, by have := of_decide_eq_true hg; show y.i + 1 ≤ y.w.toNat; omega⟩
theorem mmm13 (y : Xm13) (h : gom13 y = true) : y.w.toNat - y.i = (nextm13 y).w.toNat - (nextm13 y).i + 1 := by
  have hg := of_decide_eq_true h
  show y.w.toNat - y.i = y.w.toNat - (y.i + 1) + 1
  omega
noncomputable abbrev summ13 : LoopF := sumG keepm13 parsem13 (fun _ => false) .ret (fun y => Ym13 y) (.exit 0) (fun y => Ym13 y) (fun y => iter (gom13) (nextm13) ((fun y => y.w.toNat - y.i) y) y)
theorem semm13 : SemOK Tryd.prog G0 cm13 summ13 := by
  refine SemOK.count (sp := tabOf []) (ann := fun _ => []) (ls := fun _ => none) TableOK.nil mixed 50 LsOK.none Ym13 _ _ (by simp [Ex.out]) _ _ (by simp [Ex.out]) _ keepm13 parsem13 (gom13) (nextm13) Im13 invm13 bodym13 (fun y => y.w.toNat - y.i) mmm13 ?_
  intro st y hx
  unfold parsem13 at hx
  split at hx
  · rename_i t 
    split at hx
    · rename_i o w a n q i h0 h1 h2 h9 h10 h11
      simp only [Option.some.injEq, Prod.mk.injEq, decide_eq_true_eq] at hx
      obtain ⟨⟨g1, rfl, g2⟩, rfl⟩ := hx
      refine ⟨g2, fun w0 L' a w hrel => ?_⟩
      exact Rel.pick hrel g1 fun x hx => by
        simp only [List.mem_cons, List.not_mem_nil, or_false] at hx
        rcases hx with rfl | rfl | rfl | rfl | rfl | rfl
        · exact h0
        · exact h1
        · exact h2
        · exact h9
        · exact h10
        · exact h11
    · cases hx
  · cases hx
noncomputable def lsm13 : Nat → Option LoopF := lsOf [(4, summ13)]
theorem loopsm13 : LsOK Tryd.prog G0 lsm13 (Tryd.f79.body.getD .skip) := by
  refine LsOK.of (of_decide_eq_true (by kernel_rfl)) fun x hx => ?_
  simp only [List.mem_cons, List.not_mem_nil, or_false] at hx
  subst hx
  exact semm13
def Jm13 (s y : Xm13) : Prop := y.w = s.w ∧ y.a = s.a ∧ y.n = s.n ∧ y.i ≤ s.w.toNat ∧ ∀ j, j < 64 → y.q.getLsbD j = (decide (j < y.i) && movB 13#8 s.w s.n j s.a)
theorem finm13 (s : Xm13) (hw : okW s.w = true) (hq : s.q = 0#64) (hi : s.i = 0) (j : Nat) (hj : j < 64) : (iter gom13 nextm13 (s.w.toNat - s.i) s).q.getLsbD j = (decide ((j : Int) < s.w) && movB 13#8 s.w s.n j s.a) := by
  obtain ⟨g1, g2⟩ := okW_rng hw
  have hJ := iter_inv (go := gom13) (next := nextm13) (J := Jm13 s) (fun y ⟨h2, h3, h4, h5, h6⟩ hg => by
    have hg := of_decide_eq_true hg
    rw [h2] at hg
    refine ⟨h2, h3, h4, by show y.i + 1 ≤ _; omega, fun j hj => ?_⟩
    show (y.q ||| movBit 13#8 y.w y.n y.a y.i <<< y.i).getLsbD j = (decide (j < y.i + 1) && _)
    unfold movBit
    rw [or_bit _ _ _ _ (by omega) hj, h6 j hj]
    rcases Nat.lt_trichotomy j y.i with h | h | h
    · have e1 : decide (j < y.i) = true := decide_eq_true h
      have e2 : decide (j = y.i) = false := decide_eq_false (by omega)
      have e3 : decide (j < y.i + 1) = true := decide_eq_true (by omega)
      rw [e1, e2, e3]; simp
    · have e1 : decide (j < y.i) = false := decide_eq_false (by omega)
      have e2 : decide (j = y.i) = true := decide_eq_true h
      have e3 : decide (j < y.i + 1) = true := decide_eq_true (by omega)
      rw [e1, e2, e3, h2, h3, h4, ← h]; simp
    · have e1 : decide (j < y.i) = false := decide_eq_false (by omega)
      have e2 : decide (j = y.i) = false := decide_eq_false (by omega)
      have e3 : decide (j < y.i + 1) = false := decide_eq_false (by omega)
      rw [e1, e2, e3]; simp) (s.w.toNat - s.i) s ⟨rfl, rfl, rfl, by omega, fun j hj => by rw [hq, hi]; simp⟩
  have hs := iter_stop (go := gom13) (next := nextm13) (m := fun y => y.w.toNat - y.i) mmm13 _ s rfl
  revert hJ hs
  generalize iter gom13 nextm13 (s.w.toNat - s.i) s = z
  intro ⟨h2, h3, h4, h5, h6⟩ hs
  have hz : z.i = s.w.toNat := by
    have := of_decide_eq_false hs
    rw [h2] at this
    omega
  rw [h6 j hj, hz]
  congr 1
  rw [Bool.eq_iff_iff, decide_eq_true_eq, decide_eq_true_eq]
  omega
theorem lawm13 (w : Int) (a b : BitVec 64) : execFnL Tryd.prog G0 (tabOf []) (fun _ => []) lsm13 Tryd.f79 50 [.u8 13#8, .i .i64 w, .u64 a, .u64 b] some =
  if BitVec.ofInt 64 w = 0#64 then none else
  if decide (78 = 78 ∧ 13#8 = 13#8 ∧ (okW w = true ∧ 0 ≤ sOfU .i64 (b % BitVec.ofInt 64 w) ∧ sOfU .i64 (b % BitVec.ofInt 64 w) < w ∧ 0 ≤ w.toNat)) = true then some (.u64 (iter gom13 nextm13 (w.toNat - 0) ⟨w, a, sOfU .i64 (b % BitVec.ofInt 64 w), 0#64, 0⟩).q) else none := by kernel_rfl
theorem ptm13 (w : Int) (a b : BitVec 64) (ha : fitF w a = true) : Pt Tryd.prog G0 79 [.u8 13#8, .i .i64 w, .u64 a, .u64 b] (.u64 (movV 13#8 w a (b % BitVec.ofInt 64 w))) := by
  refine (execFnL_sound (ann := fun _ => []) (ls := lsm13) TableOK.nil mixed Tryd.func79 (by kernel_rfl) 50 (fun c hc => by
    have e : c = Tryd.f79.body.getD .skip := by rw [hc]; rfl
    rw [e]; exact loopsm13)).pt ((lawm13 w a b).trans ?_)
  have hw := (fitF_nat ha).1
  obtain ⟨g1, g2⟩ := okW_rng hw
  have hm := modW hw b
  have hs : sOfU .i64 (b % BitVec.ofInt 64 w) = ((b % BitVec.ofInt 64 w).toNat : Int) := by
    rw [sOfU64, toInt64, if_pos (by omega)]
  rw [if_neg (ofW_ne hw), hs, if_pos (by rw [decide_eq_true_eq]; exact ⟨rfl, rfl, hw, by omega, by omega, by omega⟩)]
  refine congrArg (fun x => some (D.u64 x)) (bits_of fun j hj => ?_)
  rw [mov_bit ha hm (by simp) hj]
  exact finm13 ⟨w, a, ((b % BitVec.ofInt 64 w).toNat : Int), 0#64, 0⟩ hw rfl rfl j hj
noncomputable def cm14 : Code := findLoop (loops (Tryd.f79.body.getD .skip)) 4
noncomputable abbrev keepm14 : List Nat := [0, 1, 2, 9, 10, 11]
noncomputable def Sm14 (w : Int) (a : BitVec 64) (n : Int) (q : BitVec 64) (i : Int) : St := ⟨mkT 78 [(0, .u8 14#8), (1, .i .i64 w), (2, .u64 a), (9, .i .i64 n), (10, .u64 q), (11, .i .i64 i)], []⟩
theorem nfm14 (w : Int) (a : BitVec 64) (n : Int) (q : BitVec 64) (i : Int) (K : Ex → St → Option D) : exec Tryd.prog G0 (tabOf []) (fun _ => []) (fun _ => none) 50 cm14 (Sm14 w a n q i) (fun e st => K e (canon keepm14 st)) =
  if decide (i < w) = true then if w = 0 then none else if decide (w ≤ (IntKind.i64.wrap (IntKind.i64.wrap (i + w) - n)).tmod w) = true then if decide (0 ≤ (IntKind.i64.wrap (IntKind.i64.wrap (i + w) - n)).tmod w) = true then if decide ((IntKind.i64.wrap (IntKind.i64.wrap (i + w) - n)).tmod w < w) = true then K .normal ⟨mkT 78 [(0, .u8 14#8), (1, .i .i64 w), (2, .u64 a), (9, .i .i64 n), (10, .u64 (q ||| (a >>> (BitVec.ofInt 64 ((IntKind.i64.wrap (IntKind.i64.wrap (i + w) - n)).tmod w)).toNat &&& 1#64) <<< (BitVec.ofInt 64 i).toNat)), (11, .i .i64 (IntKind.i64.wrap (i + 1)))], []⟩ else K .normal ⟨mkT 78 [(0, .u8 14#8), (1, .i .i64 w), (2, .u64 a), (9, .i .i64 n), (10, .u64 (q ||| 0#64 <<< (BitVec.ofInt 64 i).toNat)), (11, .i .i64 (IntKind.i64.wrap (i + 1)))], []⟩ else K .normal ⟨mkT 78 [(0, .u8 14#8), (1, .i .i64 w), (2, .u64 a), (9, .i .i64 n), (10, .u64 (q ||| 0#64 <<< (BitVec.ofInt 64 i).toNat)), (11, .i .i64 (IntKind.i64.wrap (i + 1)))], []⟩ else if decide (0 ≤ (IntKind.i64.wrap (IntKind.i64.wrap (i + w) - n)).tmod w) = true then if decide ((IntKind.i64.wrap (IntKind.i64.wrap (i + w) - n)).tmod w < w) = true then K .normal ⟨mkT 78 [(0, .u8 14#8), (1, .i .i64 w), (2, .u64 a), (9, .i .i64 n), (10, .u64 (q ||| (a >>> (BitVec.ofInt 64 ((IntKind.i64.wrap (IntKind.i64.wrap (i + w) - n)).tmod w)).toNat &&& 1#64) <<< (BitVec.ofInt 64 i).toNat)), (11, .i .i64 (IntKind.i64.wrap (i + 1)))], []⟩ else K .normal ⟨mkT 78 [(0, .u8 14#8), (1, .i .i64 w), (2, .u64 a), (9, .i .i64 n), (10, .u64 (q ||| 0#64 <<< (BitVec.ofInt 64 i).toNat)), (11, .i .i64 (IntKind.i64.wrap (i + 1)))], []⟩ else K .normal ⟨mkT 78 [(0, .u8 14#8), (1, .i .i64 w), (2, .u64 a), (9, .i .i64 n), (10, .u64 (q ||| 0#64 <<< (BitVec.ofInt 64 i).toNat)), (11, .i .i64 (IntKind.i64.wrap (i + 1)))], []⟩ else K (.exit 0) ⟨mkT 78 [(0, .u8 14#8), (1, .i .i64 w), (2, .u64 a), (9, .i .i64 n), (10, .u64 q), (11, .i .i64 i)], []⟩  := by kernel_rfl
structure Xm14 where
  w : Int
  a : BitVec 64
  n : Int
  q : BitVec 64
  i : Nat
noncomputable abbrev Ym14 (y : Xm14) : St := Sm14 y.w y.a y.n y.q y.i
noncomputable def parsem14 (st : St) : Option (Bool × Xm14) := match st with
  | ⟨t, []⟩ =>
    match t.getD 0 .any, t.getD 1 .any, t.getD 2 .any, t.getD 9 .any, t.getD 10 .any, t.getD 11 .any with
    | .u8 o, .i .i64 w, .u64 a, .i .i64 n, .u64 q, .i .i64 (.ofNat i) => some (decide (t.length = 78 ∧ o = 14#8 ∧ (okW w = true ∧ 0 ≤ n ∧ n < w ∧ i ≤ w.toNat)), ⟨w, a, n, q, i⟩)
    | _, _, _, _, _, _ => none
  | _ => none
def gom14 (y : Xm14) : Bool := decide (y.i < y.w.toNat)
def nextm14 (y : Xm14) : Xm14 := { y with q := y.q ||| movBit 14#8 y.w y.n y.a y.i <<< y.i, i := y.i + 1 }
def Im14 (y : Xm14) : Prop := okW y.w = true ∧ 0 ≤ y.n ∧ y.n < y.w ∧ y.i ≤ y.w.toNat
theorem bodym14 (y : Xm14) (h : Im14 y) (K : Ex → St → Option D) : exec Tryd.prog G0 (tabOf []) (fun _ => []) (fun _ => none) 50 cm14 (Ym14 y) (fun e st => K e (canon keepm14 st)) =
    if gom14 y = true then K .normal (Ym14 (nextm14 y)) else if (fun (_ : Xm14) => false) y = true then K .ret (Ym14 y) else K (.exit 0) (Ym14 y) := by
  obtain ⟨hw, hn0, hn1, hi⟩ := h
  obtain ⟨g1, g2⟩ := okW_rng hw
  refine (nfm14 y.w y.a y.n y.q y.i K).trans ?_
  have ei : (BitVec.ofInt 64 (y.i : Int)).toNat = y.i := ofInt_nat64 (by omega)
  simp only [ei]
  unfold gom14
  by_cases h : y.i < y.w.toNat
  · have h1 : (y.i : Int) < y.w := by omega
    have hwr : IntKind.i64.wrap ((y.i : Int) + 1) = ((y.i + 1 : Nat) : Int) := by rw [wrap_in (by omega) (by omega)]; rfl
    have w2 : IntKind.i64.wrap ((y.i : Int) + y.w) = (y.i : Int) + y.w := wrap_in (by omega) (by omega)
    have w1 : IntKind.i64.wrap ((y.i : Int) + y.w - y.n) = (y.i : Int) + y.w - y.n := wrap_in (by omega) (by omega)
    have hw0 : ¬ y.w = 0 := by omega
    simp only [h, h1, decide_true, if_true, hwr, w1, w2, hw0, if_false]
    refine (leaf3 y.w (((y.i : Int) + y.w - y.n).tmod y.w) (K .normal (Sm14 y.w y.a y.n (y.q ||| (y.a >>> (BitVec.ofInt 64 (((y.i : Int) + y.w - y.n).tmod y.w)).toNat &&& 1#64) <<< y.i) ((y.i + 1 : Nat) : Int))) (K .normal (Sm14 y.w y.a y.n (y.q ||| 0#64 <<< y.i) ((y.i + 1 : Nat) : Int)))).trans ?_
    refine (if_K (fun q => K .normal (Sm14 y.w y.a y.n (y.q ||| q <<< y.i) ((y.i + 1 : Nat) : Int)))).trans ?_
    rw [movBit_if 14#8 y.w y.n y.a y.i (from14 _ _ _) (by omega)]
    rfl
  · have h1 : ¬ (y.i : Int) < y.w := by omega
    simp only [h, h1, decide_false, Bool.false_eq_true, if_false]
    rfl
theorem invm14 (y : Xm14) (h : Im14 y) (hg : gom14 y = true) : Im14 (nextm14 y) := ⟨h.1, h.2.1, h.2.2.1, by have := of_decide_eq_true hg; show y.i + 1 ≤ y.w.toNat; omega⟩
theorem mmm14 (y : Xm14) (h : gom14 y = true) : y.w.toNat - y.i = (nextm14 y).w.toNat - (nextm14 y).i + 1 := by
  have hg := of_decide_eq_true h
  show y.w.toNat - y.i = y.w.toNat - (y.i + 1) + 1
  omega
noncomputable abbrev summ14 : LoopF := sumG keepm14 parsem14 (fun _ => false) .ret (fun y => Ym14 y) (.exit 0) (fun y => Ym14 y) (fun y => iter (gom14) (nextm14) ((fun y => y.w.toNat - y.i) y) y)
theorem semm14 : SemOK Tryd.prog G0 cm14 summ14 := by
  refine SemOK.count (sp := tabOf []) (ann := fun _ => []) (ls := fun _ => none) TableOK.nil mixed 50 LsOK.none Ym14 _ _ (by simp [Ex.out]) _ _ (by simp [Ex.out]) _ keepm14 parsem14 (gom14) (nextm14) Im14 invm14 bodym14 (fun y => y.w.toNat - y.i) mmm14 ?_
  intro st y hx
  unfold parsem14 at hx
  split at hx
  · rename_i t 
    split at hx
    · rename_i o w a n q i h0 h1 h2 h9 h10 h11
      simp only [Option.some.injEq, Prod.mk.injEq, decide_eq_true_eq] at hx
      obtain ⟨⟨g1, rfl, g2⟩, rfl⟩ := hx
      refine ⟨g2, fun w0 L' a w hrel => ?_⟩
      exact Rel.pick hrel g1 fun x hx => by
        simp only [List.mem_cons, List.not_mem_nil, or_false] at hx
        rcases hx with rfl | rfl | rfl | rfl | rfl | rfl
        · exact h0
        · exact h1
        · exact h2
        · exact h9
        · exact h10
        · exact h11
    · cases hx
  · cases hx
noncomputable def lsm14 : Nat → Option LoopF := lsOf [(4, summ14)]
theorem loopsm14 : LsOK Tryd.prog G0 lsm14 (Tryd.f79.body.getD .skip) := by
  refine LsOK.of (of_decide_eq_true (by kernel_rfl)) fun x hx => ?_
  simp only [List.mem_cons, List.not_mem_nil, or_false] at hx
  subst hx
  exact semm14
def Jm14 (s y : Xm14) : Prop := y.w = s.w ∧ y.a = s.a ∧ y.n = s.n ∧ y.i ≤ s.w.toNat ∧ ∀ j, j < 64 → y.q.getLsbD j = (decide (j < y.i) && movB 14#8 s.w s.n j s.a)
theorem finm14 (s : Xm14) (hw : okW s.w = true) (hq : s.q = 0#64) (hi : s.i = 0) (j : Nat) (hj : j < 64) : (iter gom14 nextm14 (s.w.toNat - s.i) s).q.getLsbD j = (decide ((j : Int) < s.w) && movB 14#8 s.w s.n j s.a) := by
  obtain ⟨g1, g2⟩ := okW_rng hw
  have hJ := iter_inv (go := gom14) (next := nextm14) (J := Jm14 s) (fun y ⟨h2, h3, h4, h5, h6⟩ hg => by
    have hg := of_decide_eq_true hg
    rw [h2] at hg
    refine ⟨h2, h3, h4, by show y.i + 1 ≤ _; omega, fun j hj => ?_⟩
    show (y.q ||| movBit 14#8 y.w y.n y.a y.i <<< y.i).getLsbD j = (decide (j < y.i + 1) && _)
    unfold movBit
    rw [or_bit _ _ _ _ (by omega) hj, h6 j hj]
    rcases Nat.lt_trichotomy j y.i with h | h | h
    · have e1 : decide (j < y.i) = true := decide_eq_true h
      have e2 : decide (j = y.i) = false := decide_eq_false (by omega)
      have e3 : decide (j < y.i + 1) = true := decide_eq_true (by omega)
      rw [e1, e2, e3]; simp
    · have e1 : decide (j < y.i) = false := decide_eq_false (by omega)
      have e2 : decide (j = y.i) = true := decide_eq_true h
      have e3 : decide (j < y.i + 1) = true := decide_eq_true (by omega)
      rw [e1, e2, e3, h2, h3, h4, ← h]; simp
    · have e1 : decide (j < y.i) = false := decide_eq_false (by omega)
      have e2 : decide (j = y.i) = false := decide_eq_false (by omega)
      have e3 : decide (j < y.i + 1) = false := decide_eq_false (by omega)
      rw [e1, e2, e3]; simp) (s.w.toNat - s.i) s ⟨rfl, rfl, rfl, by omega, fun j hj => by rw [hq, hi]; simp⟩
  have hs := iter_stop (go := gom14) (next := nextm14) (m := fun y => y.w.toNat - y.i) mmm14 _ s rfl
  revert hJ hs
  generalize iter gom14 nextm14 (s.w.toNat - s.i) s = z
  intro ⟨h2, h3, h4, h5, h6⟩ hs
  have hz : z.i = s.w.toNat := by
    have := of_decide_eq_false hs
    rw [h2] at this
    omega
  rw [h6 j hj, hz]
  congr 1
  rw [Bool.eq_iff_iff, decide_eq_true_eq, decide_eq_true_eq]
  omega
theorem lawm14 (w : Int) (a b : BitVec 64) : execFnL Tryd.prog G0 (tabOf []) (fun _ => []) lsm14 Tryd.f79 50 [.u8 14#8, .i .i64 w, .u64 a, .u64 b] some =
  if BitVec.ofInt 64 w = 0#64 then none else
  if decide (78 = 78 ∧ 14#8 = 14#8 ∧ (okW w = true ∧ 0 ≤ sOfU .i64 (b % BitVec.ofInt 64 w) ∧ sOfU .i64 (b % BitVec.ofInt 64 w) < w ∧ 0 ≤ w.toNat)) = true then some (.u64 (iter gom14 nextm14 (w.toNat - 0) ⟨w, a, sOfU .i64 (b % BitVec.ofInt 64 w), 0#64, 0⟩).q) else none := by kernel_rfl
theorem ptm14 (w : Int) (a b : BitVec 64) (ha : fitF w a = true) : Pt Tryd.prog G0 79 [.u8 14#8, .i .i64 w, .u64 a, .u64 b] (.u64 (movV 14#8 w a (b % BitVec.ofInt 64 w))) := by
  refine (execFnL_sound (ann := fun _ => []) (ls := lsm14) TableOK.nil mixed Tryd.func79 (by kernel_rfl) 50 (fun c hc => by
    have e : c = Tryd.f79.body.getD .skip := by rw [hc]; rfl
    rw [e]; exact loopsm14)).pt ((lawm14 w a b).trans ?_)
  have hw := (fitF_nat ha).1
  obtain ⟨g1, g2⟩ := okW_rng hw
  have hm := modW hw b
  have hs : sOfU .i64 (b % BitVec.ofInt 64 w) = ((b % BitVec.ofInt 64 w).toNat : Int) := by
    rw [sOfU64, toInt64, if_pos (by omega)]
  rw [if_neg (ofW_ne hw), hs, if_pos (by rw [decide_eq_true_eq]; exact ⟨rfl, rfl, hw, by omega, by omega, by omega⟩)]
  refine congrArg (fun x => some (D.u64 x)) (bits_of fun j hj => ?_)
  rw [mov_bit ha hm (by simp) hj]
  exact finm14 ⟨w, a, ((b % BitVec.ofInt 64 w).toNat : Int), 0#64, 0⟩ hw rfl rfl j hj
noncomputable def cm15 : Code := findLoop (loops (Tryd.f79.body.getD .skip)) 4
noncomputable abbrev keepm15 : List Nat := [0, 1, 2, 9, 10, 11]
noncomputable def Sm15 (w : Int) (a : BitVec 64) (n : Int) (q : BitVec 64) (i : Int) : St := ⟨mkT 78 [(0, .u8 15#8), (1, .i .i64 w), (2, .u64 a), (9, .i .i64 n), (10, .u64 q), (11, .i .i64 i)], []⟩
theorem nfm15 (w : Int) (a : BitVec 64) (n : Int) (q : BitVec 64) (i : Int) (K : Ex → St → Option D) : exec Tryd.prog G0 (tabOf []) (fun _ => []) (fun _ => none) 50 cm15 (Sm15 w a n q i) (fun e st => K e (canon keepm15 st)) =
  if decide (i < w) = true then if w = 0 then none else if decide (w ≤ (IntKind.i64.wrap (i + n)).tmod w) = true then if decide (0 ≤ (IntKind.i64.wrap (i + n)).tmod w) = true then if decide ((IntKind.i64.wrap (i + n)).tmod w < w) = true then K .normal ⟨mkT 78 [(0, .u8 15#8), (1, .i .i64 w), (2, .u64 a), (9, .i .i64 n), (10, .u64 (q ||| (a >>> (BitVec.ofInt 64 ((IntKind.i64.wrap (i + n)).tmod w)).toNat &&& 1#64) <<< (BitVec.ofInt 64 i).toNat)), (11, .i .i64 (IntKind.i64.wrap (i + 1)))], []⟩ else K .normal ⟨mkT 78 [(0, .u8 15#8), (1, .i .i64 w), (2, .u64 a), (9, .i .i64 n), (10, .u64 (q ||| 0#64 <<< (BitVec.ofInt 64 i).toNat)), (11, .i .i64 (IntKind.i64.wrap (i + 1)))], []⟩ else K .normal ⟨mkT 78 [(0, .u8 15#8), (1, .i .i64 w), (2, .u64 a), (9, .i .i64 n), (10, .u64 (q ||| 0#64 <<< (BitVec.ofInt 64 i).toNat)), (11, .i .i64 (IntKind.i64.wrap (i + 1)))], []⟩ else if decide (0 ≤ (IntKind.i64.wrap (i + n)).tmod w) = true then if decide ((IntKind.i64.wrap (i + n)).tmod w < w) = true then K .normal ⟨mkT 78 [(0, .u8 15#8), (1, .i .i64 w), (2, .u64 a), (9, .i .i64 n), (10, .u64 (q ||| (a >>> (BitVec.ofInt 64 ((IntKind.i64.wrap (i + n)).tmod w)).toNat &&& 1#64) <<< (BitVec.ofInt 64 i).toNat)), (11, .i .i64 (IntKind.i64.wrap (i + 1)))], []⟩ else K .normal ⟨mkT 78 [(0, .u8 15#8), (1, .i .i64 w), (2, .u64 a), (9, .i .i64 n), (10, .u64 (q ||| 0#64 <<< (BitVec.ofInt 64 i).toNat)), (11, .i .i64 (IntKind.i64.wrap (i + 1)))], []⟩ else K .normal ⟨mkT 78 [(0, .u8 15#8), (1, .i .i64 w), (2, .u64 a), (9, .i .i64 n), (10, .u64 (q ||| 0#64 <<< (BitVec.ofInt 64 i).toNat)), (11, .i .i64 (IntKind.i64.wrap (i + 1)))], []⟩ else K (.exit 0) ⟨mkT 78 [(0, .u8 15#8), (1, .i .i64 w), (2, .u64 a), (9, .i .i64 n), (10, .u64 q), (11, .i .i64 i)], []⟩  := by kernel_rfl
structure Xm15 where
  w : Int
  a : BitVec 64
  n : Int
  q : BitVec 64
  i : Nat
noncomputable abbrev Ym15 (y : Xm15) : St := Sm15 y.w y.a y.n y.q y.i
noncomputable def parsem15 (st : St) : Option (Bool × Xm15) := match st with
  | ⟨t, []⟩ =>
    match t.getD 0 .any, t.getD 1 .any, t.getD 2 .any, t.getD 9 .any, t.getD 10 .any, t.getD 11 .any with
    | .u8 o, .i .i64 w, .u64 a, .i .i64 n, .u64 q, .i .i64 (.ofNat i) => some (decide (t.length = 78 ∧ o = 15#8 ∧ (okW w = true ∧ 0 ≤ n ∧ n < w ∧ i ≤ w.toNat)), ⟨w, a, n, q, i⟩)
    | _, _, _, _, _, _ => none
  | _ => none
def gom15 (y : Xm15) : Bool := decide (y.i < y.w.toNat)
def nextm15 (y : Xm15) : Xm15 := { y with q := y.q ||| movBit 15#8 y.w y.n y.a y.i <<< y.i, i := y.i + 1 }
def Im15 (y : Xm15) : Prop := okW y.w = true ∧ 0 ≤ y.n ∧ y.n < y.w ∧ y.i ≤ y.w.toNat
theorem bodym15 (y : Xm15) (h : Im15 y) (K : Ex → St → Option D) : exec Tryd.prog G0 (tabOf []) (fun _ => []) (fun _ => none) 50 cm15 (Ym15 y) (fun e st => K e (canon keepm15 st)) =
    if gom15 y = true then K .normal (Ym15 (nextm15 y)) else if (fun (_ : Xm15) => false) y = true then K .ret (Ym15 y) else K (.exit 0) (Ym15 y) := by
  obtain ⟨hw, hn0, hn1, hi⟩ := h
  obtain ⟨g1, g2⟩ := okW_rng hw
  refine (nfm15 y.w y.a y.n y.q y.i K).trans ?_
  have ei : (BitVec.ofInt 64 (y.i : Int)).toNat = y.i := ofInt_nat64 (by omega)
  simp only [ei]
  unfold gom15
  by_cases h : y.i < y.w.toNat
  · have h1 : (y.i : Int) < y.w := by omega
    have hwr : IntKind.i64.wrap ((y.i : Int) + 1) = ((y.i + 1 : Nat) : Int) := by rw [wrap_in (by omega) (by omega)]; rfl
    have w1 : IntKind.i64.wrap ((y.i : Int) + y.n) = (y.i : Int) + y.n := wrap_in (by omega) (by omega)
    have hw0 : ¬ y.w = 0 := by omega
    simp only [h, h1, decide_true, if_true, hwr, w1, hw0, if_false]
    refine (leaf3 y.w (((y.i : Int) + y.n).tmod y.w) (K .normal (Sm15 y.w y.a y.n (y.q ||| (y.a >>> (BitVec.ofInt 64 (((y.i : Int) + y.n).tmod y.w)).toNat &&& 1#64) <<< y.i) ((y.i + 1 : Nat) : Int))) (K .normal (Sm15 y.w y.a y.n (y.q ||| 0#64 <<< y.i) ((y.i + 1 : Nat) : Int)))).trans ?_
    refine (if_K (fun q => K .normal (Sm15 y.w y.a y.n (y.q ||| q <<< y.i) ((y.i + 1 : Nat) : Int)))).trans ?_
    rw [movBit_if 15#8 y.w y.n y.a y.i (from15 _ _ _) (by omega)]
    rfl
  · have h1 : ¬ (y.i : Int) < y.w := by omega
    simp only [h, h1, decide_false, Bool.false_eq_true, if_false]
    rfl
theorem invm15 (y : Xm15) (h : Im15 y) (hg : gom15 y = true) : Im15 (nextm15 y) := ⟨h.1, h.2.1, h.2.2.1, by have := of_decide_eq_true hg; show y.i + 1 ≤ y.w.toNat; omega⟩
theorem mmm15 (y : Xm15) (h : gom15 y = true) : y.w.toNat - y.i = (nextm15 y).w.toNat - (nextm15 y).i + 1 := by
  have hg := of_decide_eq_true h
  show y.w.toNat - y.i = y.w.toNat - (y.i + 1) + 1
  omega
noncomputable abbrev summ15 : LoopF := sumG keepm15 parsem15 (fun _ => false) .ret (fun y => Ym15 y) (.exit 0) (fun y => Ym15 y) (fun y => iter (gom15) (nextm15) ((fun y => y.w.toNat - y.i) y) y)
theorem semm15 : SemOK Tryd.prog G0 cm15 summ15 := by
  refine SemOK.count (sp := tabOf []) (ann := fun _ => []) (ls := fun _ => none) TableOK.nil mixed 50 LsOK.none Ym15 _ _ (by simp [Ex.out]) _ _ (by simp [Ex.out]) _ keepm15 parsem15 (gom15) (nextm15) Im15 invm15 bodym15 (fun y => y.w.toNat - y.i) mmm15 ?_
  intro st y hx
  unfold parsem15 at hx
  split at hx
  · rename_i t 
    split at hx
    · rename_i o w a n q i h0 h1 h2 h9 h10 h11
      simp only [Option.some.injEq, Prod.mk.injEq, decide_eq_true_eq] at hx
      obtain ⟨⟨g1, rfl, g2⟩, rfl⟩ := hx
      refine ⟨g2, fun w0 L' a w hrel => ?_⟩
      exact Rel.pick hrel g1 fun x hx => by
        simp only [List.mem_cons, List.not_mem_nil, or_false] at hx
        rcases hx with rfl | rfl | rfl | rfl | rfl | rfl
        · exact h0
        · exact h1
        · exact h2
        · exact h9
        · exact h10
        · exact h11
    · cases hx
  · cases hx
noncomputable def lsm15 : Nat → Option LoopF := lsOf [(4, summ15)]
theorem loopsm15 : LsOK Tryd.prog G0 lsm15 (Tryd.f79.body.getD .skip) := by
  refine LsOK.of (of_decide_eq_true (by kernel_rfl)) fun x hx => ?_
  simp only [List.mem_cons, List.not_mem_nil, or_false] at hx
  subst hx
  exact semm15
def Jm15 (s y : Xm15) : Prop := y.w = s.w ∧ y.a = s.a ∧ y.n = s.n ∧ y.i ≤ s.w.toNat ∧ ∀ j, j < 64 → y.q.getLsbD j = (decide (j < y.i) && movB 15#8 s.w s.n j s.a)
theorem finm15 (s : Xm15) (hw : okW s.w = true) (hq : s.q = 0#64) (hi : s.i = 0) (j : Nat) (hj : j < 64) : (iter gom15 nextm15 (s.w.toNat - s.i) s).q.getLsbD j = (decide ((j : Int) < s.w) && movB 15#8 s.w s.n j s.a) := by
  obtain ⟨g1, g2⟩ := okW_rng hw
  have hJ := iter_inv (go := gom15) (next := nextm15) (J := Jm15 s) (fun y ⟨h2, h3, h4, h5, h6⟩ hg => by
    have hg := of_decide_eq_true hg
    rw [h2] at hg
    refine ⟨h2, h3, h4, by show y.i + 1 ≤ _; omega, fun j hj => ?_⟩
    show (y.q ||| movBit 15#8 y.w y.n y.a y.i <<< y.i).getLsbD j = (decide (j < y.i + 1) && _)
    unfold movBit
    rw [or_bit _ _ _ _ (by omega) hj, h6 j hj]
    rcases Nat.lt_trichotomy j y.i with h | h | h
    · have e1 : decide (j < y.i) = true := decide_eq_true h
      have e2 : decide (j = y.i) = false := decide_eq_false (by omega)
      have e3 : decide (j < y.i + 1) = true := decide_eq_true (by omega)
      rw [e1, e2, e3]; simp
    · have e1 : decide (j < y.i) = false := decide_eq_false (by omega)
      have e2 : decide (j = y.i) = true := decide_eq_true h
      have e3 : decide (j < y.i + 1) = true := decide_eq_true (by omega)
      rw [e1, e2, e3, h2, h3, h4, ← h]; simp
    · have e1 : decide (j < y.i) = false := decide_eq_false (by omega)
      have e2 : decide (j = y.i) = false := decide_eq_false (by omega)
      have e3 : decide (j < y.i + 1) = false := decide_eq_false (by omega)
      rw [e1, e2, e3]; simp) (s.w.toNat - s.i) s ⟨rfl, rfl, rfl, by omega, fun j hj => by rw [hq, hi]; simp⟩
  have hs := iter_stop (go := gom15) (next := nextm15) (m := fun y => y.w.toNat - y.i) mmm15 _ s rfl
  revert hJ hs
  generalize iter gom15 nextm15 (s.w.toNat - s.i) s = z
  intro ⟨h2, h3, h4, h5, h6⟩ hs
  have hz : z.i = s.w.toNat := by
    have := of_decide_eq_false hs
    rw [h2] at this
    omega
  rw [h6 j hj, hz]
  congr 1
  rw [Bool.eq_iff_iff, decide_eq_true_eq, decide_eq_true_eq]
  omega
theorem lawm15 (w : Int) (a b : BitVec 64) : execFnL Tryd.prog G0 (tabOf []) (fun _ => []) lsm15 Tryd.f79 50 [.u8 15#8, .i .i64 w, .u64 a, .u64 b] some =
  if BitVec.ofInt 64 w = 0#64 then none else
  if decide (78 = 78 ∧ 15#8 = 15#8 ∧ (okW w = true ∧ 0 ≤ sOfU .i64 (b % BitVec.ofInt 64 w) ∧ sOfU .i64 (b % BitVec.ofInt 64 w) < w ∧ 0 ≤ w.toNat)) = true then some (.u64 (iter gom15 nextm15 (w.toNat - 0) ⟨w, a, sOfU .i64 (b % BitVec.ofInt 64 w), 0#64, 0⟩).q) else none := by kernel_rfl
theorem ptm15 (w : Int) (a b : BitVec 64) (ha : fitF w a = true) : Pt Tryd.prog G0 79 [.u8 15#8, .i .i64 w, .u64 a, .u64 b] (.u64 (movV 15#8 w a (b % BitVec.ofInt 64 w))) := by
  refine (execFnL_sound (ann := fun _ => []) (ls := lsm15) TableOK.nil mixed Tryd.func79 (by kernel_rfl) 50 (fun c hc => by
    have e : c = Tryd.f79.body.getD .skip := by rw [hc]; rfl
    rw [e]; exact loopsm15)).pt ((lawm15 w a b).trans ?_)
  have hw := (fitF_nat ha).1
  obtain ⟨g1, g2⟩ := okW_rng hw
  have hm := modW hw b
  have hs : sOfU .i64 (b % BitVec.ofInt 64 w) = ((b % BitVec.ofInt 64 w).toNat : Int) := by
    rw [sOfU64, toInt64, if_pos (by omega)]
  rw [if_neg (ofW_ne hw), hs, if_pos (by rw [decide_eq_true_eq]; exact ⟨rfl, rfl, hw, by omega, by omega, by omega⟩)]
  refine congrArg (fun x => some (D.u64 x)) (bits_of fun j hj => ?_)
  rw [mov_bit ha hm (by simp) hj]
  exact finm15 ⟨w, a, ((b % BitVec.ofInt 64 w).toNat : Int), 0#64, 0⟩ hw rfl rfl j hj
noncomputable def movedS : Ev.Spec := guarded fun | [.u8 o, .i .i64 w, .u64 a, .u64 b] => some (fitF w a && decide (o = 11#8 ∨ o = 12#8 ∨ o = 13#8 ∨ o = 14#8 ∨ o = 15#8), .u64 (movV o w a (b % BitVec.ofInt 64 w))) | _ => none
theorem t_rmoved : Snd 79 movedS := by
  refine Sound.of_ptG fun ds d h => ?_
  split at h
  · rename_i o w a b
    simp only [Option.some.injEq, Prod.mk.injEq, Bool.and_eq_true, decide_eq_true_eq] at h
    obtain ⟨⟨h1, h2⟩, rfl⟩ := h
    rcases h2 with rfl | rfl | rfl | rfl | rfl
    · exact ptm11 w a b h1
    · exact ptm12 w a b h1
    · exact ptm13 w a b h1
    · exact ptm14 w a b h1
    · exact ptm15 w a b h1
  · cases h
end Go.L07
