/-
  Part of the proof; what its functions and lemmas say stands in the text.
-/
import Derived.Test.YtlicpmhlphhabaaDoorS07D
set_option linter.unusedSimpArgs false
set_option linter.unusedVariables false
/-!
Whole numbers: the reference's operators of one.
-/
namespace Go.L07
open Go.Ev Go.Proofs Go.RowKit Go.Wh

theorem bit_zero (a : BitVec 64) (k : Nat) : (a >>> k &&& 1#64 == 0#64) = !a.getLsbD k := by
  rw [bit_and]
  cases a.getLsbD k <;> decide
noncomputable def clz : Code := findLoop (loops (Tryd.f60.body.getD .skip)) 7
noncomputable abbrev keeplz : List Nat := [2, 8, 9]
noncomputable def Slz (a : BitVec 64) (n : BitVec 64) (i : Int) : St := ⟨mkT 106 [(2, .u64 a), (8, .u64 n), (9, .i .i64 i)], []⟩
theorem nflz (a : BitVec 64) (n : BitVec 64) (i : Int) (K : Ex → St → Option D) : exec Tryd.prog G0 (tabOf []) (fun _ => []) (fun _ => none) 50 clz (Slz a n i) (fun e st => K e (canon keeplz st)) =
  if decide (0 ≤ i) = true then if (a >>> (BitVec.ofInt 64 i).toNat &&& 1#64 == 0#64) = true then K .normal ⟨mkT 106 [(2, .u64 a), (8, .u64 (n + 1#64)), (9, .i .i64 (IntKind.i64.wrap (i - 1)))], []⟩ else K (.exit 1) ⟨mkT 106 [(2, .u64 a), (8, .u64 n), (9, .i .i64 i)], []⟩ else K (.exit 1) ⟨mkT 106 [(2, .u64 a), (8, .u64 n), (9, .i .i64 i)], []⟩  := by kernel_rfl
structure Xlz where
  a : BitVec 64
  n : BitVec 64
  i : Int
noncomputable abbrev Ylz (y : Xlz) : St := Slz y.a y.n y.i
noncomputable def parselz (st : St) : Option (Bool × Xlz) := match st with
  | ⟨t, []⟩ =>
    match t.getD 2 .any, t.getD 8 .any, t.getD 9 .any with
    | .u64 a, .u64 n, .i .i64 i => some (decide (t.length = 106 ∧ (-1 ≤ i ∧ i ≤ 63)), ⟨a, n, i⟩)
    | _, _, _ => none
  | _ => none
def golz (y : Xlz) : Bool := decide (0 ≤ y.i) && !y.a.getLsbD y.i.toNat
def nextlz (y : Xlz) : Xlz := { y with n := y.n + 1#64, i := y.i - 1 }
def Ilz (y : Xlz) : Prop := -1 ≤ y.i ∧ y.i ≤ 63
theorem bodylz (y : Xlz) (h : Ilz y) (K : Ex → St → Option D) : exec Tryd.prog G0 (tabOf []) (fun _ => []) (fun _ => none) 50 clz (Ylz y) (fun e st => K e (canon keeplz st)) =
    if golz y = true then K .normal (Ylz (nextlz y)) else if (fun (_ : Xlz) => false) y = true then K .ret (Ylz y) else K (.exit 1) (Ylz y) := by
  obtain ⟨h1, h2⟩ := h
  refine (nflz y.a y.n y.i K).trans ?_
  unfold golz
  by_cases h0 : 0 ≤ y.i
  · have ei : (BitVec.ofInt 64 y.i).toNat = y.i.toNat := ofInt_toNat h0 (by omega)
    have hw : IntKind.i64.wrap (y.i - 1) = y.i - 1 := wrap_in (by omega) (by omega)
    simp only [ei, bit_zero, h0, hw, decide_true, if_true, Bool.true_and]
    cases y.a.getLsbD y.i.toNat <;> rfl
  · simp only [h0, decide_false, Bool.false_and, Bool.false_eq_true, if_false]
    rfl
theorem invlz (y : Xlz) (h : Ilz y) (hg : golz y = true) : Ilz (nextlz y) := by
  simp only [golz, Bool.and_eq_true, decide_eq_true_eq] at hg
  exact ⟨by show -1 ≤ y.i - 1; omega, by show y.i - 1 ≤ 63; have := h.2; omega⟩
theorem mlz (y : Xlz) (hg : golz y = true) : (y.i + 1).toNat = ((nextlz y).i + 1).toNat + 1 := by
  simp only [golz, Bool.and_eq_true, decide_eq_true_eq] at hg
  show (y.i + 1).toNat = (y.i - 1 + 1).toNat + 1
  omega
noncomputable abbrev sumlz : LoopF := sumG keeplz parselz (fun _ => false) .ret (fun y => Ylz y) (.exit 1) (fun y => Ylz y) (fun y => iter (golz) (nextlz) ((fun y => (y.i + 1).toNat) y) y)
theorem semlz : SemOK Tryd.prog G0 clz sumlz := by
  refine SemOK.count (sp := tabOf []) (ann := fun _ => []) (ls := fun _ => none) TableOK.nil mixed 50 LsOK.none Ylz _ _ (by simp [Ex.out]) _ _ (by simp [Ex.out]) _ keeplz parselz (golz) (nextlz) Ilz invlz bodylz (fun y => (y.i + 1).toNat) mlz ?_
  intro st y hx
  unfold parselz at hx
  split at hx
  · rename_i t 
    split at hx
    · rename_i a n i h2 h8 h9
      simp only [Option.some.injEq, Prod.mk.injEq, decide_eq_true_eq] at hx
      obtain ⟨⟨g1, g2⟩, rfl⟩ := hx
      refine ⟨g2, fun w0 L' a w hrel => ?_⟩
      exact Rel.pick hrel g1 fun x hx => by
        simp only [List.mem_cons, List.not_mem_nil, or_false] at hx
        rcases hx with rfl | rfl | rfl
        · exact h2
        · exact h8
        · exact h9
    · cases hx
  · cases hx
def Jlz (a : BitVec 64) (w : Int) (y : Xlz) : Prop := y.a = a ∧ -1 ≤ y.i ∧ y.i < w ∧ (y.n.toNat : Int) = w - 1 - y.i ∧ ∀ j : Nat, y.i < (j : Int) → a.getLsbD j = false
theorem finlz {a : BitVec 64} {w : Int} (h : fitF w a = true) : (iter golz nextlz ((w - 1 + 1).toNat) ⟨a, 0#64, w - 1⟩).n = BitVec.ofInt 64 (w - lenF a.toNat) := by
  have hw := (fitF_nat h).1
  obtain ⟨g1, g2⟩ := okW_rng hw
  have hJ := iter_inv (go := golz) (next := nextlz) (J := Jlz a w) (fun y ⟨h1, h2, h3, h4, h5⟩ hg => by
    simp only [golz, Bool.and_eq_true, decide_eq_true_eq, Bool.not_eq_true'] at hg
    obtain ⟨k1, k2⟩ := hg
    refine ⟨h1, by show -1 ≤ y.i - 1; omega, by show y.i - 1 < w; omega, ?_, fun j hj => ?_⟩
    · show ((y.n + 1#64).toNat : Int) = w - 1 - (y.i - 1)
      rw [add_int]
      have z : ((1#64).toNat : Int) = 1 := rfl
      rw [z]
      omega
    · have hj' : y.i - 1 < (j : Int) := hj
      rcases (show y.i < (j : Int) ∨ (j : Int) = y.i by omega) with h6 | h6
      · exact h5 j h6
      · have : y.i.toNat = j := by omega
        rw [this, h1] at k2
        exact k2) ((w - 1 + 1).toNat) ⟨a, 0#64, w - 1⟩ ⟨rfl, by show -1 ≤ w - 1; omega, by show w - 1 < w; omega, by show ((0#64).toNat : Int) = w - 1 - (w - 1); simp, fun j hj => fit_bit h (by have : w - 1 < (j : Int) := hj; omega)⟩
  have hs := iter_stop (go := golz) (next := nextlz) (m := fun y => (y.i + 1).toNat) mlz ((w - 1 + 1).toNat) ⟨a, 0#64, w - 1⟩ rfl
  revert hJ hs
  generalize iter golz nextlz ((w - 1 + 1).toNat) ⟨a, 0#64, w - 1⟩ = z
  intro ⟨h1, h2, h3, h4, h5⟩ hs
  have hl : lenF a.toNat = (z.i + 1).toNat := len_bits (fun j hj => h5 j (by omega)) fun i hi => by
    simp only [golz] at hs
    have h0 : 0 ≤ z.i := by omega
    rw [decide_eq_true h0, Bool.true_and, h1] at hs
    have : z.i.toNat = i := by omega
    rw [this] at hs
    simpa using hs
  refine eq_nat ?_
  rw [h4, hl, ofInt_nat (by omega) (by omega)]
  omega
noncomputable def ctz : Code := findLoop (loops (Tryd.f60.body.getD .skip)) 13
noncomputable abbrev keeptz : List Nat := [1, 2, 8, 10]
noncomputable def Stz (w : Int) (a : BitVec 64) (n : BitVec 64) (i : Int) : St := ⟨mkT 106 [(1, .i .i64 w), (2, .u64 a), (8, .u64 n), (10, .i .i64 i)], []⟩
theorem nftz (w : Int) (a : BitVec 64) (n : BitVec 64) (i : Int) (K : Ex → St → Option D) : exec Tryd.prog G0 (tabOf []) (fun _ => []) (fun _ => none) 50 ctz (Stz w a n i) (fun e st => K e (canon keeptz st)) =
  if decide (i < w) = true then if (a >>> (BitVec.ofInt 64 i).toNat &&& 1#64 == 0#64) = true then K .normal ⟨mkT 106 [(1, .i .i64 w), (2, .u64 a), (8, .u64 (n + 1#64)), (10, .i .i64 (IntKind.i64.wrap (i + 1)))], []⟩ else K (.exit 3) ⟨mkT 106 [(1, .i .i64 w), (2, .u64 a), (8, .u64 n), (10, .i .i64 i)], []⟩ else K (.exit 3) ⟨mkT 106 [(1, .i .i64 w), (2, .u64 a), (8, .u64 n), (10, .i .i64 i)], []⟩  := by kernel_rfl
structure Xtz where
  w : Int
  a : BitVec 64
  n : BitVec 64
  i : Nat
noncomputable abbrev Ytz (y : Xtz) : St := Stz y.w y.a y.n y.i
noncomputable def parsetz (st : St) : Option (Bool × Xtz) := match st with
  | ⟨t, []⟩ =>
    match t.getD 1 .any, t.getD 2 .any, t.getD 8 .any, t.getD 10 .any with
    | .i .i64 w, .u64 a, .u64 n, .i .i64 (.ofNat i) => some (decide (t.length = 106 ∧ (okW w = true ∧ i ≤ w.toNat)), ⟨w, a, n, i⟩)
    | _, _, _, _ => none
  | _ => none
def gotz (y : Xtz) : Bool := decide (y.i < y.w.toNat) && !y.a.getLsbD y.i
def nexttz (y : Xtz) : Xtz := { y with n := y.n + 1#64, i := y.i + 1 }
def Itz (y : Xtz) : Prop := okW y.w = true ∧ y.i ≤ y.w.toNat
theorem bodytz (y : Xtz) (h : Itz y) (K : Ex → St → Option D) : exec Tryd.prog G0 (tabOf []) (fun _ => []) (fun _ => none) 50 ctz (Ytz y) (fun e st => K e (canon keeptz st)) =
    if gotz y = true then K .normal (Ytz (nexttz y)) else if (fun (_ : Xtz) => false) y = true then K .ret (Ytz y) else K (.exit 3) (Ytz y) := by
  obtain ⟨hw, hi⟩ := h
  obtain ⟨g1, g2⟩ := okW_rng hw
  refine (nftz y.w y.a y.n y.i K).trans ?_
  have ei : (BitVec.ofInt 64 (y.i : Int)).toNat = y.i := ofInt_nat64 (by omega)
  unfold gotz
  by_cases h0 : y.i < y.w.toNat
  · have h1 : (y.i : Int) < y.w := by omega
    have hwr : IntKind.i64.wrap ((y.i : Int) + 1) = ((y.i + 1 : Nat) : Int) := by rw [wrap_in (by omega) (by omega)]; rfl
    simp only [ei, bit_zero, h0, h1, hwr, decide_true, if_true, Bool.true_and]
    cases y.a.getLsbD y.i <;> rfl
  · have h1 : ¬ (y.i : Int) < y.w := by omega
    simp only [h0, h1, decide_false, Bool.false_and, Bool.false_eq_true, if_false]
    rfl
theorem invtz (y : Xtz) (h : Itz y) (hg : gotz y = true) : Itz (nexttz y) := by
  simp only [gotz, Bool.and_eq_true, decide_eq_true_eq] at hg
  exact ⟨h.1, by show y.i + 1 ≤ y.w.toNat; omega⟩
theorem mtz (y : Xtz) (hg : gotz y = true) : y.w.toNat - y.i = (nexttz y).w.toNat - (nexttz y).i + 1 := by
  simp only [gotz, Bool.and_eq_true, decide_eq_true_eq] at hg
  show y.w.toNat - y.i = y.w.toNat - (y.i + 1) + 1
  omega
noncomputable abbrev sumtz : LoopF := sumG keeptz parsetz (fun _ => false) .ret (fun y => Ytz y) (.exit 3) (fun y => Ytz y) (fun y => iter (gotz) (nexttz) ((fun y => y.w.toNat - y.i) y) y)
theorem semtz : SemOK Tryd.prog G0 ctz sumtz := by
  refine SemOK.count (sp := tabOf []) (ann := fun _ => []) (ls := fun _ => none) TableOK.nil mixed 50 LsOK.none Ytz _ _ (by simp [Ex.out]) _ _ (by simp [Ex.out]) _ keeptz parsetz (gotz) (nexttz) Itz invtz bodytz (fun y => y.w.toNat - y.i) mtz ?_
  intro st y hx
  unfold parsetz at hx
  split at hx
  · rename_i t 
    split at hx
    · rename_i w a n i h1 h2 h8 h10
      simp only [Option.some.injEq, Prod.mk.injEq, decide_eq_true_eq] at hx
      obtain ⟨⟨g1, g2⟩, rfl⟩ := hx
      refine ⟨g2, fun w0 L' a w hrel => ?_⟩
      exact Rel.pick hrel g1 fun x hx => by
        simp only [List.mem_cons, List.not_mem_nil, or_false] at hx
        rcases hx with rfl | rfl | rfl | rfl
        · exact h1
        · exact h2
        · exact h8
        · exact h10
    · cases hx
  · cases hx
def Jtz (a : BitVec 64) (w : Int) (y : Xtz) : Prop := y.w = w ∧ y.a = a ∧ (y.i : Int) ≤ w ∧ y.n.toNat = y.i ∧ ∀ j, j < y.i → a.getLsbD j = false
theorem fintz {a : BitVec 64} {w : Int} (h : fitF w a = true) : (iter gotz nexttz (w.toNat - 0) ⟨w, a, 0#64, 0⟩).n = BitVec.ofInt 64 (min (tzF a) w) := by
  have hw := (fitF_nat h).1
  obtain ⟨g1, g2⟩ := okW_rng hw
  have hJ := iter_inv (go := gotz) (next := nexttz) (J := Jtz a w) (fun y ⟨h1, h2, h3, h4, h5⟩ hg => by
    simp only [gotz, Bool.and_eq_true, decide_eq_true_eq, Bool.not_eq_true'] at hg
    obtain ⟨k1, k2⟩ := hg
    rw [h1] at k1
    rw [h2] at k2
    refine ⟨h1, h2, by show ((y.i + 1 : Nat) : Int) ≤ w; omega, ?_, fun j hj => ?_⟩
    · show (y.n + 1#64).toNat = y.i + 1
      have e := add_int y.n 1#64
      have z : ((1#64).toNat : Int) = 1 := rfl
      rw [z] at e
      omega
    · have hj' : j < y.i + 1 := hj
      rcases (show j < y.i ∨ j = y.i by omega) with h6 | h6
      · exact h5 j h6
      · rw [h6]; exact k2) (w.toNat - 0) ⟨w, a, 0#64, 0⟩ ⟨rfl, rfl, by show (0 : Int) ≤ w; omega, rfl, fun j hj => by cases hj⟩
  have hs := iter_stop (go := gotz) (next := nexttz) (m := fun y => y.w.toNat - y.i) mtz (w.toNat - 0) ⟨w, a, 0#64, 0⟩ rfl
  revert hJ hs
  generalize iter gotz nexttz (w.toNat - 0) ⟨w, a, 0#64, 0⟩ = z
  intro ⟨h1, h2, h3, h4, h5⟩ hs
  have hm := ctz_min h h3 h5 (by
    simp only [gotz, h1, h2] at hs
    by_cases h6 : z.i < w.toNat
    · rw [decide_eq_true h6, Bool.true_and] at hs
      exact .inr (by simpa using hs)
    · exact .inl (by omega))
  refine eq_nat ?_
  rw [hm, h4, ofInt_nat (by omega) (by omega)]
noncomputable def cpc : Code := findLoop (loops (Tryd.f60.body.getD .skip)) 19
noncomputable abbrev keeppc : List Nat := [1, 2, 8, 11]
noncomputable def Spc (w : Int) (a : BitVec 64) (n : BitVec 64) (i : Int) : St := ⟨mkT 106 [(1, .i .i64 w), (2, .u64 a), (8, .u64 n), (11, .i .i64 i)], []⟩
theorem nfpc (w : Int) (a : BitVec 64) (n : BitVec 64) (i : Int) (K : Ex → St → Option D) : exec Tryd.prog G0 (tabOf []) (fun _ => []) (fun _ => none) 50 cpc (Spc w a n i) (fun e st => K e (canon keeppc st)) =
  if decide (i < w) = true then K .normal ⟨mkT 106 [(1, .i .i64 w), (2, .u64 a), (8, .u64 (n + (a >>> (BitVec.ofInt 64 i).toNat &&& 1#64))), (11, .i .i64 (IntKind.i64.wrap (i + 1)))], []⟩ else K (.exit 5) ⟨mkT 106 [(1, .i .i64 w), (2, .u64 a), (8, .u64 n), (11, .i .i64 i)], []⟩  := by kernel_rfl
structure Xpc where
  w : Int
  a : BitVec 64
  n : BitVec 64
  i : Nat
noncomputable abbrev Ypc (y : Xpc) : St := Spc y.w y.a y.n y.i
noncomputable def parsepc (st : St) : Option (Bool × Xpc) := match st with
  | ⟨t, []⟩ =>
    match t.getD 1 .any, t.getD 2 .any, t.getD 8 .any, t.getD 11 .any with
    | .i .i64 w, .u64 a, .u64 n, .i .i64 (.ofNat i) => some (decide (t.length = 106 ∧ (okW w = true ∧ i ≤ w.toNat)), ⟨w, a, n, i⟩)
    | _, _, _, _ => none
  | _ => none
def gopc (y : Xpc) : Bool := decide (y.i < y.w.toNat)
def nextpc (y : Xpc) : Xpc := { y with n := y.n + (y.a >>> y.i &&& 1#64), i := y.i + 1 }
def Ipc (y : Xpc) : Prop := okW y.w = true ∧ y.i ≤ y.w.toNat
theorem bodypc (y : Xpc) (h : Ipc y) (K : Ex → St → Option D) : exec Tryd.prog G0 (tabOf []) (fun _ => []) (fun _ => none) 50 cpc (Ypc y) (fun e st => K e (canon keeppc st)) =
    if gopc y = true then K .normal (Ypc (nextpc y)) else if (fun (_ : Xpc) => false) y = true then K .ret (Ypc y) else K (.exit 5) (Ypc y) := by
  obtain ⟨hw, hi⟩ := h
  obtain ⟨g1, g2⟩ := okW_rng hw
  refine (nfpc y.w y.a y.n y.i K).trans ?_
  have ei : (BitVec.ofInt 64 (y.i : Int)).toNat = y.i := ofInt_nat64 (by omega)
  unfold gopc
  by_cases h0 : y.i < y.w.toNat
  · have h1 : (y.i : Int) < y.w := by omega
    have hwr : IntKind.i64.wrap ((y.i : Int) + 1) = ((y.i + 1 : Nat) : Int) := by rw [wrap_in (by omega) (by omega)]; rfl
    simp only [ei, h0, h1, hwr, decide_true, if_true]
    rfl
  · have h1 : ¬ (y.i : Int) < y.w := by omega
    simp only [h0, h1, decide_false, Bool.false_eq_true, if_false]
    rfl
theorem invpc (y : Xpc) (h : Ipc y) (hg : gopc y = true) : Ipc (nextpc y) := by
  have hg := of_decide_eq_true hg
  exact ⟨h.1, by show y.i + 1 ≤ y.w.toNat; omega⟩
theorem mpc (y : Xpc) (hg : gopc y = true) : y.w.toNat - y.i = (nextpc y).w.toNat - (nextpc y).i + 1 := by
  have hg := of_decide_eq_true hg
  show y.w.toNat - y.i = y.w.toNat - (y.i + 1) + 1
  omega
noncomputable abbrev sumpc : LoopF := sumG keeppc parsepc (fun _ => false) .ret (fun y => Ypc y) (.exit 5) (fun y => Ypc y) (fun y => iter (gopc) (nextpc) ((fun y => y.w.toNat - y.i) y) y)
theorem sempc : SemOK Tryd.prog G0 cpc sumpc := by
  refine SemOK.count (sp := tabOf []) (ann := fun _ => []) (ls := fun _ => none) TableOK.nil mixed 50 LsOK.none Ypc _ _ (by simp [Ex.out]) _ _ (by simp [Ex.out]) _ keeppc parsepc (gopc) (nextpc) Ipc invpc bodypc (fun y => y.w.toNat - y.i) mpc ?_
  intro st y hx
  unfold parsepc at hx
  split at hx
  · rename_i t 
    split at hx
    · rename_i w a n i h1 h2 h8 h11
      simp only [Option.some.injEq, Prod.mk.injEq, decide_eq_true_eq] at hx
      obtain ⟨⟨g1, g2⟩, rfl⟩ := hx
      refine ⟨g2, fun w0 L' a w hrel => ?_⟩
      exact Rel.pick hrel g1 fun x hx => by
        simp only [List.mem_cons, List.not_mem_nil, or_false] at hx
        rcases hx with rfl | rfl | rfl | rfl
        · exact h1
        · exact h2
        · exact h8
        · exact h11
    · cases hx
  · cases hx
theorem pop_le : ∀ k x : Nat, popN k x ≤ k
  | 0, _ => Nat.le_refl _
  | k + 1, x => by have := pop_le k (x / 2); simp only [popN]; omega
def Jpc (a : BitVec 64) (w : Int) (y : Xpc) : Prop := y.w = w ∧ y.a = a ∧ (y.i : Int) ≤ w ∧ y.n.toNat = popN y.i a.toNat
theorem finpc {a : BitVec 64} {w : Int} (h : fitF w a = true) : (iter gopc nextpc (w.toNat - 0) ⟨w, a, 0#64, 0⟩).n = BitVec.ofInt 64 (popN 64 a.toNat : Nat) := by
  have hw := (fitF_nat h).1
  obtain ⟨g1, g2⟩ := okW_rng hw
  have hJ := iter_inv (go := gopc) (next := nextpc) (J := Jpc a w) (fun y ⟨h1, h2, h3, h4⟩ hg => by
    have k1 := of_decide_eq_true hg
    rw [h1] at k1
    refine ⟨h1, h2, by show ((y.i + 1 : Nat) : Int) ≤ w; omega, ?_⟩
    show (y.n + (y.a >>> y.i &&& 1#64)).toNat = popN (y.i + 1) a.toNat
    have e := add_int y.n (y.a >>> y.i &&& 1#64)
    have b : (y.a >>> y.i &&& 1#64).toNat = a.toNat / 2 ^ y.i % 2 := by
      rw [h2, bit_and, bit_nat]
      cases a.getLsbD y.i <;> rfl
    rw [pop_step]
    have l := pop_le y.i a.toNat
    have l2 := Nat.mod_lt (a.toNat / 2 ^ y.i) (by decide : 2 > 0)
    rw [b, h4] at e
    omega) (w.toNat - 0) ⟨w, a, 0#64, 0⟩ ⟨rfl, rfl, by show (0 : Int) ≤ w; omega, rfl⟩
  have hs := iter_stop (go := gopc) (next := nextpc) (m := fun y => y.w.toNat - y.i) mpc (w.toNat - 0) ⟨w, a, 0#64, 0⟩ rfl
  revert hJ hs
  generalize iter gopc nextpc (w.toNat - 0) ⟨w, a, 0#64, 0⟩ = z
  intro ⟨h1, h2, h3, h4⟩ hs
  have hz : z.i = w.toNat := by
    have := of_decide_eq_false hs
    rw [h1] at this
    omega
  have l := pop_le 64 a.toNat
  refine eq_nat ?_
  rw [h4, hz, pop_fit h, ofInt_nat (by omega) (by omega)]
noncomputable def ls17 : Nat → Option LoopF := lsOf [(7, sumlz), (13, sumtz), (19, sumpc)]
theorem loops17 : LsOK Tryd.prog G0 ls17 (Tryd.f60.body.getD .skip) := by
  refine LsOK.of (of_decide_eq_true (by kernel_rfl)) fun x hx => ?_
  simp only [List.mem_cons, List.not_mem_nil, or_false] at hx
  rcases hx with rfl | rfl | rfl
  · exact semlz
  · exact semtz
  · exact sempc
end Go.L07
/-!
Whole numbers: the reference's operators of one.
-/
namespace Go.L07
open Go.Ev Go.Proofs Go.RowKit Go.Wh

noncomputable def oneRf (o : BitVec 8) (w : Int) (a : BitVec 64) : Option D :=
  if (o == 26#8) = true then (if decide (106 = 106 ∧ (-1 ≤ IntKind.i64.wrap (w - 1) ∧ IntKind.i64.wrap (w - 1) ≤ 63)) = true then some (.tup [.u64 (iter golz nextlz ((IntKind.i64.wrap (w - 1) + 1).toNat) ⟨a, 0#64, IntKind.i64.wrap (w - 1)⟩).n, .i .i64 0]) else none) else
  if (o == 27#8) = true then (if decide (106 = 106 ∧ (okW w = true ∧ 0 ≤ w.toNat)) = true then some (.tup [.u64 (iter gotz nexttz (w.toNat - 0) ⟨w, a, 0#64, 0⟩).n, .i .i64 0]) else none) else
  if (o == 28#8) = true then (if decide (106 = 106 ∧ (okW w = true ∧ 0 ≤ w.toNat)) = true then some (.tup [.u64 (iter gopc nextpc (w.toNat - 0) ⟨w, a, 0#64, 0⟩).n, .i .i64 0]) else none) else
  if (o == 29#8) = true then (if decide (maskF w / 2#64 < a) = true then some (.tup [.u64 (maskF w - a + 1#64 &&& maskF w), .i .i64 0]) else some (.tup [.u64 a, .i .i64 0])) else
  if (o == 30#8) = true then some (.tup [.u64 (maskF w - a + 1#64 &&& maskF w), .i .i64 0]) else
  if (o == 31#8) = true then some (.tup [.u64 (maskF w - a), .i .i64 0]) else
  some (.tup [.u64 0#64, .i .i64 2])
theorem nf_rOne (o : BitVec 8) (w : Int) (a : BitVec 64) : execFnL Tryd.prog G0 (tabOf [(44, widthS), (76, fitsS), (68, maskS)]) (fun _ => []) ls17 Tryd.f60 50 [.u8 o, .i .i64 w, .u64 a] some =
  if (!okW w) = false then if (!decide (a ≤ maskF w)) = true then some (.tup [.u64 0#64, .i .i64 2]) else oneRf o w a else some (.tup [.u64 0#64, .i .i64 2]) := by kernel_rfl
theorem may_ref1 {w : Int} {a : BitVec 64} {x y : Option D} : (if (!okW w) = false then if (!decide (a ≤ maskF w)) = true then x else y else x) = if (!mayF w [a]) = true then x else y := by
  simp only [mayF, List.all_cons, List.all_nil, Bool.and_true]
  generalize okW w = c0
  generalize decide (a ≤ maskF w) = c1
  cases c0 <;> cases c1 <;> rfl
theorem oneRf_eq {o : BitVec 8} {w : Int} {a : BitVec 64} (h : mayF w [a] = true) : oneRf o w a = oneT o w a := by
  have ha := may_fit1 h
  have hw := (fitF_nat ha).1
  obtain ⟨g1, g2⟩ := okW_rng hw
  obtain ⟨r1, r2, r3⟩ := abs_ref ha
  have e1 : IntKind.i64.wrap (w - 1) = w - 1 := wrap_in (by omega) (by omega)
  have c1 : decide (106 = 106 ∧ (-1 ≤ w - 1 ∧ w - 1 ≤ 63)) = true := decide_eq_true ⟨rfl, by omega, by omega⟩
  have c2 : decide (106 = 106 ∧ (okW w = true ∧ 0 ≤ w.toNat)) = true := decide_eq_true ⟨rfl, hw, by omega⟩
  unfold oneRf oneT
  rw [e1, if_pos c1, if_pos c2, if_pos c2, finlz ha, fintz ha, finpc ha, r2, r3]
  by_cases h0 : 0 ≤ sgnF w a
  · rw [if_neg (fun h => r1.1 h h0), if_pos h0]
  · rw [if_pos (r1.2 h0), if_neg h0]
theorem t_rOne : Snd 60 OneS := by
  refine Sound.join (execFnL_sound (ann := fun _ => []) (ls := ls17) (TableOK.cons t_Width (TableOK.cons t_Fits (TableOK.cons t_Most TableOK.nil))) mixed Tryd.func60 (by kernel_rfl) 50 (fun c hc => by
    have e : c = Tryd.f60.body.getD .skip := by rw [hc]; rfl
    rw [e]; exact loops17)) fun ds d h => ?_
  split at h
  · rename_i o w a
    cases h
    exact (nf_rOne o w a).trans (may_ref1.trans (one_end fun hm => oneRf_eq hm))
  · cases h
end Go.L07
