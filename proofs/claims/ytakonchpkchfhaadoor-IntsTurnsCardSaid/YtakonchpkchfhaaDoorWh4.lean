/-
  Part of the proof; what its functions and lemmas say stands in the text.
-/
import Derived.Test.YtakonchpkchfhaaDoorWh3
set_option linter.unusedSimpArgs false
set_option linter.unusedVariables false
/-!
Whole numbers: widened, narrowed.
-/
namespace Go.Wh
open Go.Ev Go.RowKit

theorem and_fit {t : Int} (h : okW t = true) {z : BitVec 64} (hz : z ≤ maskF t) : z &&& maskF t = z := by
  have e := fit_eq h z
  rw [decide_eq_true hz, beq_iff_eq] at e
  apply BitVec.eq_of_getLsbD_eq
  intro j hj
  have h1 := congrArg (fun y => BitVec.getLsbD y j) e
  simp only [BitVec.getLsbD_and, BitVec.getLsbD_not, hj, decide_true, Bool.true_and, BitVec.getLsbD_zero] at h1
  simp only [BitVec.getLsbD_and]
  cases h2 : z.getLsbD j
  · rfl
  · rw [h2, Bool.true_and] at h1
    simpa using h1
theorem ofInt_nat {v : Int} (h0 : 0 ≤ v) (h1 : v < 18446744073709551616) : ((BitVec.ofInt 64 v).toNat : Int) = v := by
  rw [BitVec.toNat_ofInt]
  have e : (((2 ^ 64 : Nat)) : Int) = 18446744073709551616 := by decide
  rw [e]
  omega
theorem ofInt_fit {t : Int} (h : okW t = true) {v : Int} (h0 : 0 ≤ v) (h1 : v < pw t) : BitVec.ofInt 64 v &&& maskF t = BitVec.ofInt 64 v := by
  refine and_fit h ?_
  have hm := mask_nat h
  obtain ⟨k, hk, k1, k2⟩ := pw_even h
  have := ofInt_nat h0 (by omega)
  rw [BitVec.le_def]
  omega
theorem mask_int {t : Int} (h : okW t = true) (ht : t < 64) : sOfU .i64 (maskF t) = pw t - 1 := by
  rcases okW_cases h with rfl | rfl | rfl | rfl
  · decide
  · decide
  · decide
  · omega
def okE (f t : Int) (a : BitVec 64) : Bool := fitF f a && okW t && !decide (t < f)
def extF (f t : Int) (s : Bool) (a : BitVec 64) : BitVec 64 := if s = true then BitVec.ofInt 64 (sgnF f a) &&& maskF t else a
def extV (f t : Int) (s : Bool) (a : BitVec 64) : D := .tup [.u64 (ifF (okE f t a) (extF f t s a)), .i .i64 (errF (okE f t a))]
def argErr : Option D := some (.tup [.u64 0#64, .i .i64 2])
theorem ext_end (f t : Int) (s : Bool) (a : BitVec 64) {x : Option D} (h : okE f t a = true → x = some (.tup [.u64 (extF f t s a), .i .i64 0])) :
    (if (!mayF f [a]) = false then if (!okW t) = false then if decide (t < f) = true then argErr else x else argErr else argErr) = some (extV f t s a) := by
  have e : mayF f [a] = fitF f a := by simp [mayF, fitF]
  rw [e]
  unfold extV
  unfold okE at h ⊢
  cases h1 : fitF f a
  · rfl
  · cases h2 : okW t
    · rfl
    · cases h3 : decide (t < f)
      · rw [h1, h2, h3] at h
        exact h rfl
      · rfl
theorem ext_end' (f t : Int) (s : Bool) (a : BitVec 64) {x : Option D} (h : okE f t a = true → x = some (.tup [.u64 (extF f t s a), .i .i64 0])) :
    (if (!okW f) = false then if (!okW t) = false then if decide (t < f) = false then if (!decide (a ≤ maskF f)) = true then argErr else x else argErr else argErr else argErr) = some (extV f t s a) := by
  unfold extV
  unfold okE fitF at h ⊢
  cases h1 : okW f
  · rfl
  · cases h2 : okW t
    · simp only [Bool.not_true, if_true, Bool.not_false, Bool.and_false, Bool.false_and, Bool.true_eq_false, if_false] <;> rfl
    · cases h3 : decide (t < f)
      · cases h4 : decide (a ≤ maskF f)
        · rfl
        · rw [h1, h2, h3, h4] at h
          exact h rfl
      · simp only [Bool.not_true, if_true, Bool.and_false, Bool.true_eq_false, if_false] <;> rfl
def okN (f t : Int) (a : BitVec 64) : Bool := fitF f a && okW t && decide (t < f)
def narF (f t : Int) (s : Bool) (a : BitVec 64) : BitVec 64 := if s = true then BitVec.ofInt 64 (min (max (sgnF f a) (-(pw t / 2))) (pw t / 2 - 1)) &&& maskF t else BitVec.ofInt 64 (min (max (sgnF f a) 0) (pw t - 1))
def narV (f t : Int) (s : Bool) (a : BitVec 64) : D := .tup [.u64 (ifF (okN f t a) (narF f t s a)), .i .i64 (errF (okN f t a))]
theorem nar_end (f t : Int) (s : Bool) (a : BitVec 64) {x : Option D} (h : okN f t a = true → x = some (.tup [.u64 (narF f t s a), .i .i64 0])) :
    (if (!mayF f [a]) = false then if (!okW t) = false then if decide (f ≤ t) = true then argErr else x else argErr else argErr) = some (narV f t s a) := by
  have e : mayF f [a] = fitF f a := by simp [mayF, fitF]
  have e2 : decide (f ≤ t) = !decide (t < f) := by rw [Bool.eq_iff_iff]; simp
  rw [e, e2]
  unfold narV
  unfold okN at h ⊢
  cases h1 : fitF f a
  · rfl
  · cases h2 : okW t
    · rfl
    · cases h3 : decide (t < f)
      · rfl
      · rw [h1, h2, h3] at h
        exact h rfl
theorem nar_end' (f t : Int) (s : Bool) (a : BitVec 64) {x : Option D} (h : okN f t a = true → x = some (.tup [.u64 (narF f t s a), .i .i64 0])) :
    (if (!okW f) = false then if (!okW t) = false then if decide (f ≤ t) = false then if (!decide (a ≤ maskF f)) = true then argErr else x else argErr else argErr else argErr) = some (narV f t s a) := by
  have e2 : decide (f ≤ t) = !decide (t < f) := by rw [Bool.eq_iff_iff]; simp
  rw [e2]
  unfold narV
  unfold okN fitF at h ⊢
  cases h1 : okW f
  · rfl
  · cases h2 : okW t
    · simp only [Bool.not_true, if_true, Bool.not_false, Bool.and_false, Bool.false_and, Bool.true_eq_false, if_false] <;> rfl
    · cases h3 : decide (t < f)
      · simp only [Bool.not_true, if_true, Bool.not_false, Bool.and_false, Bool.true_eq_false, if_false] <;> rfl
      · cases h4 : decide (a ≤ maskF f)
        · rfl
        · rw [h1, h2, h3, h4] at h
          exact h rfl
def mnF (x y : Int) : Int := if y < x then y else x
def mxF (x y : Int) : Int := if x < y then y else x
theorem lt64 {f t : Int} {a : BitVec 64} (h : okN f t a = true) : okW t = true ∧ t < 64 ∧ fitF f a = true := by
  simp only [okN, Bool.and_eq_true, decide_eq_true_eq] at h
  obtain ⟨⟨h1, h2⟩, h3⟩ := h
  refine ⟨h2, ?_, h1⟩
  rcases okW_cases (fitF_nat h1).1 with rfl | rfl | rfl | rfl <;> omega
/-- What is held. -/
def heldF (t n l h : Int) : BitVec 64 := BitVec.ofInt 64 (min (max n l) h) &&& maskF t
theorem held_lt (n l h : Int) : (if h < (if n < l then l else n) then h else (if n < l then l else n)) = min (max n l) h := by
  split <;> split <;> omega
theorem nar_prog {f t : Int} {s : Bool} {a : BitVec 64} (h : okN f t a = true) : (if (!s) = true then some (D.tup [.u64 (heldF t (sgnF f a) 0 (sOfU .i64 (maskF t))), .i .i64 0]) else some (D.tup [.u64 (heldF t (sgnF f a) (-(pw t / 2)) (pw t / 2 - 1)), .i .i64 0])) = some (D.tup [.u64 (narF f t s a), .i .i64 0]) := by
  obtain ⟨h1, h2, h3⟩ := lt64 h
  obtain ⟨k, hk, k1, k2⟩ := pw_even h1
  cases s
  · simp only [Bool.not_false, if_true, narF, heldF, Bool.false_eq_true, if_false]
    rw [mask_int h1 h2, ofInt_fit h1 (by omega) (by omega)]
  · rfl
theorem nar_ref {f t : Int} {s : Bool} {a : BitVec 64} (h : okN f t a = true) : (if s = true then some (D.tup [.u64 (BitVec.ofInt 64 (mxF (-(pw t / 2)) (mnF (pw t / 2 - 1) (sgnF f a))) &&& maskF t), .i .i64 0]) else some (D.tup [.u64 (BitVec.ofInt 64 (mxF 0 (mnF (sOfU .i64 (maskF t)) (sgnF f a)))), .i .i64 0])) = some (D.tup [.u64 (narF f t s a), .i .i64 0]) := by
  obtain ⟨h1, h2, h3⟩ := lt64 h
  obtain ⟨k, hk, k1, k2⟩ := pw_even h1
  have e : ∀ l h n : Int, l ≤ h → mxF l (mnF h n) = min (max n l) h := fun l h n hl => by
    unfold mxF mnF
    split <;> split <;> omega
  cases s
  · simp only [Bool.false_eq_true, if_false, narF]
    rw [mask_int h1 h2, e _ _ _ (by omega)]
  · simp only [if_true, narF]
    rw [e _ _ _ (by omega)]
end Go.Wh
