/-
  Part of the proof; what its functions and lemmas say stands in the text.
-/
import Derived.Test.YtakonchpkchfhaaDoorWh4
set_option linter.unusedSimpArgs false
set_option linter.unusedVariables false
/-!
Whole numbers: numbers of worths, worths of numbers.
-/
namespace Go.Wh
open Go.Ev Go.RowKit

theorem and_nat {t : Int} (h : okW t = true) (x : BitVec 64) : ((x &&& maskF t).toNat : Int) = (x.toNat : Int) % pw t := by
  have key : ∀ (k : Nat), (maskF t).toNat = 2 ^ k - 1 → pw t = ((2 ^ k : Nat) : Int) → ((x &&& maskF t).toNat : Int) = (x.toNat : Int) % pw t := fun k h1 h2 => by
    rw [BitVec.toNat_and, h1, Nat.and_two_pow_sub_one_eq_mod, h2]
    rfl
  rcases okW_cases h with rfl | rfl | rfl | rfl
  · exact key 8 (by decide) (by decide)
  · exact key 16 (by decide) (by decide)
  · exact key 32 (by decide) (by decide)
  · exact key 64 (by decide) (by decide)
theorem and_le (x m : BitVec 64) : x &&& m ≤ m := by
  rw [BitVec.le_def, BitVec.toNat_and]
  exact Nat.and_le_right
theorem fit_and {t : Int} (h : okW t = true) (x : BitVec 64) : fitF t (x &&& maskF t) = true := by
  simp only [fitF, h, Bool.true_and, decide_eq_true_eq]
  exact and_le _ _
theorem num_nat {t : Int} (h : okW t = true) (n : Int) : ((BitVec.ofInt 64 n &&& maskF t).toNat : Int) = n % pw t := by
  rw [and_nat h, BitVec.toNat_ofInt]
  have e : (((2 ^ 64 : Nat)) : Int) = 18446744073709551616 := by decide
  rw [e]
  have e2 : ((n % 18446744073709551616).toNat : Int) = n % 18446744073709551616 := by omega
  rw [e2]
  rcases okW_cases h with rfl | rfl | rfl | rfl
  · rw [pw8]; omega
  · rw [pw16]; omega
  · rw [pw32]; omega
  · rw [pw64]; omega
theorem sgn_num {t n : Int} (h : okW t = true) (h0 : -(pw t / 2) ≤ n) (h1 : n < pw t / 2) : sgnF t (BitVec.ofInt 64 n &&& maskF t) = n := by
  unfold sgnF
  rw [num_nat h]
  rcases okW_cases h with rfl | rfl | rfl | rfl
  · rw [pw8] at *; split <;> omega
  · rw [pw16] at *; split <;> omega
  · rw [pw32] at *; split <;> omega
  · rw [pw64] at *; split <;> omega
theorem eq_nat {x y : BitVec 64} (h : (x.toNat : Int) = (y.toNat : Int)) : x = y := BitVec.eq_of_toNat_eq (by omega)
theorem num_sgn {t : Int} {a : BitVec 64} (h : fitF t a = true) : BitVec.ofInt 64 (sgnF t a) &&& maskF t = a := by
  obtain ⟨hw, ha⟩ := fitF_nat h
  refine eq_nat ?_
  rw [num_nat hw]
  unfold sgnF
  obtain ⟨k, hk, k1, k2⟩ := pw_even hw
  split
  · rw [Int.emod_eq_of_lt (by omega) ha]
  · rw [Int.sub_emod_right, Int.emod_eq_of_lt (by omega) ha]
theorem sgn_range {t : Int} {a : BitVec 64} (h : fitF t a = true) : -(pw t / 2) ≤ sgnF t a ∧ sgnF t a < pw t / 2 := by
  obtain ⟨hw, ha⟩ := fitF_nat h
  obtain ⟨k, hk, k1, k2⟩ := pw_even hw
  unfold sgnF
  split <;> omega
theorem fit_of_nat {t : Int} {a : BitVec 64} (h : okW t = true) (ha : (a.toNat : Int) < pw t) : fitF t a = true := by
  have hm := mask_nat h
  simp only [fitF, h, Bool.true_and, decide_eq_true_eq, BitVec.le_def]
  omega
/-- There, and back. -/
theorem back_law {w u v : Int} (hw : okW w = true) (hu : okW u = true) (hv : okW v = true) (h1 : w < u) (h2 : u < v) (p1 : pw w ≤ pw u / 2) (s : Bool) {a : BitVec 64} (ha : fitF w a = true) :
    okE w u a = true ∧ okE u v (extF w u s a) = true ∧ okE w v a = true ∧ okN u w (extF w u s a) = true ∧ extF u v s (extF w u s a) = extF w v s a ∧ narF u w s (extF w u s a) = a := by
  have n1 : ¬ u < w := by omega
  have n2 : ¬ v < u := by omega
  have n3 : ¬ v < w := by omega
  obtain ⟨_, hr⟩ := fitF_nat ha
  obtain ⟨k, hk, k1, k2⟩ := pw_even hw
  obtain ⟨ku, hku, ku1, ku2⟩ := pw_even hu
  have r := sgn_range ha
  have hx : fitF u (extF w u s a) = true := by
    unfold extF
    split
    · exact fit_and hu _
    · exact fit_of_nat hu (by omega)
  refine ⟨by simp [okE, ha, hu, n1], by simp [okE, hx, hv, n2], by simp [okE, ha, hv, n3], by simp [okN, hx, hw, h1], ?_, ?_⟩
  · cases s
    · rfl
    · simp only [extF, if_true]
      rw [sgn_num hu (by omega) (by omega)]
  · cases s
    · simp only [extF, narF, Bool.false_eq_true, if_false]
      have e : sgnF u a = (a.toNat : Int) := by unfold sgnF; rw [if_pos (by omega)]
      rw [e]
      have e2 : min (max (a.toNat : Int) 0) (pw w - 1) = (a.toNat : Int) := by omega
      rw [e2]
      refine eq_nat ?_
      rw [ofInt_nat (by omega) (by have := a.isLt; omega)]
    · simp only [extF, narF, if_true]
      rw [sgn_num hu (by omega) (by omega)]
      have e2 : min (max (sgnF w a) (-(pw w / 2))) (pw w / 2 - 1) = sgnF w a := by omega
      rw [e2, num_sgn ha]
end Go.Wh
