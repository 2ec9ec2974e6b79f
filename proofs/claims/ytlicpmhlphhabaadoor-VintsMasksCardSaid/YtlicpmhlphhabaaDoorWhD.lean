/-
  Part of the proof; what its functions and lemmas say stands in the text.
-/
import Derived.Test.YtlicpmhlphhabaaDoorWhC
import Derived.Lib.TrailingZeros
set_option linter.unusedSimpArgs false
set_option linter.unusedVariables false
/-!
Whole numbers: what is held, the mean, the lesser and the greater fit together.
-/
namespace Go.Wh
open Go.Ev Go.RowKit

def heldT0 (N : BitVec 8 → Int → BitVec 64 → BitVec 64 → BitVec 64) (G : Int → BitVec 64 → BitVec 64 → Bool) (w : Int) (A B M : BitVec 64) : Option D :=
  if decide (A ≤ N (BitVec.ofInt 8 1) w A B) = true then if (!N (16#8) w A B == N (1#8) w A B) = false then if decide (N (BitVec.ofInt 8 1) w A B < A) = true then if (!N (16#8) w A B == M) = false then if decide (N (BitVec.ofInt 8 24) w A B < N (BitVec.ofInt 8 20) w A B) = false then if decide (N (BitVec.ofInt 8 21) w A B < N (BitVec.ofInt 8 24) w A B) = false then if decide (N (BitVec.ofInt 8 21) w A B < N (BitVec.ofInt 8 20) w A B) = true then some (D.bool false) else if G w A B = true then if G w A B = true then if G w A B = true then if G w A B = true then if (false == (A == B)) = true then if (N (22#8) w A B == A) = false then if (N (22#8) w A B == B) = true then if (N (22#8) w A B == A) = true then some (D.bool true) else some (D.bool false) else some (D.bool false) else if (N (22#8) w A B == A) = true then some (D.bool true) else some (D.bool false) else some (D.bool false) else none else none else none else none else some (D.bool false) else some (D.bool false) else some (D.bool false) else if decide (N (BitVec.ofInt 8 24) w A B < N (BitVec.ofInt 8 20) w A B) = false then if decide (N (BitVec.ofInt 8 21) w A B < N (BitVec.ofInt 8 24) w A B) = false then if decide (N (BitVec.ofInt 8 21) w A B < N (BitVec.ofInt 8 20) w A B) = true then some (D.bool false) else if G w A B = true then if G w A B = true then if G w A B = true then if G w A B = true then if (false == (A == B)) = true then if (N (22#8) w A B == A) = false then if (N (22#8) w A B == B) = true then if (N (22#8) w A B == A) = true then some (D.bool true) else some (D.bool false) else some (D.bool false) else if (N (22#8) w A B == A) = true then some (D.bool true) else some (D.bool false) else some (D.bool false) else none else none else none else none else some (D.bool false) else some (D.bool false) else some (D.bool false) else if decide (N (BitVec.ofInt 8 1) w A B < A) = true then if (!N (16#8) w A B == M) = false then if decide (N (BitVec.ofInt 8 24) w A B < N (BitVec.ofInt 8 20) w A B) = false then if decide (N (BitVec.ofInt 8 21) w A B < N (BitVec.ofInt 8 24) w A B) = false then if decide (N (BitVec.ofInt 8 21) w A B < N (BitVec.ofInt 8 20) w A B) = true then some (D.bool false) else if G w A B = true then if G w A B = true then if G w A B = true then if G w A B = true then if (false == (A == B)) = true then if (N (22#8) w A B == A) = false then if (N (22#8) w A B == B) = true then if (N (22#8) w A B == A) = true then some (D.bool true) else some (D.bool false) else some (D.bool false) else if (N (22#8) w A B == A) = true then some (D.bool true) else some (D.bool false) else some (D.bool false) else none else none else none else none else some (D.bool false) else some (D.bool false) else some (D.bool false) else if decide (N (BitVec.ofInt 8 24) w A B < N (BitVec.ofInt 8 20) w A B) = false then if decide (N (BitVec.ofInt 8 21) w A B < N (BitVec.ofInt 8 24) w A B) = false then if decide (N (BitVec.ofInt 8 21) w A B < N (BitVec.ofInt 8 20) w A B) = true then some (D.bool false) else if G w A B = true then if G w A B = true then if G w A B = true then if G w A B = true then if (false == (A == B)) = true then if (N (22#8) w A B == A) = false then if (N (22#8) w A B == B) = true then if (N (22#8) w A B == A) = true then some (D.bool true) else some (D.bool false) else some (D.bool false) else if (N (22#8) w A B == A) = true then some (D.bool true) else some (D.bool false) else some (D.bool false) else none else none else none else none else some (D.bool false) else some (D.bool false)
def heldT1 (N : BitVec 8 → Int → BitVec 64 → BitVec 64 → BitVec 64) (G : Int → BitVec 64 → BitVec 64 → Bool) (w : Int) (A B M : BitVec 64) : Option D :=
  if decide (A ≤ N (BitVec.ofInt 8 1) w A B) = true then if (!N (16#8) w A B == N (1#8) w A B) = false then if decide (N (BitVec.ofInt 8 1) w A B < A) = true then if (!N (16#8) w A B == M) = false then if decide (N (BitVec.ofInt 8 24) w A B < N (BitVec.ofInt 8 20) w A B) = false then if decide (N (BitVec.ofInt 8 21) w A B < N (BitVec.ofInt 8 24) w A B) = false then if decide (N (BitVec.ofInt 8 21) w A B < N (BitVec.ofInt 8 20) w A B) = true then some (D.bool false) else if G w A B = true then if G w A B = true then if G w A B = true then if G w A B = true then if (true == (A == B)) = true then if (N (22#8) w A B == A) = false then if (N (22#8) w A B == B) = true then some (D.bool true) else some (D.bool false) else some (D.bool true) else some (D.bool false) else none else none else none else none else some (D.bool false) else some (D.bool false) else some (D.bool false) else if decide (N (BitVec.ofInt 8 24) w A B < N (BitVec.ofInt 8 20) w A B) = false then if decide (N (BitVec.ofInt 8 21) w A B < N (BitVec.ofInt 8 24) w A B) = false then if decide (N (BitVec.ofInt 8 21) w A B < N (BitVec.ofInt 8 20) w A B) = true then some (D.bool false) else if G w A B = true then if G w A B = true then if G w A B = true then if G w A B = true then if (true == (A == B)) = true then if (N (22#8) w A B == A) = false then if (N (22#8) w A B == B) = true then some (D.bool true) else some (D.bool false) else some (D.bool true) else some (D.bool false) else none else none else none else none else some (D.bool false) else some (D.bool false) else some (D.bool false) else if decide (N (BitVec.ofInt 8 1) w A B < A) = true then if (!N (16#8) w A B == M) = false then if decide (N (BitVec.ofInt 8 24) w A B < N (BitVec.ofInt 8 20) w A B) = false then if decide (N (BitVec.ofInt 8 21) w A B < N (BitVec.ofInt 8 24) w A B) = false then if decide (N (BitVec.ofInt 8 21) w A B < N (BitVec.ofInt 8 20) w A B) = true then some (D.bool false) else if G w A B = true then if G w A B = true then if G w A B = true then if G w A B = true then if (true == (A == B)) = true then if (N (22#8) w A B == A) = false then if (N (22#8) w A B == B) = true then some (D.bool true) else some (D.bool false) else some (D.bool true) else some (D.bool false) else none else none else none else none else some (D.bool false) else some (D.bool false) else some (D.bool false) else if decide (N (BitVec.ofInt 8 24) w A B < N (BitVec.ofInt 8 20) w A B) = false then if decide (N (BitVec.ofInt 8 21) w A B < N (BitVec.ofInt 8 24) w A B) = false then if decide (N (BitVec.ofInt 8 21) w A B < N (BitVec.ofInt 8 20) w A B) = true then some (D.bool false) else if G w A B = true then if G w A B = true then if G w A B = true then if G w A B = true then if (true == (A == B)) = true then if (N (22#8) w A B == A) = false then if (N (22#8) w A B == B) = true then some (D.bool true) else some (D.bool false) else some (D.bool true) else some (D.bool false) else none else none else none else none else some (D.bool false) else some (D.bool false)
def heldT2 (N : BitVec 8 → Int → BitVec 64 → BitVec 64 → BitVec 64) (G : Int → BitVec 64 → BitVec 64 → Bool) (w : Int) (A B M : BitVec 64) : Option D :=
  if decide (A ≤ N (BitVec.ofInt 8 1) w A B) = true then if (!N (16#8) w A B == N (1#8) w A B) = false then if decide (N (BitVec.ofInt 8 1) w A B < A) = true then if (!N (16#8) w A B == M) = false then if decide (N (BitVec.ofInt 8 24) w A B < N (BitVec.ofInt 8 20) w A B) = false then if decide (N (BitVec.ofInt 8 21) w A B < N (BitVec.ofInt 8 24) w A B) = false then if decide (N (BitVec.ofInt 8 21) w A B < N (BitVec.ofInt 8 20) w A B) = true then some (D.bool false) else if G w A B = true then if G w A B = true then if G w A B = true then if G w A B = true then if (false == (A == B)) = true then if (N (22#8) w A B == A) = false then if (N (22#8) w A B == B) = true then some (D.bool true) else some (D.bool false) else some (D.bool true) else some (D.bool false) else none else none else none else none else some (D.bool false) else some (D.bool false) else some (D.bool false) else if decide (N (BitVec.ofInt 8 24) w A B < N (BitVec.ofInt 8 20) w A B) = false then if decide (N (BitVec.ofInt 8 21) w A B < N (BitVec.ofInt 8 24) w A B) = false then if decide (N (BitVec.ofInt 8 21) w A B < N (BitVec.ofInt 8 20) w A B) = true then some (D.bool false) else if G w A B = true then if G w A B = true then if G w A B = true then if G w A B = true then if (false == (A == B)) = true then if (N (22#8) w A B == A) = false then if (N (22#8) w A B == B) = true then some (D.bool true) else some (D.bool false) else some (D.bool true) else some (D.bool false) else none else none else none else none else some (D.bool false) else some (D.bool false) else some (D.bool false) else if decide (N (BitVec.ofInt 8 1) w A B < A) = true then if (!N (16#8) w A B == M) = false then if decide (N (BitVec.ofInt 8 24) w A B < N (BitVec.ofInt 8 20) w A B) = false then if decide (N (BitVec.ofInt 8 21) w A B < N (BitVec.ofInt 8 24) w A B) = false then if decide (N (BitVec.ofInt 8 21) w A B < N (BitVec.ofInt 8 20) w A B) = true then some (D.bool false) else if G w A B = true then if G w A B = true then if G w A B = true then if G w A B = true then if (false == (A == B)) = true then if (N (22#8) w A B == A) = false then if (N (22#8) w A B == B) = true then some (D.bool true) else some (D.bool false) else some (D.bool true) else some (D.bool false) else none else none else none else none else some (D.bool false) else some (D.bool false) else some (D.bool false) else if decide (N (BitVec.ofInt 8 24) w A B < N (BitVec.ofInt 8 20) w A B) = false then if decide (N (BitVec.ofInt 8 21) w A B < N (BitVec.ofInt 8 24) w A B) = false then if decide (N (BitVec.ofInt 8 21) w A B < N (BitVec.ofInt 8 20) w A B) = true then some (D.bool false) else if G w A B = true then if G w A B = true then if G w A B = true then if G w A B = true then if (false == (A == B)) = true then if (N (22#8) w A B == A) = false then if (N (22#8) w A B == B) = true then some (D.bool true) else some (D.bool false) else some (D.bool true) else some (D.bool false) else none else none else none else none else some (D.bool false) else some (D.bool false)
theorem avg_nat (a b : BitVec 64) : (avgV a b).toNat = (a.toNat + b.toNat + 1) / 2 := by
  have h := and_xor_nat a.toNat b.toNat
  have al := a.isLt
  have bl := b.isLt
  have x1 := Nat.div_add_mod (a.toNat ^^^ b.toNat) 2
  have x2 := Nat.mod_lt (a.toNat ^^^ b.toNat) (by decide : 2 > 0)
  unfold avgV
  have z1 : (1#64).toNat = 1 := rfl
  have xl : a.toNat ^^^ b.toNat < 2 ^ 64 := Nat.xor_lt_two_pow al bl
  simp only [BitVec.toNat_add, BitVec.toNat_and, BitVec.toNat_xor, BitVec.toNat_ushiftRight, Nat.shiftRight_eq_div_pow, z1, Nat.and_one_is_mod, Nat.pow_one]
  generalize a.toNat &&& b.toNat = C at *
  generalize a.toNat ^^^ b.toNat = X at *
  omega
theorem sgn_inj {w : Int} {a b : BitVec 64} (ha : fitF w a = true) (hb : fitF w b = true) (h : sgnF w a = sgnF w b) : a = b := by
  rw [← num_sgn ha, h, num_sgn hb]
/-- What the comparisons without signs come to. -/
theorem held_facts {w : Int} {A B : BitVec 64} (hA : fitF w A = true) (hB : fitF w B = true) :
    (A ≤ twoN 1#8 w A B → twoN 16#8 w A B = twoN 1#8 w A B) ∧ (twoN 1#8 w A B < A → twoN 16#8 w A B = 18446744073709551615#64 &&& maskF w) ∧
    ¬ twoN 24#8 w A B < twoN 20#8 w A B ∧ ¬ twoN 21#8 w A B < twoN 24#8 w A B ∧ ¬ twoN 21#8 w A B < twoN 20#8 w A B := by
  obtain ⟨hw, h1⟩ := fitF_nat hA
  obtain ⟨_, h2⟩ := fitF_nat hB
  obtain ⟨k, hk, k1, k2⟩ := pw_even hw
  have hm := mask_nat hw
  have t16 : twoN 16#8 w A B = if maskF w - A < B then maskF w else A + B := (twoN_eq hA hB).trans (show _ = satV 16#8 w A B from rfl) |>.trans (by simp [satV])
  have t24 : twoN 24#8 w A B = avgV A B := (twoN_eq hA hB).trans rfl
  have t20 : twoN 20#8 w A B = if A < B then A else B := (twoN_eq hA hB).trans rfl
  have t21 : twoN 21#8 w A B = if A < B then B else A := (twoN_eq hA hB).trans rfl
  have s1 : ((A + B &&& maskF w).toNat : Int) = ((A.toNat : Int) + B.toNat) % pw w := by
    rw [and_nat hw, add_int, Int.emod_emod_of_dvd _ (pw_dvd hw)]
  have sm : (maskF w - A).toNat = (maskF w).toNat - A.toNat := by rw [BitVec.toNat_sub]; have := (maskF w).isLt; omega
  have av := avg_nat A B
  rw [two1 hA hB, t16, t24, t20, t21]
  have mm : 18446744073709551615#64 &&& maskF w = maskF w := by
    rcases okW_cases hw with rfl | rfl | rfl | rfl <;> decide
  refine ⟨fun h => ?_, fun h => ?_, ?_, ?_, ?_⟩
  · rw [BitVec.le_def] at h
    have hno : (A.toNat : Int) + B.toNat < pw w := by
      rcases (show (A.toNat : Int) + B.toNat < pw w ∨ pw w ≤ (A.toNat : Int) + B.toNat by omega) with h3 | h3
      · exact h3
      · exfalso
        have e : ((A.toNat : Int) + B.toNat) % pw w = (A.toNat : Int) + B.toNat - pw w := by
          rw [← Int.sub_emod_right, Int.emod_eq_of_lt (by omega) (by omega)]
        omega
    rw [if_neg (by rw [BitVec.lt_def, sm]; omega)]
    refine (fit_id (fit_of_nat hw ?_)).symm
    rw [add_int]
    omega
  · rw [BitVec.lt_def] at h
    have hov : pw w ≤ (A.toNat : Int) + B.toNat := by
      rcases (show (A.toNat : Int) + B.toNat < pw w ∨ pw w ≤ (A.toNat : Int) + B.toNat by omega) with h3 | h3
      · exfalso
        rw [Int.emod_eq_of_lt (by omega) h3] at s1
        omega
      · exact h3
    rw [if_pos (by rw [BitVec.lt_def, sm]; omega), mm]
  · rw [BitVec.lt_def, av]
    by_cases h : A < B
    · rw [if_pos h]; rw [BitVec.lt_def] at h; omega
    · rw [if_neg h]; rw [BitVec.lt_def] at h; omega
  · rw [BitVec.lt_def, av]
    by_cases h : A < B
    · rw [if_pos h]; rw [BitVec.lt_def] at h; omega
    · rw [if_neg h]; rw [BitVec.lt_def] at h; omega
  · by_cases h : A < B
    · rw [if_pos h, if_pos h]; rw [BitVec.lt_def] at *; omega
    · rw [if_neg h, if_neg h]; rw [BitVec.lt_def] at *; omega
theorem held_end0 {w : Int} {A B : BitVec 64} (hA : fitF w A = true) (hB : fitF w B = true) (hc : sgnF w A < sgnF w B) {G : Int → BitVec 64 → BitVec 64 → Bool} (hG : G w A B = true) : heldT0 twoN G w A B (18446744073709551615#64 &&& maskF w) = T := by
  obtain ⟨f1, f2, f3, f4, f5⟩ := held_facts hA hB
  have e1 : BitVec.ofInt 8 1 = 1#8 := rfl
  have e20 : BitVec.ofInt 8 20 = 20#8 := rfl
  have e21 : BitVec.ofInt 8 21 = 21#8 := rfl
  have e24 : BitVec.ofInt 8 24 = 24#8 := rfl
  have t22 : twoN 22#8 w A B = A := ((twoN_eq hA hB).trans (show twoV 22#8 w A B = if sgnF w A < sgnF w B then A else B from rfl)).trans (if_pos hc)
  have ab : (A == B) = false := by rw [beq_eq_false_iff_ne]; intro e; rw [e] at hc; omega
  have r1 : ∀ x : BitVec 64, (x == x) = true := fun x => by simp
  unfold heldT0
  simp only [e1, e20, e21, e24, f3, f4, f5, hG, t22, ab, decide_false, if_true, Bool.false_eq_true, if_false, r1, beq_self_eq_true, Bool.true_eq_false]
  by_cases g1 : A ≤ twoN 1#8 w A B
  · have g2 : ¬ twoN 1#8 w A B < A := by rw [BitVec.le_def] at g1; rw [BitVec.lt_def]; omega
    simp only [g1, g2, f1 g1, decide_true, decide_false, if_true, Bool.false_eq_true, if_false, r1, Bool.not_true]
    rfl
  · have g2 : twoN 1#8 w A B < A := by rw [BitVec.le_def] at g1; rw [BitVec.lt_def]; omega
    simp only [g1, g2, f2 g2, decide_true, decide_false, if_true, Bool.false_eq_true, if_false, r1, Bool.not_true]
    rfl
theorem held_end1 {w : Int} {A B : BitVec 64} (hA : fitF w A = true) (hB : fitF w B = true) (hc : sgnF w A = sgnF w B) {G : Int → BitVec 64 → BitVec 64 → Bool} (hG : G w A B = true) : heldT1 twoN G w A B (18446744073709551615#64 &&& maskF w) = T := by
  obtain ⟨f1, f2, f3, f4, f5⟩ := held_facts hA hB
  have e1 : BitVec.ofInt 8 1 = 1#8 := rfl
  have e20 : BitVec.ofInt 8 20 = 20#8 := rfl
  have e21 : BitVec.ofInt 8 21 = 21#8 := rfl
  have e24 : BitVec.ofInt 8 24 = 24#8 := rfl
  have t22 : twoN 22#8 w A B = A := ((twoN_eq hA hB).trans (show twoV 22#8 w A B = if sgnF w A < sgnF w B then A else B from rfl)).trans ((if_neg (by omega)).trans (sgn_inj hA hB hc).symm)
  have ab : (A == B) = true := by rw [beq_iff_eq]; exact sgn_inj hA hB hc
  have r1 : ∀ x : BitVec 64, (x == x) = true := fun x => by simp
  unfold heldT1
  simp only [e1, e20, e21, e24, f3, f4, f5, hG, t22, ab, decide_false, if_true, Bool.false_eq_true, if_false, r1, beq_self_eq_true, Bool.true_eq_false]
  by_cases g1 : A ≤ twoN 1#8 w A B
  · have g2 : ¬ twoN 1#8 w A B < A := by rw [BitVec.le_def] at g1; rw [BitVec.lt_def]; omega
    simp only [g1, g2, f1 g1, decide_true, decide_false, if_true, Bool.false_eq_true, if_false, r1, Bool.not_true]
    rfl
  · have g2 : twoN 1#8 w A B < A := by rw [BitVec.le_def] at g1; rw [BitVec.lt_def]; omega
    simp only [g1, g2, f2 g2, decide_true, decide_false, if_true, Bool.false_eq_true, if_false, r1, Bool.not_true]
    rfl
theorem held_end2 {w : Int} {A B : BitVec 64} (hA : fitF w A = true) (hB : fitF w B = true) (hc : sgnF w B < sgnF w A) {G : Int → BitVec 64 → BitVec 64 → Bool} (hG : G w A B = true) : heldT2 twoN G w A B (18446744073709551615#64 &&& maskF w) = T := by
  obtain ⟨f1, f2, f3, f4, f5⟩ := held_facts hA hB
  have e1 : BitVec.ofInt 8 1 = 1#8 := rfl
  have e20 : BitVec.ofInt 8 20 = 20#8 := rfl
  have e21 : BitVec.ofInt 8 21 = 21#8 := rfl
  have e24 : BitVec.ofInt 8 24 = 24#8 := rfl
  have t22 : twoN 22#8 w A B = B := ((twoN_eq hA hB).trans (show twoV 22#8 w A B = if sgnF w A < sgnF w B then A else B from rfl)).trans (if_neg (by omega))
  have ab : (A == B) = false := by rw [beq_eq_false_iff_ne]; intro e; rw [e] at hc; omega
  have ba : (B == A) = false := by rw [beq_eq_false_iff_ne]; intro e; rw [e] at hc; omega
  have r1 : ∀ x : BitVec 64, (x == x) = true := fun x => by simp
  unfold heldT2
  simp only [e1, e20, e21, e24, f3, f4, f5, hG, t22, ab, ba, decide_false, if_true, Bool.false_eq_true, if_false, r1, beq_self_eq_true, Bool.true_eq_false]
  by_cases g1 : A ≤ twoN 1#8 w A B
  · have g2 : ¬ twoN 1#8 w A B < A := by rw [BitVec.le_def] at g1; rw [BitVec.lt_def]; omega
    simp only [g1, g2, f1 g1, decide_true, decide_false, if_true, Bool.false_eq_true, if_false, r1, Bool.not_true]
    rfl
  · have g2 : twoN 1#8 w A B < A := by rw [BitVec.le_def] at g1; rw [BitVec.lt_def]; omega
    simp only [g1, g2, f2 g2, decide_true, decide_false, if_true, Bool.false_eq_true, if_false, r1, Bool.not_true]
    rfl
end Go.Wh
/-!
Whole numbers: lengths, zeros, ones.
-/
namespace Go.Wh
open Go.Ev Go.RowKit

/-! How many bits a number has -/
def lenF (n : Nat) : Nat := if n = 0 then 0 else n.log2 + 1
theorem len_iff (n k : Nat) : lenF n ≤ k ↔ n < 2 ^ k := by
  unfold lenF
  by_cases h : n = 0
  · subst h
    have := Nat.two_pow_pos k
    exact ⟨fun _ => this, fun _ => Nat.zero_le _⟩
  · rw [if_neg h, ← Nat.log2_lt h]
    omega
theorem len_of {n k : Nat} (h1 : n < 2 ^ k) (h2 : ∀ j, k = j + 1 → 2 ^ j ≤ n) : lenF n = k := by
  have a := (len_iff n k).2 h1
  cases k with
  | zero => omega
  | succ j =>
    have b := h2 j rfl
    have c : ¬ lenF n ≤ j := fun h => by have := (len_iff n j).1 h; omega
    omega
theorem len_shift {n s : Nat} (h : 2 ^ s ≤ n) : lenF n = s + lenF (n / 2 ^ s) := by
  have key : ∀ k, lenF n ≤ k + s ↔ lenF (n / 2 ^ s) ≤ k := fun k => by
    rw [len_iff, len_iff, Nat.div_lt_iff_lt_mul (Nat.two_pow_pos s), ← Nat.pow_add]
  have h1 : ¬ lenF n ≤ s := fun h2 => by have := (len_iff n s).1 h2; omega
  have k1 := (key (lenF (n / 2 ^ s))).2 (Nat.le_refl _)
  have k2 := (key (lenF n - s)).1 (by omega)
  omega
def lenA : Array UInt8 := ((List.append [0, 1, 2, 2, 3, 3, 3, 3, 4, 4, 4, 4, 4, 4, 4, 4, 5, 5, 5, 5, 5, 5, 5, 5, 5, 5, 5, 5, 5, 5, 5, 5, 6, 6, 6, 6, 6, 6, 6, 6, 6, 6, 6, 6, 6, 6, 6, 6, 6, 6, 6, 6, 6, 6, 6, 6, 6, 6, 6, 6, 6, 6, 6, 6] [7, 7, 7, 7, 7, 7, 7, 7, 7, 7, 7, 7, 7, 7, 7, 7, 7, 7, 7, 7, 7, 7, 7, 7, 7, 7, 7, 7, 7, 7, 7, 7, 7, 7, 7, 7, 7, 7, 7, 7, 7, 7, 7, 7, 7, 7, 7, 7, 7, 7, 7, 7, 7, 7, 7, 7, 7, 7, 7, 7, 7, 7, 7, 7]).append (List.append [8, 8, 8, 8, 8, 8, 8, 8, 8, 8, 8, 8, 8, 8, 8, 8, 8, 8, 8, 8, 8, 8, 8, 8, 8, 8, 8, 8, 8, 8, 8, 8, 8, 8, 8, 8, 8, 8, 8, 8, 8, 8, 8, 8, 8, 8, 8, 8, 8, 8, 8, 8, 8, 8, 8, 8, 8, 8, 8, 8, 8, 8, 8, 8] [8, 8, 8, 8, 8, 8, 8, 8, 8, 8, 8, 8, 8, 8, 8, 8, 8, 8, 8, 8, 8, 8, 8, 8, 8, 8, 8, 8, 8, 8, 8, 8, 8, 8, 8, 8, 8, 8, 8, 8, 8, 8, 8, 8, 8, 8, 8, 8, 8, 8, 8, 8, 8, 8, 8, 8, 8, 8, 8, 8, 8, 8, 8, 8])).toArray
def lenC (c : BitVec 8) : BitVec 8 := (lenA.getD c.toNat 0).toBitVec
theorem lenC_eq (c : BitVec 8) : (lenC c).toNat = lenF c.toNat := by
  revert c; decide +kernel
def lenL (s : Nat) (x : BitVec 64) : Option D := if 0 ≤ ((BitVec.setWidth 8 x).toNat : Int) ∧ (BitVec.setWidth 8 x).toNat < 256 then some (.i .i64 (IntKind.i64.wrap ((s : Int) + sOfU .i64 (lenC (BitVec.setWidth 8 x))))) else none
theorem lenL_eq {s : Nat} {x : BitVec 64} (hs : s ≤ 56) (h : x.toNat < 256) : lenL s x = some (.i .i64 ((s + lenF x.toNat : Nat) : Int)) := by
  unfold lenL
  have e : (BitVec.setWidth 8 x).toNat = x.toNat := by rw [BitVec.toNat_setWidth]; exact Nat.mod_eq_of_lt (by omega)
  have el := lenC_eq (BitVec.setWidth 8 x)
  have hl : lenF x.toNat ≤ 8 := (len_iff _ _).2 h
  rw [if_pos ⟨by omega, by rw [e]; exact h⟩]
  have es : sOfU .i64 (lenC (BitVec.setWidth 8 x)) = (lenF x.toNat : Int) := by
    unfold sOfU
    rw [if_pos (by decide), el, e]
  rw [es, wrap_in (by omega) (by omega)]
  rfl
def lenT (a : BitVec 64) : Option D :=
  if decide (BitVec.ofInt 64 4294967296 ≤ a) = true then
    if decide (BitVec.ofInt 64 65536 ≤ a >>> 32) = true then
      if decide (BitVec.ofInt 64 256 ≤ a >>> 32 >>> 16) = true then lenL 56 (a >>> 32 >>> 16 >>> 8) else lenL 48 (a >>> 32 >>> 16)
    else if decide (BitVec.ofInt 64 256 ≤ a >>> 32) = true then lenL 40 (a >>> 32 >>> 8) else lenL 32 (a >>> 32)
  else
    if decide (BitVec.ofInt 64 65536 ≤ a) = true then
      if decide (BitVec.ofInt 64 256 ≤ a >>> 16) = true then lenL 24 (a >>> 16 >>> 8) else lenL 16 (a >>> 16)
    else if decide (BitVec.ofInt 64 256 ≤ a) = true then lenL 8 (a >>> 8) else lenL 0 a
theorem lenT_eq (a : BitVec 64) : lenT a = some (.i .i64 (lenF a.toNat : Nat)) := by
  have al := a.isLt
  have e32 : (BitVec.ofInt 64 4294967296).toNat = 4294967296 := rfl
  have e16 : (BitVec.ofInt 64 65536).toNat = 65536 := rfl
  have e8 : (BitVec.ofInt 64 256).toNat = 256 := rfl
  have sh : ∀ (x : BitVec 64) (k : Nat), (x >>> k).toNat = x.toNat / 2 ^ k := fun x k => by rw [BitVec.toNat_ushiftRight, Nat.shiftRight_eq_div_pow]
  have d : ∀ {n s m : Nat}, 2 ^ s ≤ n → n / 2 ^ s < 2 ^ m → True := fun _ _ => trivial
  unfold lenT
  simp only [decide_eq_true_eq, BitVec.le_def, sh, e32, e16, e8]
  have fin : ∀ (s : Nat) (x : BitVec 64), s ≤ 56 → x.toNat < 256 → s + lenF x.toNat = lenF a.toNat → lenL s x = some (.i .i64 (lenF a.toNat : Nat)) := fun s x hs hx he => by rw [lenL_eq hs hx, he]
  have s8 : ∀ n : Nat, 256 ≤ n → lenF n = 8 + lenF (n / 2 ^ 8) := fun n h => len_shift (by omega)
  have s16 : ∀ n : Nat, 65536 ≤ n → lenF n = 16 + lenF (n / 2 ^ 16) := fun n h => len_shift (by omega)
  have s32 : ∀ n : Nat, 4294967296 ≤ n → lenF n = 32 + lenF (n / 2 ^ 32) := fun n h => len_shift (by omega)
  split
  · rename_i h1
    split
    · rename_i h2
      split
      · rename_i h3
        refine fin _ _ (by omega) (by simp only [sh]; omega) ?_
        simp only [sh]
        rw [s32 _ h1, s16 _ h2, s8 _ h3]; omega
      · rename_i h3
        refine fin _ _ (by omega) (by simp only [sh]; omega) ?_
        simp only [sh]
        rw [s32 _ h1, s16 _ h2]; omega
    · rename_i h2
      split
      · rename_i h3
        refine fin _ _ (by omega) (by simp only [sh]; omega) ?_
        simp only [sh]
        rw [s32 _ h1, s8 _ h3]; omega
      · rename_i h3
        refine fin _ _ (by omega) (by simp only [sh]; omega) ?_
        simp only [sh]
        rw [s32 _ h1]
  · rename_i h1
    split
    · rename_i h2
      split
      · rename_i h3
        refine fin _ _ (by omega) (by simp only [sh]; omega) ?_
        simp only [sh]
        rw [s16 _ h2, s8 _ h3]; omega
      · rename_i h3
        refine fin _ _ (by omega) (by simp only [sh]; omega) ?_
        simp only [sh]
        rw [s16 _ h2]
    · rename_i h2
      split
      · rename_i h3
        refine fin _ _ (by omega) (by simp only [sh]; omega) ?_
        simp only [sh]
        rw [s8 _ h3]
      · rename_i h3
        refine fin _ _ (by omega) (by omega) (by omega)
theorem len_le64 (a : BitVec 64) : lenF a.toNat ≤ 64 := (len_iff _ _).2 a.isLt
theorem len_fit {w : Int} {a : BitVec 64} (h : fitF w a = true) : (lenF a.toNat : Int) ≤ w := by
  obtain ⟨hw, ha⟩ := fitF_nat h
  have key : ∀ k : Nat, pw w = ((2 ^ k : Nat) : Int) → w = k → (lenF a.toNat : Int) ≤ w := fun k h1 h2 => by
    have : lenF a.toNat ≤ k := (len_iff _ _).2 (by omega)
    omega
  rcases okW_cases hw with rfl | rfl | rfl | rfl
  · exact key 8 rfl rfl
  · exact key 16 rfl rfl
  · exact key 32 rfl rfl
  · exact key 64 rfl rfl

/-! The lowest bit -/
/-- k is the place of the lowest bit. -/
def Low (a : BitVec 64) (k : Nat) : Prop := k < 64 ∧ a.getLsbD k = true ∧ ∀ j, j < k → a.getLsbD j = false
theorem low_ex {a : BitVec 64} (h : a ≠ 0#64) : ∃ k, Low a k := by
  have h1 : ∃ k, k < 64 ∧ a.getLsbD k = true := by
    refine Classical.byContradiction fun hn => h (BitVec.eq_of_getLsbD_eq fun j hj => ?_)
    rw [BitVec.getLsbD_zero]
    cases hb : a.getLsbD j
    · rfl
    · exact absurd ⟨j, hj, hb⟩ hn
  obtain ⟨k, hk, hb⟩ := h1
  have : ∀ n, ∀ k, k ≤ n → k < 64 → a.getLsbD k = true → ∃ k, Low a k := by
    intro n
    induction n with
    | zero => intro k h1 h2 h3; exact ⟨k, h2, h3, fun j hj => by omega⟩
    | succ n ih =>
      intro k h1 h2 h3
      by_cases hc : ∃ j, j < k ∧ a.getLsbD j = true
      · obtain ⟨j, h4, h5⟩ := hc
        exact ih j (by omega) (by omega) h5
      · refine ⟨k, h2, h3, fun j hj => ?_⟩
        cases hb : a.getLsbD j
        · rfl
        · exact absurd ⟨j, hj, hb⟩ hc
  exact this k k (Nat.le_refl _) hk hb
theorem low_uniq {a : BitVec 64} {k l : Nat} (h : Low a k) (h2 : Low a l) : k = l := by
  obtain ⟨a1, a2, a3⟩ := h
  obtain ⟨b1, b2, b3⟩ := h2
  rcases Nat.lt_trichotomy k l with h | h | h
  · rw [b3 k h] at a2; cases a2
  · exact h
  · rw [a3 l h] at b2; cases b2
theorem low_and {a : BitVec 64} {k : Nat} (h : Low a k) : a &&& (0#64 - a) = 1#64 <<< k := by
  obtain ⟨h1, h2, h3⟩ := h
  have hn : 0#64 - a = -a := by simp
  rw [hn]
  apply BitVec.eq_of_getLsbD_eq
  intro j hj
  rw [BitVec.getLsbD_and, BitVec.getLsbD_neg, BitVec.getLsbD_shiftLeft, BitVec.getLsbD_one]
  rcases Nat.lt_trichotomy j k with h | h | h
  · rw [h3 j h]
    simp [h]
  · subst h
    have e : decide (∃ i, i < j ∧ a.getLsbD i = true) = false := decide_eq_false fun ⟨i, hi, hb⟩ => by rw [h3 i hi] at hb; cases hb
    rw [h2, e]
    simp [hj]
  · have e : decide (∃ i, i < j ∧ a.getLsbD i = true) = true := decide_eq_true ⟨k, h, h2⟩
    rw [e]
    have e2 : decide (j - k = 0) = false := decide_eq_false (by omega)
    have e3 : decide (j < 64) = true := decide_eq_true hj
    rw [e2, e3, Bool.and_false, Bool.and_false]
    cases a.getLsbD j <;> rfl
end Go.Wh
/-!
Whole numbers: how many bits are 1.
-/
namespace Go.Wh
open Go.Ev Go.RowKit

def popN : Nat → Nat → Nat
  | 0, _ => 0
  | k + 1, x => x % 2 + popN k (x / 2)
def mk8 : Nat → Nat → Nat
  | 0, _ => 0
  | n + 1, m => m + 256 * mk8 n m
def P8 (f : Nat → Nat) : Nat → Nat → Nat
  | 0, _ => 0
  | n + 1, x => f (x % 256) + 256 * P8 f n (x / 256)
def pc1 (y : Nat) : Nat := (y / 2 &&& 0x55) + (y &&& 0x55)
def pc2 (y : Nat) : Nat := (y / 4 &&& 0x33) + (y &&& 0x33)
def pc3 (y : Nat) : Nat := (y / 16 + y) &&& 0x0f
theorem and_split (x m M : Nat) (hm : m < 256) : x &&& (m + 256 * M) = ((x % 256) &&& m) + 256 * ((x / 256) &&& M) := by
  have h1 : (x &&& (m + 256 * M)) % 2 ^ 8 = (x % 2 ^ 8) &&& ((m + 256 * M) % 2 ^ 8) := Nat.and_mod_two_pow
  have h2 : (x &&& (m + 256 * M)) / 2 ^ 8 = (x / 2 ^ 8) &&& ((m + 256 * M) / 2 ^ 8) := Nat.and_div_two_pow
  have e1 : (m + 256 * M) % 2 ^ 8 = m := by omega
  have e2 : (m + 256 * M) / 2 ^ 8 = M := by omega
  rw [e1] at h1
  rw [e2] at h2
  have h3 := Nat.div_add_mod (x &&& (m + 256 * M)) (2 ^ 8)
  rw [h1, h2] at h3
  have p : (2 : Nat) ^ 8 = 256 := rfl
  rw [p] at h3
  omega
theorem low55 : ∀ y, y < 128 → ∀ b, b < 2 → (y + 128 * b) &&& 0x55 = y &&& 0x55 := by decide +kernel
theorem low33 : ∀ y, y < 64 → ∀ b, b < 4 → (y + 64 * b) &&& 0x33 = y &&& 0x33 := by decide +kernel
theorem step1 : ∀ n x : Nat, (x / 2 &&& mk8 n 0x55) + (x &&& mk8 n 0x55) = P8 pc1 n x
  | 0, x => by simp [mk8, P8]
  | n + 1, x => by
    have ih := step1 n (x / 256)
    simp only [mk8, P8, pc1]
    rw [and_split _ _ _ (by decide), and_split _ _ _ (by decide)]
    have e1 : x / 2 / 256 = x / 256 / 2 := by omega
    have e2 : x / 2 % 256 = x % 256 / 2 + 128 * (x / 256 % 2) := by omega
    rw [e1, e2, low55 _ (by omega) _ (by omega)]
    omega
theorem step2 : ∀ n x : Nat, (x / 4 &&& mk8 n 0x33) + (x &&& mk8 n 0x33) = P8 pc2 n x
  | 0, x => by simp [mk8, P8]
  | n + 1, x => by
    have ih := step2 n (x / 256)
    simp only [mk8, P8, pc2]
    rw [and_split _ _ _ (by decide), and_split _ _ _ (by decide)]
    have e1 : x / 4 / 256 = x / 256 / 4 := by omega
    have e2 : x / 4 % 256 = x % 256 / 4 + 64 * (x / 256 % 4) := by omega
    rw [e1, e2, low33 _ (by omega) _ (by omega)]
    omega
/-- Each half of a byte is at most 4. -/
def Q8 : Nat → Nat → Prop
  | 0, _ => True
  | n + 1, x => x % 16 ≤ 4 ∧ x / 16 % 16 ≤ 4 ∧ Q8 n (x / 256)
theorem low0f (a b : Nat) (ha : a < 16) : (a + 16 * b) &&& 0x0f = a := by
  have h1 : (a + 16 * b) &&& (2 ^ 4 - 1) = (a + 16 * b) % 2 ^ 4 := Nat.and_two_pow_sub_one_eq_mod _ _
  have e : (2 : Nat) ^ 4 - 1 = 0x0f := rfl
  rw [e] at h1
  rw [h1]
  omega
theorem step3 : ∀ n x : Nat, Q8 n x → (x / 16 + x) &&& mk8 n 0x0f = P8 pc3 n x
  | 0, x, _ => by simp [mk8, P8]
  | n + 1, x, ⟨h1, h2, h3⟩ => by
    have ih := step3 n (x / 256) h3
    simp only [mk8, P8, pc3]
    rw [and_split _ _ _ (by decide)]
    have r : x / 256 % 16 ≤ 15 := by omega
    cases n with
    | zero =>
      simp only [mk8, P8, Nat.and_zero, Nat.mul_zero, Nat.add_zero]
      have e2 : (x / 16 + x) % 256 = (x % 16 + x / 16 % 16) + 16 * ((x / 16 + x) % 256 / 16) := by omega
      have e3 : x % 256 / 16 + x % 256 = (x % 16 + x / 16 % 16) + 16 * (x % 256 / 16) := by omega
      rw [e2, low0f _ _ (by omega), e3, low0f _ _ (by omega)]
    | succ m =>
      obtain ⟨h4, h5, h6⟩ := h3
      have e1 : (x / 16 + x) / 256 = x / 256 / 16 + x / 256 := by
        have hx : x = x % 16 + 16 * (x / 16 % 16) + 256 * (x / 256 % 16) + 4096 * (x / 256 / 16) := by omega
        have hd : x / 16 = x / 16 % 16 + 16 * (x / 256 % 16) + 256 * (x / 256 / 16) := by omega
        have hq : x / 256 = x / 256 % 16 + 16 * (x / 256 / 16) := by omega
        generalize x % 16 = y0 at *
        generalize x / 16 % 16 = y1 at *
        generalize x / 256 % 16 = y2 at *
        generalize x / 256 / 16 = y3 at *
        omega
      have e2 : (x / 16 + x) % 256 = (x % 16 + x / 16 % 16) + 16 * ((x / 16 + x) % 256 / 16) := by omega
      have e3 : x % 256 / 16 + x % 256 = (x % 16 + x / 16 % 16) + 16 * (x % 256 / 16) := by omega
      rw [e1, ih, e2, low0f _ _ (by omega), e3, low0f _ _ (by omega)]
theorem P8_get {f : Nat → Nat} (hf : ∀ y, y < 256 → f y < 256) (n x : Nat) : P8 f (n + 1) x % 256 = f (x % 256) ∧ P8 f (n + 1) x / 256 = P8 f n (x / 256) := by
  have := hf (x % 256) (Nat.mod_lt _ (by decide))
  simp only [P8]
  constructor <;> omega
theorem P8_comp {f g : Nat → Nat} (hf : ∀ y, y < 256 → f y < 256) : ∀ n x, P8 g n (P8 f n x) = P8 (fun y => g (f y)) n x
  | 0, _ => rfl
  | n + 1, x => by
    obtain ⟨h1, h2⟩ := P8_get hf n x
    show g (P8 f (n + 1) x % 256) + 256 * P8 g n (P8 f (n + 1) x / 256) = _
    rw [h1, h2, P8_comp hf n]
    rfl
theorem Q8_P8 {f : Nat → Nat} (hf : ∀ y, y < 256 → f y < 256) (hq : ∀ y, y < 256 → f y % 16 ≤ 4 ∧ f y / 16 ≤ 4) : ∀ n x, Q8 n (P8 f n x)
  | 0, _ => trivial
  | n + 1, x => by
    obtain ⟨h1, h2⟩ := P8_get hf n x
    obtain ⟨q1, q2⟩ := hq (x % 256) (Nat.mod_lt _ (by decide))
    refine ⟨?_, ?_, ?_⟩
    · omega
    · omega
    · rw [h2]; exact Q8_P8 hf hq n _
theorem pc1_lt : ∀ y, y < 256 → pc1 y < 256 := by decide +kernel
theorem pc2_lt : ∀ y, y < 256 → pc2 (pc1 y) < 256 := by decide +kernel
theorem pc2_q : ∀ y, y < 256 → pc2 (pc1 y) % 16 ≤ 4 ∧ pc2 (pc1 y) / 16 ≤ 4 := by decide +kernel
theorem pc3_pop : ∀ y, y < 256 → pc3 (pc2 (pc1 y)) = popN 8 y := by decide +kernel
theorem pop8_le : ∀ y, y < 256 → popN 8 y ≤ 8 := by decide +kernel
theorem pop_add : ∀ (k m x : Nat), popN (k + m) x = popN k x + popN m (x / 2 ^ k)
  | 0, m, x => by simp [popN]
  | k + 1, m, x => by
    rw [show k + 1 + m = (k + m) + 1 by omega]
    simp only [popN]
    rw [pop_add k m (x / 2), Nat.div_div_eq_div_mul, Nat.add_assoc]
    congr 3
    rw [Nat.pow_succ, Nat.mul_comm]
theorem pop8_mod (x : Nat) : popN 8 x = popN 8 (x % 256) := by
  simp only [popN]
  omega
theorem P8_lt {f : Nat → Nat} (hf : ∀ y, y < 256 → f y < 256) : ∀ n x, P8 f n x < 256 ^ n
  | 0, _ => by simp [P8]
  | n + 1, x => by
    have h1 := hf (x % 256) (Nat.mod_lt _ (by decide))
    have h2 := P8_lt hf n (x / 256)
    simp only [P8, Nat.pow_succ]
    omega
theorem P8_congr {f g : Nat → Nat} (h : ∀ y, y < 256 → f y = g y) : ∀ n x, P8 f n x = P8 g n x
  | 0, _ => rfl
  | n + 1, x => by simp only [P8]; rw [h _ (Nat.mod_lt _ (by decide)), P8_congr h n]
theorem pop_all (x : Nat) : (let z := P8 pc1 8 x; let y := P8 pc2 8 z; P8 pc3 8 y) = P8 (popN 8) 8 x := by
  show P8 pc3 8 (P8 pc2 8 (P8 pc1 8 x)) = _
  rw [P8_comp pc1_lt 8 x, P8_comp pc2_lt 8 x]
  exact P8_congr pc3_pop 8 x
theorem pop_sum (x : Nat) : popN 64 x = popN 8 (x % 256) + popN 8 (x / 256 % 256) + popN 8 (x / 256 / 256 % 256) + popN 8 (x / 256 / 256 / 256 % 256) + popN 8 (x / 256 / 256 / 256 / 256 % 256) + popN 8 (x / 256 / 256 / 256 / 256 / 256 % 256) + popN 8 (x / 256 / 256 / 256 / 256 / 256 / 256 % 256) + popN 8 (x / 256 / 256 / 256 / 256 / 256 / 256 / 256 % 256) := by
  have s : ∀ k y, popN (8 + k) y = popN 8 (y % 256) + popN k (y / 256) := fun k y => by rw [pop_add, pop8_mod]
  rw [show (64 : Nat) = 8 + (8 + (8 + (8 + (8 + (8 + (8 + (8 + 0))))))) from rfl, s, s, s, s, s, s, s, s]
  simp only [popN]
  omega
def onesF (a : BitVec 64) : BitVec 64 :=
  let x1 := (a >>> 1 &&& 6148914691236517205#64) + (a &&& 6148914691236517205#64)
  let x2 := (x1 >>> 2 &&& 3689348814741910323#64) + (x1 &&& 3689348814741910323#64)
  let x3 := (x2 >>> 4 + x2) &&& 1085102592571150095#64
  let x4 := x3 + x3 >>> 8
  let x5 := x4 + x4 >>> 16
  x5 + x5 >>> 32
theorem ar8 (b0 b1 b2 b3 b4 b5 b6 b7 : Nat) (h0 : b0 ≤ 8) : (b0 + 256 * b1 + 65536 * b2 + 16777216 * b3 + 4294967296 * b4 + 1099511627776 * b5 + 281474976710656 * b6 + 72057594037927936 * b7) / 2 ^ 8 = b1 + 256 * b2 + 65536 * b3 + 16777216 * b4 + 4294967296 * b5 + 1099511627776 * b6 + 281474976710656 * b7 := by omega
theorem ar16 (c0 c1 c2 c3 c4 c5 c6 c7 : Nat) (h0 : c0 ≤ 16) (h1 : c1 ≤ 16) : (c0 + 256 * c1 + 65536 * c2 + 16777216 * c3 + 4294967296 * c4 + 1099511627776 * c5 + 281474976710656 * c6 + 72057594037927936 * c7) / 2 ^ 16 = c2 + 256 * c3 + 65536 * c4 + 16777216 * c5 + 4294967296 * c6 + 1099511627776 * c7 := by omega
theorem ar32 (c0 c1 c2 c3 c4 c5 c6 c7 : Nat) (h0 : c0 ≤ 32) (h1 : c1 ≤ 32) (h2 : c2 ≤ 32) (h3 : c3 ≤ 32) : (c0 + 256 * c1 + 65536 * c2 + 16777216 * c3 + 4294967296 * c4 + 1099511627776 * c5 + 281474976710656 * c6 + 72057594037927936 * c7) / 2 ^ 32 = c4 + 256 * c5 + 65536 * c6 + 16777216 * c7 := by omega
theorem below64 (c0 c1 c2 c3 c4 c5 c6 c7 : Nat) (h0 : c0 ≤ 64) (h1 : c1 ≤ 64) (h2 : c2 ≤ 64) (h3 : c3 ≤ 64) (h4 : c4 ≤ 64) (h5 : c5 ≤ 64) (h6 : c6 ≤ 64) (h7 : c7 ≤ 64) : (c0 + 256 * c1 + 65536 * c2 + 16777216 * c3 + 4294967296 * c4 + 1099511627776 * c5 + 281474976710656 * c6 + 72057594037927936 * c7) % 2 ^ 64 = c0 + 256 * c1 + 65536 * c2 + 16777216 * c3 + 4294967296 * c4 + 1099511627776 * c5 + 281474976710656 * c6 + 72057594037927936 * c7 := Nat.mod_eq_of_lt (by omega)
theorem ad8 (b0 b1 b2 b3 b4 b5 b6 b7 : Nat) : (b0 + 256 * b1 + 65536 * b2 + 16777216 * b3 + 4294967296 * b4 + 1099511627776 * b5 + 281474976710656 * b6 + 72057594037927936 * b7) + (b1 + 256 * b2 + 65536 * b3 + 16777216 * b4 + 4294967296 * b5 + 1099511627776 * b6 + 281474976710656 * b7) = (b0 + b1) + 256 * (b1 + b2) + 65536 * (b2 + b3) + 16777216 * (b3 + b4) + 4294967296 * (b4 + b5) + 1099511627776 * (b5 + b6) + 281474976710656 * (b6 + b7) + 72057594037927936 * b7 := by omega
theorem ad16 (c0 c1 c2 c3 c4 c5 c6 c7 : Nat) : (c0 + 256 * c1 + 65536 * c2 + 16777216 * c3 + 4294967296 * c4 + 1099511627776 * c5 + 281474976710656 * c6 + 72057594037927936 * c7) + (c2 + 256 * c3 + 65536 * c4 + 16777216 * c5 + 4294967296 * c6 + 1099511627776 * c7) = (c0 + c2) + 256 * (c1 + c3) + 65536 * (c2 + c4) + 16777216 * (c3 + c5) + 4294967296 * (c4 + c6) + 1099511627776 * (c5 + c7) + 281474976710656 * c6 + 72057594037927936 * c7 := by omega
theorem ad32 (c0 c1 c2 c3 c4 c5 c6 c7 : Nat) : (c0 + 256 * c1 + 65536 * c2 + 16777216 * c3 + 4294967296 * c4 + 1099511627776 * c5 + 281474976710656 * c6 + 72057594037927936 * c7) + (c4 + 256 * c5 + 65536 * c6 + 16777216 * c7) = (c0 + c4) + 256 * (c1 + c5) + 65536 * (c2 + c6) + 16777216 * (c3 + c7) + 4294967296 * c4 + 1099511627776 * c5 + 281474976710656 * c6 + 72057594037927936 * c7 := by omega
theorem last8 (c0 c1 c2 c3 c4 c5 c6 c7 : Nat) (h0 : c0 ≤ 64) : (c0 + 256 * c1 + 65536 * c2 + 16777216 * c3 + 4294967296 * c4 + 1099511627776 * c5 + 281474976710656 * c6 + 72057594037927936 * c7) % 128 = c0 := by omega
theorem step32 (x5 : BitVec 64) (c0 c1 c2 c3 c4 c5 c6 c7 : Nat) (h0 : c0 ≤ 32) (h1 : c1 ≤ 32) (h2 : c2 ≤ 32) (h3 : c3 ≤ 32) (h4 : c4 ≤ 32) (h5 : c5 ≤ 32) (h6 : c6 ≤ 32) (h7 : c7 ≤ 32) (y5 : x5.toNat = c0 + 256 * c1 + 65536 * c2 + 16777216 * c3 + 4294967296 * c4 + 1099511627776 * c5 + 281474976710656 * c6 + 72057594037927936 * c7) : (x5 + x5 >>> 32).toNat % 128 = c0 + c4 := by
  rw [BitVec.toNat_add, BitVec.toNat_ushiftRight, Nat.shiftRight_eq_div_pow, y5, ar32 c0 c1 c2 c3 c4 c5 c6 c7 h0 h1 h2 h3, ad32 c0 c1 c2 c3 c4 c5 c6 c7, below64 (c0 + c4) (c1 + c5) (c2 + c6) (c3 + c7) c4 c5 c6 c7 (by omega) (by omega) (by omega) (by omega) (by omega) (by omega) (by omega) (by omega), last8 (c0 + c4) (c1 + c5) (c2 + c6) (c3 + c7) c4 c5 c6 c7 (by omega)]
theorem ones_bytes (x3 : BitVec 64) (b0 b1 b2 b3 b4 b5 b6 b7 : Nat) (h0 : b0 ≤ 8) (h1 : b1 ≤ 8) (h2 : b2 ≤ 8) (h3 : b3 ≤ 8) (h4 : b4 ≤ 8) (h5 : b5 ≤ 8) (h6 : b6 ≤ 8) (h7 : b7 ≤ 8)
    (hx : x3.toNat = b0 + 256 * b1 + 65536 * b2 + 16777216 * b3 + 4294967296 * b4 + 1099511627776 * b5 + 281474976710656 * b6 + 72057594037927936 * b7) :
    (((x3 + x3 >>> 8) + (x3 + x3 >>> 8) >>> 16) + ((x3 + x3 >>> 8) + (x3 + x3 >>> 8) >>> 16) >>> 32 &&& BitVec.ofInt 64 127).toNat = b0 + b1 + b2 + b3 + b4 + b5 + b6 + b7 := by
  have sh : ∀ (x : BitVec 64) (k : Nat), (x >>> k).toNat = x.toNat / 2 ^ k := fun x k => by rw [BitVec.toNat_ushiftRight, Nat.shiftRight_eq_div_pow]
  have m127 : ∀ y : BitVec 64, (y &&& BitVec.ofInt 64 127).toNat = y.toNat % 128 := fun y => by
    rw [BitVec.toNat_and]
    exact Nat.and_two_pow_sub_one_eq_mod y.toNat 7
  have y4 : (x3 + x3 >>> 8).toNat = (b0 + b1) + 256 * (b1 + b2) + 65536 * (b2 + b3) + 16777216 * (b3 + b4) + 4294967296 * (b4 + b5) + 1099511627776 * (b5 + b6) + 281474976710656 * (b6 + b7) + 72057594037927936 * b7 := by
    rw [BitVec.toNat_add, sh, hx, ar8 _ _ _ _ _ _ _ _ h0, ad8, below64 _ _ _ _ _ _ _ _ (by omega) (by omega) (by omega) (by omega) (by omega) (by omega) (by omega) (by omega)]
  generalize x3 + x3 >>> 8 = x4 at *
  have y5 : (x4 + x4 >>> 16).toNat = (b0 + b1 + (b2 + b3)) + 256 * (b1 + b2 + (b3 + b4)) + 65536 * (b2 + b3 + (b4 + b5)) + 16777216 * (b3 + b4 + (b5 + b6)) + 4294967296 * (b4 + b5 + (b6 + b7)) + 1099511627776 * (b5 + b6 + b7) + 281474976710656 * (b6 + b7) + 72057594037927936 * b7 := by
    rw [BitVec.toNat_add, sh, y4, ar16 _ _ _ _ _ _ _ _ (by omega) (by omega), ad16, below64 _ _ _ _ _ _ _ _ (by omega) (by omega) (by omega) (by omega) (by omega) (by omega) (by omega) (by omega)]
  generalize x4 + x4 >>> 16 = x5 at *
  rw [m127, step32 x5 _ _ _ _ _ _ _ _ (by omega) (by omega) (by omega) (by omega) (by omega) (by omega) (by omega) (by omega) y5]
  omega
theorem ones_fin {n : Nat} (x3 : BitVec 64) (k3' : x3.toNat = P8 (popN 8) 8 n) : (((x3 + x3 >>> 8) + (x3 + x3 >>> 8) >>> 16) + ((x3 + x3 >>> 8) + (x3 + x3 >>> 8) >>> 16) >>> 32 &&& BitVec.ofInt 64 127).toNat = popN 64 n := by
  rw [pop_sum]
  have z := fun y => pop8_le (y % 256) (Nat.mod_lt _ (by decide))
  refine ones_bytes x3 _ _ _ _ _ _ _ _ (z _) (z _) (z _) (z _) (z _) (z _) (z _) (z _) ?_
  rw [k3']
  simp only [P8, Nat.mul_add, ← Nat.mul_assoc, Nat.mul_zero, Nat.add_zero, ← Nat.add_assoc]
theorem ones_eq (a : BitVec 64) : (onesF a &&& BitVec.ofInt 64 127).toNat = popN 64 a.toNat := by
  have sh : ∀ (x : BitVec 64) (k : Nat), (x >>> k).toNat = x.toNat / 2 ^ k := fun x k => by rw [BitVec.toNat_ushiftRight, Nat.shiftRight_eq_div_pow]
  have c5 : (6148914691236517205#64).toNat = mk8 8 0x55 := by decide
  have c3 : (3689348814741910323#64).toNat = mk8 8 0x33 := by decide
  have cf : (1085102592571150095#64).toNat = mk8 8 0x0f := by decide
  have bd : ∀ {f : Nat → Nat}, (∀ y, y < 256 → f y < 256) → ∀ x, P8 f 8 x < 18446744073709551616 := fun {f} hf x => P8_lt hf 8 x
  have k1 : ((a >>> 1 &&& 6148914691236517205#64) + (a &&& 6148914691236517205#64)).toNat = P8 pc1 8 a.toNat := by
    rw [BitVec.toNat_add, BitVec.toNat_and, BitVec.toNat_and, sh, c5, Nat.pow_one, step1]
    exact Nat.mod_eq_of_lt (bd pc1_lt _)
  have k2 : ∀ x1 : BitVec 64, x1.toNat = P8 pc1 8 a.toNat → ((x1 >>> 2 &&& 3689348814741910323#64) + (x1 &&& 3689348814741910323#64)).toNat = P8 (fun y => pc2 (pc1 y)) 8 a.toNat := fun x1 h => by
    rw [BitVec.toNat_add, BitVec.toNat_and, BitVec.toNat_and, sh, c3, h, show (2 : Nat) ^ 2 = 4 from rfl, step2, P8_comp pc1_lt]
    exact Nat.mod_eq_of_lt (bd pc2_lt _)
  have k3 : ∀ x2 : BitVec 64, x2.toNat = P8 (fun y => pc2 (pc1 y)) 8 a.toNat → ((x2 >>> 4 + x2) &&& 1085102592571150095#64).toNat = P8 (popN 8) 8 a.toNat := fun x2 h => by
    have q := Q8_P8 pc2_lt pc2_q 8 a.toNat
    have b := bd pc2_lt a.toNat
    rw [← h] at q b
    have hl : x2.toNat / 16 + x2.toNat < 18446744073709551616 := by
      obtain ⟨_, _, _, _, _, _, _, _, _, _, _, _, _, _, q1, q2, _⟩ := q
      omega
    rw [BitVec.toNat_and, BitVec.toNat_add, sh, cf, show (2 : Nat) ^ 4 = 16 from rfl, Nat.mod_eq_of_lt hl, step3 8 _ q, h, P8_comp pc2_lt]
    exact P8_congr pc3_pop 8 _
  exact ones_fin _ (k3 _ (k2 _ k1))
end Go.Wh
/-!
Whole numbers: the operators of one.
-/
namespace Go.Wh
open Go.Ev Go.RowKit

def tzF (a : BitVec 64) : Int := (Lib.ctz 64 a.toNat : Nat)
def oneT (o : BitVec 8) (w : Int) (a : BitVec 64) : Option D :=
  if (o == 26#8) = true then some (.tup [.u64 (BitVec.ofInt 64 (w - lenF a.toNat)), .i .i64 0]) else
  if (o == 27#8) = true then some (.tup [.u64 (BitVec.ofInt 64 (min (tzF a) w)), .i .i64 0]) else
  if (o == 28#8) = true then some (.tup [.u64 (BitVec.ofInt 64 (popN 64 a.toNat : Nat)), .i .i64 0]) else
  if (o == 29#8) = true then some (.tup [.u64 (if 0 ≤ sgnF w a then a else -a &&& maskF w), .i .i64 0]) else
  if (o == 30#8) = true then some (.tup [.u64 (-a &&& maskF w), .i .i64 0]) else
  if (o == 31#8) = true then some (.tup [.u64 (~~~a &&& maskF w), .i .i64 0]) else
  some (.tup [.u64 0#64, .i .i64 2])
def oneV (o : BitVec 8) (w : Int) (a : BitVec 64) : BitVec 64 :=
  if (o == 26#8) = true then BitVec.ofInt 64 (w - lenF a.toNat) else
  if (o == 27#8) = true then BitVec.ofInt 64 (min (tzF a) w) else
  if (o == 28#8) = true then BitVec.ofInt 64 (popN 64 a.toNat : Nat) else
  if (o == 29#8) = true then (if 0 ≤ sgnF w a then a else -a &&& maskF w) else
  if (o == 30#8) = true then -a &&& maskF w else
  if (o == 31#8) = true then ~~~a &&& maskF w else 0#64
def oneE (o : BitVec 8) : Int := if (o == 26#8) = true then 0 else if (o == 27#8) = true then 0 else if (o == 28#8) = true then 0 else if (o == 29#8) = true then 0 else if (o == 30#8) = true then 0 else if (o == 31#8) = true then 0 else 2
theorem oneT_eq (o : BitVec 8) (w : Int) (a : BitVec 64) : oneT o w a = some (.tup [.u64 (oneV o w a), .i .i64 (oneE o)]) := by
  unfold oneT oneV oneE
  generalize (o == 26#8) = c1
  generalize (o == 27#8) = c2
  generalize (o == 28#8) = c3
  generalize (o == 29#8) = c4
  generalize (o == 30#8) = c5
  generalize (o == 31#8) = c6
  cases c1
  · cases c2
    · cases c3
      · cases c4
        · cases c5
          · cases c6 <;> rfl
          · rfl
        · rfl
      · rfl
    · rfl
  · rfl
def oneN (o : BitVec 8) (w : Int) (a : BitVec 64) : BitVec 64 := ifF (mayF w [a]) (oneV o w a)
def oneR (o : BitVec 8) (w : Int) (a : BitVec 64) : Int := if mayF w [a] = true then oneE o else 2
theorem one_end {o : BitVec 8} {w : Int} {a : BitVec 64} {x : Option D} (h : mayF w [a] = true → x = oneT o w a) : (if (!mayF w [a]) = true then some (D.tup [.u64 0#64, .i .i64 2]) else x) = some (.tup [.u64 (oneN o w a), .i .i64 (oneR o w a)]) := by
  unfold oneN oneR
  cases hm : mayF w [a]
  · rfl
  · rw [if_neg (by simp), h hm, oneT_eq]
    rfl
/-- The program's. -/
def oneP (l t p : BitVec 64 → Int) (o : BitVec 8) (w : Int) (a : BitVec 64) : Option D :=
  if (o == 26#8) = true then some (D.tup [D.u64 (BitVec.ofInt 64 (IntKind.i64.wrap (IntKind.i64.wrap (l a - 64) + w))), D.i IntKind.i64 0]) else
  if (o == 27#8) = true then some (D.tup [D.u64 (BitVec.ofInt 64 (if w < t a then w else t a)), D.i IntKind.i64 0]) else
  if (o == 28#8) = true then some (D.tup [D.u64 (BitVec.ofInt 64 (p a)), D.i IntKind.i64 0]) else
  if (o == 29#8) = true then (if fitF w a = true then if decide (0 ≤ sgnF w a) = true then some (D.tup [D.u64 a, D.i IntKind.i64 0]) else if okW w = true then some (D.tup [D.u64 (-a &&& maskF w), D.i IntKind.i64 0]) else none else none) else
  if (o == 30#8) = true then (if okW w = true then some (D.tup [D.u64 (-a &&& maskF w), D.i IntKind.i64 0]) else none) else
  if (o == 31#8) = true then (if okW w = true then some (D.tup [D.u64 (~~~a &&& maskF w), D.i IntKind.i64 0]) else none) else
  some (D.tup [D.u64 0#64, D.i IntKind.i64 2])
theorem oneP_eq {o : BitVec 8} {w : Int} {a : BitVec 64} (h : mayF w [a] = true) : oneP (fun a => 64 - (lenF a.toNat : Nat)) tzF (fun a => (popN 64 a.toNat : Nat)) o w a = oneT o w a := by
  have ha := may_fit1 h
  have hw := (fitF_nat ha).1
  obtain ⟨g1, g2⟩ := okW_rng hw
  have l64 := len_le64 a
  have e1 : IntKind.i64.wrap (IntKind.i64.wrap (64 - ((lenF a.toNat : Nat) : Int) - 64) + w) = w - ((lenF a.toNat : Nat) : Int) := by
    rw [wrap_in (n := 64 - ((lenF a.toNat : Nat) : Int) - 64) (by omega) (by omega), wrap_in (by omega) (by omega)]
    omega
  have e2 : (if w < tzF a then w else tzF a) = min (tzF a) w := by split <;> omega
  unfold oneP oneT
  simp only [e1, e2, ha, hw, if_true, decide_eq_true_eq]
  by_cases h0 : 0 ≤ sgnF w a
  · simp only [h0, if_true]
  · simp only [h0, if_false]

/-! what the reference's rounds count -/
theorem pop_step (i x : Nat) : popN (i + 1) x = popN i x + x / 2 ^ i % 2 := by
  rw [pop_add]; simp [popN]
theorem pop_zero : ∀ k, popN k 0 = 0
  | 0 => rfl
  | k + 1 => by simp [popN, pop_zero k]
theorem pop_fit {w : Int} {a : BitVec 64} (h : fitF w a = true) : popN w.toNat a.toNat = popN 64 a.toNat := by
  obtain ⟨hw, ha⟩ := fitF_nat h
  obtain ⟨g1, g2⟩ := okW_rng hw
  have hz : a.toNat / 2 ^ w.toNat = 0 := by
    apply Nat.div_eq_of_lt
    rcases okW_cases hw with rfl | rfl | rfl | rfl
    · rw [pw8] at ha; show a.toNat < 2 ^ 8; omega
    · rw [pw16] at ha; show a.toNat < 2 ^ 16; omega
    · rw [pw32] at ha; show a.toNat < 2 ^ 32; omega
    · rw [pw64] at ha; show a.toNat < 2 ^ 64; omega
  generalize a.toNat = x at hz
  have e : popN 64 x = popN (w.toNat + (64 - w.toNat)) x := by congr 1; omega
  rw [e, pop_add, hz, pop_zero]
  rfl
theorem bit_nat (a : BitVec 64) (i : Nat) : a.toNat / 2 ^ i % 2 = if a.getLsbD i = true then 1 else 0 := by
  rw [BitVec.getLsbD, Nat.testBit_eq_decide_div_mod_eq]
  have := Nat.mod_lt (a.toNat / 2 ^ i) (by decide : 2 > 0)
  by_cases h : a.toNat / 2 ^ i % 2 = 1
  · rw [decide_eq_true h, if_pos rfl, h]
  · rw [decide_eq_false h, if_neg (by decide)]; omega
theorem low_ctz {a : BitVec 64} {k : Nat} (h : Low a k) : tzF a = k := by
  obtain ⟨h1, h2, h3⟩ := h
  have hne : a.toNat ≠ 0 := fun e => by
    have : a = 0#64 := BitVec.eq_of_toNat_eq (by simpa using e)
    rw [this] at h2; simp at h2
  obtain ⟨e, hk⟩ := Lib.lowest_bit 64 a.toNat hne a.isLt
  have e2 := congrArg BitVec.toNat (low_and ⟨h1, h2, h3⟩)
  have al := a.isLt
  have e3 : (0#64 - a).toNat = 2 ^ 64 - a.toNat := by
    rw [BitVec.toNat_sub]
    have z : (0#64).toNat = 0 := rfl
    rw [z]
    omega
  rw [BitVec.toNat_and, e3, e, BitVec.toNat_shiftLeft, Nat.shiftLeft_eq] at e2
  have z1 : (1#64).toNat = 1 := rfl
  have p2 : 2 ^ k < 2 ^ 64 := Nat.pow_lt_pow_right (by decide) h1
  rw [z1, Nat.one_mul, Nat.mod_eq_of_lt p2] at e2
  have e4 : Lib.ctz 64 a.toNat = k := by
    rcases Nat.lt_trichotomy (Lib.ctz 64 a.toNat) k with h | h | h
    · have := Nat.pow_lt_pow_right (a := 2) (by decide) h; omega
    · exact h
    · have := Nat.pow_lt_pow_right (a := 2) (by decide) h; omega
  unfold tzF
  rw [e4]
theorem ctz_min {w : Int} {a : BitVec 64} (h : fitF w a = true) {i : Nat} (hi : (i : Int) ≤ w) (hz : ∀ j, j < i → a.getLsbD j = false) (he : (i : Int) = w ∨ a.getLsbD i = true) : min (tzF a) w = i := by
  obtain ⟨hw, ha⟩ := fitF_nat h
  obtain ⟨g1, g2⟩ := okW_rng hw
  by_cases h0 : a = 0#64
  · subst h0
    have e : tzF 0#64 = 64 := by decide
    rw [e]
    rcases he with he | he
    · omega
    · simp at he
  · obtain ⟨k, hk⟩ := low_ex h0
    rw [low_ctz hk]
    obtain ⟨k1, k2, k3⟩ := hk
    have kw : (k : Int) < w := by
      rcases (show (k : Int) < w ∨ w ≤ (k : Int) by omega) with h1 | h1
      · exact h1
      · rw [fit_bit h h1] at k2; cases k2
    have ki : i = k := by
      rcases Nat.lt_trichotomy i k with h1 | h1 | h1
      · rcases he with he | he
        · omega
        · rw [k3 i h1] at he; cases he
      · exact h1
      · rw [hz k h1] at k2; cases k2
    omega
theorem len_bits {a : BitVec 64} {n : Nat} (hz : ∀ j, n ≤ j → a.getLsbD j = false) (he : ∀ i, n = i + 1 → a.getLsbD i = true) : lenF a.toNat = n := by
  refine len_of ?_ fun j hj => ?_
  · refine Nat.lt_pow_two_of_testBit _ fun i hi => ?_
    exact hz i hi
  · have := he j hj
    exact Nat.ge_two_pow_of_testBit this
theorem abs_ref {w : Int} {a : BitVec 64} (h : fitF w a = true) : (decide (maskF w / 2#64 < a) = true ↔ ¬ 0 ≤ sgnF w a) ∧ (maskF w - a + 1#64 &&& maskF w) = -a &&& maskF w ∧ maskF w - a = ~~~a &&& maskF w := by
  obtain ⟨hw, ha⟩ := fitF_nat h
  obtain ⟨k, hk, k1, k2⟩ := pw_even hw
  have hm := mask_nat hw
  have hh := half_nat hw
  have al := a.isLt
  refine ⟨?_, ?_, ?_⟩
  · rw [decide_eq_true_eq, BitVec.lt_def]
    unfold sgnF
    split <;> omega
  · have e : maskF w - a + 1#64 &&& maskF w = (maskF w + 1#64) - a &&& maskF w := by
      congr 1
      rw [BitVec.sub_eq_add_neg, BitVec.sub_eq_add_neg, BitVec.add_assoc, BitVec.add_comm (-a), ← BitVec.add_assoc]
    have e2 : maskF w + 1#64 &&& maskF w = 0#64 := by
      rcases okW_cases hw with rfl | rfl | rfl | rfl <;> decide
    rw [e, ← and_sub_l hw, e2]
    simp
  · refine eq_nat ?_
    rw [and_nat hw, BitVec.toNat_not, BitVec.toNat_sub]
    have ml := (maskF w).isLt
    obtain ⟨c, hc⟩ := pw_dvd hw
    have e1 : ((2 ^ 64 - 1 - a.toNat : Nat) : Int) % pw w = pw w - 1 - a.toNat := by
      rcases okW_cases hw with rfl | rfl | rfl | rfl
      · rw [pw8] at *; omega
      · rw [pw16] at *; omega
      · rw [pw32] at *; omega
      · rw [pw64] at *; omega
    rw [e1]
    omega
end Go.Wh
/-!
Whole numbers: what is not, and counts of bits, fit together.
-/
namespace Go.Wh
open Go.Ev Go.RowKit

def bitsT (U : BitVec 8 → Int → BitVec 64 → BitVec 64) (N : BitVec 8 → Int → BitVec 64 → BitVec 64 → BitVec 64) (w : Int) (a b : BitVec 64) : Option D :=
  if (!U 30#8 w a == N 1#8 w (U 31#8 w a) 1#64) = false then
    if (!U 28#8 w a + U 28#8 w (U 31#8 w a) == BitVec.ofInt 64 w) = false then
      if (!(a == 0#64) == (U 26#8 w a == BitVec.ofInt 64 w)) = false then
        if (!(a == 0#64) == (U 27#8 w a == BitVec.ofInt 64 w)) = false then
          if (!a == 0#64) = true then
            if decide (BitVec.ofInt 64 w < U 26#8 w a + U 27#8 w a + U 28#8 w a) = true then F else
            if (N 1#8 w (N 8#8 w a b) (N 8#8 w a b) == N 2#8 w (N 1#8 w a b) (N 10#8 w a b)) = true then
              if (N 9#8 w a b == N 1#8 w (N 8#8 w a b) (N 10#8 w a b)) = true then T else F
            else F
          else
            if (N 1#8 w (N 8#8 w a b) (N 8#8 w a b) == N 2#8 w (N 1#8 w a b) (N 10#8 w a b)) = true then
              if (N 9#8 w a b == N 1#8 w (N 8#8 w a b) (N 10#8 w a b)) = true then T else F
            else F
        else F
      else F
    else F
  else F
theorem may_of1 {w : Int} {a : BitVec 64} (ha : fitF w a = true) : mayF w [a] = true := by
  simp only [fitF, Bool.and_eq_true] at ha
  simp only [mayF, List.all_cons, List.all_nil, ha, Bool.and_self]
theorem oneN_eq {o : BitVec 8} {w : Int} {a : BitVec 64} (ha : fitF w a = true) : oneN o w a = oneV o w a := by
  simp only [oneN, may_of1 ha, ifF, if_true]
theorem one26 {w : Int} {a : BitVec 64} (ha : fitF w a = true) : oneN 26#8 w a = BitVec.ofInt 64 (w - lenF a.toNat) := (oneN_eq ha).trans rfl
theorem one27 {w : Int} {a : BitVec 64} (ha : fitF w a = true) : oneN 27#8 w a = BitVec.ofInt 64 (min (tzF a) w) := (oneN_eq ha).trans rfl
theorem one28 {w : Int} {a : BitVec 64} (ha : fitF w a = true) : oneN 28#8 w a = BitVec.ofInt 64 (popN 64 a.toNat : Nat) := (oneN_eq ha).trans rfl
theorem one30 {w : Int} {a : BitVec 64} (ha : fitF w a = true) : oneN 30#8 w a = -a &&& maskF w := (oneN_eq ha).trans rfl
theorem one31 {w : Int} {a : BitVec 64} (ha : fitF w a = true) : oneN 31#8 w a = ~~~a &&& maskF w := (oneN_eq ha).trans rfl
theorem pop_le : ∀ k x : Nat, popN k x ≤ k
  | 0, _ => Nat.le_refl _
  | k + 1, x => by have := pop_le k (x / 2); simp only [popN]; omega
theorem pop_not : ∀ k x : Nat, x < 2 ^ k → popN k x + popN k (2 ^ k - 1 - x) = k
  | 0, _, _ => rfl
  | k + 1, x, h => by
    have p : 2 ^ (k + 1) = 2 * 2 ^ k := by rw [Nat.pow_succ, Nat.mul_comm]
    have ih := pop_not k (x / 2) (by omega)
    have e1 : (2 ^ (k + 1) - 1 - x) / 2 = 2 ^ k - 1 - x / 2 := by omega
    have e2 : (2 ^ (k + 1) - 1 - x) % 2 = 1 - x % 2 := by omega
    simp only [popN, e1, e2]
    omega
theorem pop_one {w : Int} {a : BitVec 64} (ha : fitF w a = true) : oneN 28#8 w a + oneN 28#8 w (oneN 31#8 w a) = BitVec.ofInt 64 w := by
  obtain ⟨hw, h1⟩ := fitF_nat ha
  obtain ⟨g1, g2⟩ := okW_rng hw
  have hn : fitF w (~~~a &&& maskF w) = true := fit_and hw _
  rw [one31 ha, one28 ha, one28 hn]
  have hs : (~~~a &&& maskF w).toNat = 2 ^ w.toNat - 1 - a.toNat := by
    rw [← (abs_ref ha).2.2, BitVec.toNat_sub]
    have hm := mask_nat hw
    rcases okW_cases hw with rfl | rfl | rfl | rfl
    · rw [pw8] at h1 hm; show _ = 2 ^ 8 - 1 - a.toNat; omega
    · rw [pw16] at h1 hm; show _ = 2 ^ 16 - 1 - a.toNat; omega
    · rw [pw32] at h1 hm; show _ = 2 ^ 32 - 1 - a.toNat; omega
    · rw [pw64] at h1 hm; show _ = 2 ^ 64 - 1 - a.toNat; omega
  have ha2 : a.toNat < 2 ^ w.toNat := by
    rcases okW_cases hw with rfl | rfl | rfl | rfl
    · rw [pw8] at h1; show a.toNat < 2 ^ 8; omega
    · rw [pw16] at h1; show a.toNat < 2 ^ 16; omega
    · rw [pw32] at h1; show a.toNat < 2 ^ 32; omega
    · rw [pw64] at h1; show a.toNat < 2 ^ 64; omega
  have p := pop_not w.toNat a.toNat ha2
  rw [← hs, pop_fit ha, pop_fit hn] at p
  refine eq_nat ?_
  rw [add_int, ofInt_nat (by omega) (by omega), ofInt_nat (by omega) (by omega), ofInt_nat (by omega) (by omega)]
  omega
theorem ofInt_inj {x y : Int} (hx : 0 ≤ x ∧ x ≤ 64) (hy : 0 ≤ y ∧ y ≤ 64) : BitVec.ofInt 64 x = BitVec.ofInt 64 y ↔ x = y := by
  refine ⟨fun h => ?_, fun h => by rw [h]⟩
  have e : ((BitVec.ofInt 64 x).toNat : Int) = (BitVec.ofInt 64 y).toNat := by rw [h]
  rwa [ofInt_nat (by omega) (by omega), ofInt_nat (by omega) (by omega)] at e
theorem len_pos {a : BitVec 64} (h : a ≠ 0#64) : 0 < lenF a.toNat := by
  rcases Nat.eq_zero_or_pos (lenF a.toNat) with h1 | h1
  · have := (len_iff a.toNat 0).1 (by omega)
    exact absurd (BitVec.eq_of_toNat_eq (by simpa using this)) h
  · exact h1
theorem lead_zero {w : Int} {a : BitVec 64} (ha : fitF w a = true) : (a == 0#64) = (oneN 26#8 w a == BitVec.ofInt 64 w) := by
  obtain ⟨g1, g2⟩ := okW_rng (fitF_nat ha).1
  have hl := len_fit ha
  rw [one26 ha, Bool.eq_iff_iff, beq_iff_eq, beq_iff_eq, ofInt_inj (by omega) (by omega)]
  refine ⟨fun h => ?_, fun h => ?_⟩
  · subst h; show w - (lenF 0 : Nat) = w; simp [lenF]
  · by_cases h0 : a = 0#64
    · exact h0
    · have := len_pos h0; omega
theorem tz_rng {w : Int} {a : BitVec 64} (ha : fitF w a = true) (h0 : a ≠ 0#64) : ∃ k : Nat, Low a k ∧ tzF a = k ∧ (k : Int) < w := by
  obtain ⟨k, hk⟩ := low_ex h0
  refine ⟨k, hk, low_ctz hk, ?_⟩
  obtain ⟨k1, k2, k3⟩ := hk
  rcases (show (k : Int) < w ∨ w ≤ (k : Int) by omega) with h1 | h1
  · exact h1
  · rw [fit_bit ha h1] at k2; cases k2
theorem trail_zero {w : Int} {a : BitVec 64} (ha : fitF w a = true) : (a == 0#64) = (oneN 27#8 w a == BitVec.ofInt 64 w) := by
  obtain ⟨g1, g2⟩ := okW_rng (fitF_nat ha).1
  rw [one27 ha, Bool.eq_iff_iff, beq_iff_eq, beq_iff_eq]
  by_cases h0 : a = 0#64
  · subst h0
    have e : tzF 0#64 = 64 := by decide
    have e2 : min (64 : Int) w = w := by omega
    rw [e, e2]
    simp
  · obtain ⟨k, _, e, hk⟩ := tz_rng ha h0
    rw [e, ofInt_inj (by omega) (by omega)]
    refine ⟨fun h => absurd h h0, fun h => ?_⟩
    omega
theorem pop_low {k x : Nat} (h : x % 2 ^ k = 0) : popN k x = 0 := by
  induction k generalizing x with
  | zero => rfl
  | succ k ih =>
    have p : 2 ^ (k + 1) = 2 * 2 ^ k := by rw [Nat.pow_succ, Nat.mul_comm]
    rw [p] at h
    have h2 : x % 2 = 0 := by
      have := Nat.mod_mul_right_mod x 2 (2 ^ k)
      omega
    have h3 : x / 2 % 2 ^ k = 0 := by
      have := Nat.mod_mul (x := x) (a := 2) (b := 2 ^ k)
      omega
    simp only [popN, ih h3, h2]
theorem pop_len {x n m : Nat} (h : x < 2 ^ n) (hm : n ≤ m) : popN m x ≤ n := by
  have e : popN m x = popN (n + (m - n)) x := by congr 1; omega
  rw [e, pop_add, Nat.div_eq_of_lt h, pop_zero]
  exact pop_le n x
theorem counts {w : Int} {a : BitVec 64} (ha : fitF w a = true) (h0 : a ≠ 0#64) : ¬ BitVec.ofInt 64 w < oneN 26#8 w a + oneN 27#8 w a + oneN 28#8 w a := by
  obtain ⟨g1, g2⟩ := okW_rng (fitF_nat ha).1
  obtain ⟨k, hlow, e, hk⟩ := tz_rng ha h0
  have hl := len_fit ha
  have l64 := len_le64 a
  have hlt := (len_iff a.toNat (lenF a.toNat)).1 (Nat.le_refl _)
  obtain ⟨k1, k2, k3⟩ := hlow
  have hge : 2 ^ k ≤ a.toNat := Nat.ge_two_pow_of_testBit k2
  have hkl : k < lenF a.toNat := by
    rcases Nat.lt_or_ge k (lenF a.toNat) with h | h
    · exact h
    · have := Nat.pow_le_pow_right (n := 2) (by decide) h
      omega
  have hmod : a.toNat % 2 ^ k = 0 := by
    refine Nat.eq_of_testBit_eq fun i => ?_
    rw [Nat.testBit_mod_two_pow, Nat.zero_testBit]
    by_cases hi : i < k
    · have := k3 i hi
      rw [BitVec.getLsbD] at this
      simp [this]
    · simp [hi]
  have hpop : popN 64 a.toNat ≤ lenF a.toNat - k := by
    have e : popN 64 a.toNat = popN (k + (64 - k)) a.toNat := by congr 1; omega
    rw [e, pop_add, pop_low hmod, Nat.zero_add]
    refine pop_len ?_ (by omega)
    rw [Nat.div_lt_iff_lt_mul (Nat.two_pow_pos k), ← Nat.pow_add]
    have e2 : lenF a.toNat - k + k = lenF a.toNat := by omega
    rw [e2]
    exact hlt
  have emin : min (k : Int) w = k := by omega
  rw [one26 ha, one27 ha, one28 ha, e, emin, BitVec.lt_def]
  have s1 := add_int (BitVec.ofInt 64 (w - (lenF a.toNat : Nat)) + BitVec.ofInt 64 (k : Int)) (BitVec.ofInt 64 (popN 64 a.toNat : Nat))
  have s2 := add_int (BitVec.ofInt 64 (w - (lenF a.toNat : Nat))) (BitVec.ofInt 64 (k : Int))
  have i1 := ofInt_nat (v := w - (lenF a.toNat : Nat)) (by omega) (by omega)
  have i2 := ofInt_nat (v := (k : Int)) (by omega) (by omega)
  have i3 := ofInt_nat (v := (popN 64 a.toNat : Nat)) (by omega) (by omega)
  have i4 := ofInt_nat (v := w) (by omega) (by omega)
  rw [i1, i2] at s2
  rw [s2, i3] at s1
  omega
theorem neg_not {w : Int} {a : BitVec 64} (ha : fitF w a = true) : oneN 30#8 w a = twoN 1#8 w (oneN 31#8 w a) 1#64 := by
  have hw := (fitF_nat ha).1
  have h1 : fitF w 1#64 = true := by rcases okW_cases hw with rfl | rfl | rfl | rfl <;> decide
  rw [one30 ha, one31 ha, two1 (fit_and hw _) h1, and_add_l hw, BitVec.neg_eq_not_add]
theorem fit_or {w : Int} {a b : BitVec 64} (ha : fitF w a = true) (hb : fitF w b = true) : fitF w (a ||| b) = true := by
  have e : a ||| b = (a ||| b) &&& maskF w := by
    refine bits_of fun j _ => ?_
    have e1 := congrArg (fun z : BitVec 64 => z.getLsbD j) (fit_id ha)
    have e2 := congrArg (fun z : BitVec 64 => z.getLsbD j) (fit_id hb)
    simp only [BitVec.getLsbD_and] at e1 e2
    simp only [BitVec.getLsbD_and, BitVec.getLsbD_or]
    revert e1 e2
    cases a.getLsbD j <;> cases b.getLsbD j <;> cases (maskF w).getLsbD j <;> simp
  rw [e]; exact fit_and (fitF_nat ha).1 _
theorem fit_andd {w : Int} {a b : BitVec 64} (ha : fitF w a = true) : fitF w (a &&& b) = true := by
  have e : a &&& b = (a &&& b) &&& maskF w := by
    refine bits_of fun j _ => ?_
    have e1 := congrArg (fun z : BitVec 64 => z.getLsbD j) (fit_id ha)
    simp only [BitVec.getLsbD_and] at e1
    simp only [BitVec.getLsbD_and]
    revert e1
    cases a.getLsbD j <;> cases b.getLsbD j <;> cases (maskF w).getLsbD j <;> simp
  rw [e]; exact fit_and (fitF_nat ha).1 _
theorem fit_xor {w : Int} {a b : BitVec 64} (ha : fitF w a = true) (hb : fitF w b = true) : fitF w (a ^^^ b) = true := by
  have e : a ^^^ b = (a ^^^ b) &&& maskF w := by
    refine bits_of fun j _ => ?_
    have e1 := congrArg (fun z : BitVec 64 => z.getLsbD j) (fit_id ha)
    have e2 := congrArg (fun z : BitVec 64 => z.getLsbD j) (fit_id hb)
    simp only [BitVec.getLsbD_and] at e1 e2
    simp only [BitVec.getLsbD_and, BitVec.getLsbD_xor]
    revert e1 e2
    cases a.getLsbD j <;> cases b.getLsbD j <;> cases (maskF w).getLsbD j <;> simp
  rw [e]; exact fit_and (fitF_nat ha).1 _
theorem two8 {w : Int} {a b : BitVec 64} (ha : fitF w a = true) (hb : fitF w b = true) : twoN 8#8 w a b = a &&& b := (twoN_eq ha hb).trans rfl
theorem two9 {w : Int} {a b : BitVec 64} (ha : fitF w a = true) (hb : fitF w b = true) : twoN 9#8 w a b = a ||| b := (twoN_eq ha hb).trans rfl
theorem two10 {w : Int} {a b : BitVec 64} (ha : fitF w a = true) (hb : fitF w b = true) : twoN 10#8 w a b = a ^^^ b := (twoN_eq ha hb).trans rfl
theorem and_xor_bv (a b : BitVec 64) : (a &&& b) + (a ^^^ b) = a ||| b := by
  rw [BitVec.add_eq_or_of_and_eq_zero]
  · refine bits_of fun j _ => ?_
    simp only [BitVec.getLsbD_and, BitVec.getLsbD_or, BitVec.getLsbD_xor]
    cases a.getLsbD j <;> cases b.getLsbD j <;> rfl
  · refine bits_of fun j _ => ?_
    simp only [BitVec.getLsbD_and, BitVec.getLsbD_xor, BitVec.getLsbD_zero]
    cases a.getLsbD j <;> cases b.getLsbD j <;> rfl
theorem common2 {w : Int} {a b : BitVec 64} (ha : fitF w a = true) (hb : fitF w b = true) : twoN 1#8 w (twoN 8#8 w a b) (twoN 8#8 w a b) = twoN 2#8 w (twoN 1#8 w a b) (twoN 10#8 w a b) := by
  have hw := (fitF_nat ha).1
  rw [two8 ha hb, two1 ha hb, two10 ha hb, two1 (fit_andd ha) (fit_andd ha), two2 (fit_and hw _) (fit_xor ha hb), and_sub_l hw]
  congr 1
  refine eq_nat ?_
  rw [add_int, sub_int, add_int, BitVec.toNat_and, BitVec.toNat_xor]
  have := and_xor_nat a.toNat b.toNat
  omega
theorem common1 {w : Int} {a b : BitVec 64} (ha : fitF w a = true) (hb : fitF w b = true) : twoN 9#8 w a b = twoN 1#8 w (twoN 8#8 w a b) (twoN 10#8 w a b) := by
  rw [two8 ha hb, two9 ha hb, two10 ha hb, two1 (fit_andd ha) (fit_xor ha hb), and_xor_bv, fit_id (fit_or ha hb)]
theorem bits_end {w : Int} {a b : BitVec 64} (ha : fitF w a = true) (hb : fitF w b = true) : bitsT oneN twoN w a b = T := by
  have r1 : ∀ x : BitVec 64, (x == x) = true := fun x => by simp
  have r2 : ∀ x : Bool, (x == x) = true := fun x => by simp
  unfold bitsT
  rw [← neg_not ha, pop_one ha, ← lead_zero ha, ← trail_zero ha, ← common2 ha hb, ← common1 ha hb]
  simp only [r1, r2, Bool.not_true, if_true]
  by_cases h0 : a = 0#64
  · have e : (!a == 0#64) = false := by rw [h0]; rfl
    simp only [e, Bool.false_eq_true, if_false]
  · have e : (!a == 0#64) = true := by simp [h0]
    simp only [e, if_true, counts ha h0, decide_false, Bool.false_eq_true, if_false]
end Go.Wh
/-!
Whole numbers: what is answered fits.
-/
namespace Go.Wh
open Go.Ev Go.RowKit

theorem le_of_fit {w : Int} {x : BitVec 64} (h : fitF w x = true) : x ≤ maskF w := by
  simp only [fitF, Bool.and_eq_true, decide_eq_true_eq] at h
  exact h.2
theorem fit_zero {w : Int} (h : okW w = true) : fitF w 0#64 = true := by
  rcases okW_cases h with rfl | rfl | rfl | rfl <;> decide
theorem fit_sat {o : BitVec 8} {w : Int} {a b : BitVec 64} (ha : fitF w a = true) (hb : fitF w b = true) : fitF w (satV o w a b) = true := by
  obtain ⟨hw, h1⟩ := fitF_nat ha
  have hm := mask_nat hw
  unfold satV
  split
  · split
    · exact fit_of_nat hw (by omega)
    · rename_i h
      rw [BitVec.lt_def, BitVec.toNat_sub] at h
      have := (maskF w).isLt
      refine fit_of_nat hw ?_
      rw [BitVec.toNat_add]
      have al := a.isLt
      have bl := b.isLt
      omega
  · split
    · split
      · exact fit_zero hw
      · rename_i h
        rw [BitVec.lt_def] at h
        refine fit_le ha ?_
        rw [BitVec.toNat_sub]
        have al := a.isLt
        have bl := b.isLt
        omega
    · split
      · exact fit_and hw _
      · exact fit_and hw _
theorem fit_mov {o : BitVec 8} {w : Int} {a n : BitVec 64} (ha : fitF w a = true) : fitF w (movV o w a n) = true := by
  obtain ⟨hw, h1⟩ := fitF_nat ha
  unfold movV
  split
  · exact fit_and hw _
  · split
    · refine fit_le ha ?_
      rw [BitVec.toNat_ushiftRight, Nat.shiftRight_eq_div_pow]
      exact Nat.div_le_self _ _
    · split
      · exact fit_and hw _
      · split <;> exact fit_and hw _
theorem fit_ite {w : Int} {c : Bool} {x y : BitVec 64} (h1 : c = true → fitF w x = true) (h2 : fitF w y = true) : fitF w (if c = true then x else y) = true := by
  split
  · rename_i h; exact h1 h
  · exact h2
theorem two_fits {o : BitVec 8} {w : Int} {a b : BitVec 64} (ha : fitF w a = true) (hb : fitF w b = true) (h4 : (o == 4#8) = false) (h5 : (o == 5#8) = false) (h6 : (o == 6#8) = false) (h7 : (o == 7#8) = false) : fitF w (twoV o w a b) = true := by
  obtain ⟨hw, h1⟩ := fitF_nat ha
  obtain ⟨_, h2⟩ := fitF_nat hb
  unfold twoV
  refine fit_ite (fun h => fit_and hw _) ?_
  refine fit_ite (fun h => fit_and hw _) ?_
  refine fit_ite (fun h => fit_and hw _) ?_
  refine fit_ite (fun h => by rw [h4] at h; cases h) ?_
  refine fit_ite (fun h => by rw [h5] at h; cases h) ?_
  refine fit_ite (fun h => by rw [h6] at h; cases h) ?_
  refine fit_ite (fun h => by rw [h7] at h; cases h) ?_
  refine fit_ite (fun h => fit_andd ha) ?_
  refine fit_ite (fun h => fit_or ha hb) ?_
  refine fit_ite (fun h => fit_xor ha hb) ?_
  refine fit_ite (fun h => fit_mov ha) ?_
  refine fit_ite (fun h => fit_mov ha) ?_
  refine fit_ite (fun h => fit_mov ha) ?_
  refine fit_ite (fun h => fit_mov ha) ?_
  refine fit_ite (fun h => fit_mov ha) ?_
  refine fit_ite (fun h => fit_sat ha hb) ?_
  refine fit_ite (fun h => fit_sat ha hb) ?_
  refine fit_ite (fun h => fit_sat ha hb) ?_
  refine fit_ite (fun h => fit_sat ha hb) ?_
  refine fit_ite (fun h => by split <;> assumption) ?_
  refine fit_ite (fun h => by split <;> assumption) ?_
  refine fit_ite (fun h => by split <;> assumption) ?_
  refine fit_ite (fun h => by split <;> assumption) ?_
  refine fit_ite (fun h => fit_of_nat hw (by rw [avg_nat]; omega)) ?_
  refine fit_ite (fun _ => ?_) (fit_zero hw)
  split
  · rename_i hw16
    have : w = 16 := by simpa using hw16
    subst this
    exact fit_and hw _
  · exact fit_zero hw
theorem one_fits {o : BitVec 8} {w : Int} {a : BitVec 64} (ha : fitF w a = true) : fitF w (oneV o w a) = true := by
  obtain ⟨hw, h1⟩ := fitF_nat ha
  obtain ⟨g1, g2⟩ := okW_rng hw
  have p : 64 < pw w := by rcases okW_cases hw with rfl | rfl | rfl | rfl <;> decide
  have hl := len_fit ha
  have hp : popN 64 a.toNat ≤ 64 := pop_le 64 _
  have ht : 0 ≤ tzF a := Int.natCast_nonneg _
  unfold oneV
  refine fit_ite (fun _ => fit_of_nat hw (by rw [ofInt_nat (by omega) (by omega)]; omega)) ?_
  refine fit_ite (fun _ => fit_of_nat hw (by rw [ofInt_nat (by omega) (by omega)]; omega)) ?_
  refine fit_ite (fun _ => fit_of_nat hw (by rw [ofInt_nat (by omega) (by omega)]; omega)) ?_
  refine fit_ite (fun _ => ?_) (fit_ite (fun _ => fit_and hw _) (fit_ite (fun _ => fit_and hw _) (fit_zero hw)))
  split
  · exact ha
  · exact fit_and hw _
end Go.Wh
