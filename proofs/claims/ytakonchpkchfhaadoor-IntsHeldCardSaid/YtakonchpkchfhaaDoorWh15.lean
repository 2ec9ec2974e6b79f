/-
  Part of the proof; what its functions and lemmas say stands in the text.
-/
import Derived.Test.YtakonchpkchfhaaDoorWhC
set_option linter.unusedSimpArgs false
set_option linter.unusedVariables false
/-!
Whole numbers: what is held, the mean, the lesser and the greater fit together.
-/
namespace Go.Wh
open Go.Ev Go.RowKit

def heldT0 (N : BitVec 8 → Int → BitVec 64 → BitVec 64 → BitVec 64) (G : Int → BitVec 64 → BitVec 64 → Bool) (w : Int) (A B M : BitVec 64) : Option D :=
  if decide (A ≤ N (BitVec.ofInt 8 1) w A B) = true then if (!N (16#8) w A B == N (1#8) w A B) = false then if decide (N (BitVec.ofInt 8 1) w A B < A) = true then if (!N (16#8) w A B == M) = false then if decide (N (BitVec.ofInt 8 24) w A B < N (BitVec.ofInt 8 20) w A B) = false then if decide (N (BitVec.ofInt 8 21) w A B < N (BitVec.ofInt 8 24) w A B) = false then if decide (N (BitVec.ofInt 8 21) w A B < N (BitVec.ofInt 8 20) w A B) = true then some (D.bool false) else if G w A B = true then if G w A B = true then if G w A B = true then if G w A B = true then if (false == (A == B)) = true then if (N (22#8) w A B == A) = false then if (N (22#8) w A B == B) = true then if (N (22#8) w A B == A) = true then some (D.bool true) else some (D.bool false) else some (D.bool false) else if (N (22#8) w A B == A) = true then some (D.bool true) else some (D.bool false) else some (D.bool false) else none else none else none else none else some (D.bool false) else some (D.bool false) else some (D.bool false) else if decide (N (BitVec.ofInt 8 24) w A B < N (BitVec.ofInt 8 20) w A B) = false then if decide (N (BitVec.ofInt 8 21) w A B < N (BitVec.ofInt 8 24) w A B) = false then if decide (N (BitVec.ofInt 8 21) w A B < N (BitVec.ofInt 8 20) w A B) = true then some (D.bool false) else if G w A B = true then if G w A B = true then if G w A B = true then if G w A B = true then if (false == (A == B)) = true then if (N (22#8) w A B == A) = false then if (N (22#8) w A B == B) = true then if (N (22#8) w A B == A) = true then some (D.bool true) else some (D.bool false) else some (D.bool false) else if (N (22#8) w A B == A) = true then some (D.bool true) else some (D.bool false) else some (D.bool false) else none else none else none else none else some (D.bool false) else some (D.bool false) else some (D.bool false) else if decide (N (BitVec.ofInt 8 1) w A B < A) = true then if (!N (16#8) w A B == M) = false then if decide (N (BitVec.ofInt 8 24) w A B < N (BitVec.ofInt 8 20) w A B) = false then if decide (N (BitVec.ofInt 8 21) w A B < N (BitVec.ofInt 8 24) w A B) = false then if decide (N (BitVec.ofInt 8 21) w A B < N (BitVec.ofInt 8 20) w A B) = true then some (D.bool false) else if G w A B = true then if G w A B = true then if G w A B = true then if G w A B = true then if (false == (A == B)) = true then if (N (22#8) w A B == A) = false then if (N (22#8) w A B == B) = true then if (N (22#8) w A B == A) = true then some (D.bool true) else some (D.bool false) else some (D.bool false) else if (N (22#8) w A B == A) = true then some (D.bool true) else some (D.bool false) else some (D.bool false) else none else none else none else none else some (D.bool false) else some (D.bool false) else some (D.bool false) else if decide (N (BitVec.ofInt 8 24) w A B < N (BitVec.ofInt 8 20) w A B) = false then if decide (N (BitVec.ofInt 8 21) w A B < N (BitVec.ofInt 8 24) w A B) = false then if decide (N (BitVec.ofInt 8 21) w A B < N (BitVec.ofInt 8 20) w A B) = true then some (D.bool false) else if G w A B = true then if G w A B = true then if G w A B = true then if G w A B = true then if (false == (A == B)) = true then if (N (22#8) w A B == A) = false then if (N (22#8) w A B == B) = true then if (N (22#8) w A B == A) = true then some (D.bool true) else some (D.bool false) else some (D.bool false) else if (N (22#8) w A B == A) = true then some (D.bool true) else some (D.bool false) else some (D.bool false) else none else none else none else none else some (D.bool false) else some (D.bool false)
def heldT1 (N : BitVec 8 → Int → BitVec 64 → BitVec 64 → BitVec 64) (G : Int → BitVec 64 → BitVec 64 → Bool) (w : Int) (A B M : BitVec 64) : Option D :=
  if decide (A ≤ N (BitVec.ofInt 8 1) w A B) = true then if (!N (16#8) w A B == N (1#8) w A B) = false then if decide (N (BitVec.ofInt 8 1) w A B < A) = true then if (!N (16#8) w A B == M) = false then if decide (N (BitVec.ofInt 8 24) w A B < N (BitVec.ofInt 8 20) w A B) = false then if decide (N (BitVec.ofInt 8 21) w A B < N (BitVec.ofInt 8 24) w A B) = false then if decide (N (BitVec.ofInt 8 21) w A B < N (BitVec.ofInt 8 20) w A B) = true then some (D.bool false) else if G w A B = true then if G w A B = true then if G w A B = true then if G w A B = true then if (true == (A == B)) = true then if (N (22#8) w A B == A) = false then if (N (22#8) w A B == B) = true then some (D.bool true) else some (D.bool false) else some (D.bool true) else some (D.bool false) else none else none else none else none else some (D.bool false) else some (D.bool false) else some (D.bool false) else if decide (N (BitVec.ofInt 8 24) w A B < N (BitVec.ofInt 8 20) w A B) = false then if decide (N (BitVec.ofInt 8 21) w A B < N (BitVec.ofInt 8 24) w A B) = false then if decide (N (BitVec.ofInt 8 21) w A B < N (BitVec.ofInt 8 20) w A B) = true then some (D.bool false) else if G w A B = true then if G w A B = true then if G w A B = true then if G w A B = true then if (true == (A == B)) = true then if (N (22#8) w A B == A) = false then if (N (22#8) w A B == B) = true then some (D.bool true) else some (D.bool false) else some (D.bool true) else some (D.bool false) else none else none else none else none else some (D.bool false) else some (D.bool false) else some (D.bool false) else if decide (N (BitVec.ofInt 8 1) w A B < A) = true then if (!N (16#8) w A B == M) = false then if decide (N (BitVec.ofInt 8 24) w A B < N (BitVec.ofInt 8 20) w A B) = false then if decide (N (BitVec.ofInt 8 21) w A B < N (BitVec.ofInt 8 24) w A B) = false then if decide (N (BitVec.ofInt 8 21) w A B < N (BitVec.ofInt 8 20) w A B) = true then some (D.bool false) else if G w A B = true then if G w A B = true then if G w A B = true then if G w A B = true then if (true == (A == B)) = true then if (N (22#8) w A B == A) = false then if (N (22#8) w A B == B) = true then some (D.bool true) else some (D.bool false) else some (D.bool true) else some (D.bool false) else none else none else none else none else some (D.bool false) else some (D.bool false) else some (D.bool false) else if decide (N (BitVec.ofInt 8 24) w A B < N (BitVec.ofInt 8 20) w A B) = false then if decide (N (BitVec.ofInt 8 21) w A B < N (BitVec.ofInt 8 24) w A B) = false then if decide (N (BitVec.ofInt 8 21) w A B < N (BitVec.ofInt 8 20) w A B) = true then some (D.bool false) else if G w A B = true then if G w A B = true then if G w A B = true then if G w A B = true then if (true == (A == B)) = true then if (N (22#8) w A B == A) = false then if (N (22#8) w A B == B) = true then some (D.bool true) else some (D.bool false) else some (D.bool true) else some (D.bool false) else none else none else none else none else some (D.bool false) else some (D.bool false)
def heldT2 (N : BitVec 8 → Int → BitVec 64 → BitVec 64 → BitVec 64) (G : Int → BitVec 64 → BitVec 64 → Bool) (w : Int) (A B M : BitVec 64) : Option D :=
  if decide (A ≤ N (BitVec.ofInt 8 1) w A B) = true then if (!N (16#8) w A B == N (1#8) w A B) = false then if decide (N (BitVec.ofInt 8 1) w A B < A) = true then if (!N (16#8) w A B == M) = false then if decide (N (BitVec.ofInt 8 24) w A B < N (BitVec.ofInt 8 20) w A B) = false then if decide (N (BitVec.ofInt 8 21) w A B < N (BitVec.ofInt 8 24) w A B) = false then if decide (N (BitVec.ofInt 8 21) w A B < N (BitVec.ofInt 8 20) w A B) = true then some (D.bool false) else if G w A B = true then if G w A B = true then if G w A B = true then if G w A B = true then if (false == (A == B)) = true then if (N (22#8) w A B == A) = false then if (N (22#8) w A B == B) = true then some (D.bool true) else some (D.bool false) else some (D.bool true) else some (D.bool false) else none else none else none else none else some (D.bool false) else some (D.bool false) else some (D.bool false) else if decide (N (BitVec.ofInt 8 24) w A B < N (BitVec.ofInt 8 20) w A B) = false then if decide (N (BitVec.ofInt 8 21) w A B < N (BitVec.ofInt 8 24) w A B) = false then if decide (N (BitVec.ofInt 8 21) w A B < N (BitVec.ofInt 8 20) w A B) = true then some (D.bool false) else if G w A B = true then if G w A B = true then if G w A B = true then if G w A B = true then if (false == (A == B)) = true then if (N (22#8) w A B == A) = false then if (N (22#8) w A B == B) = true then some (D.bool true) else some (D.bool false) else some (D.bool true) else some (D.bool false) else none else none else none else none else some (D.bool false) else some (D.bool false) else some (D.bool false) else if decide (N (BitVec.ofInt 8 1) w A B < A) = true then if (!N (16#8) w A B == M) = false then if decide (N (BitVec.ofInt 8 24) w A B < N (BitVec.ofInt 8 20) w A B) = false then if decide (N (BitVec.ofInt 8 21) w A B < N (BitVec.ofInt 8 24) w A B) = false then if decide (N (BitVec.ofInt 8 21) w A B < N (BitVec.ofInt 8 20) w A B) = true then some (D.bool false) else if G w A B = true then if G w A B = true then if G w A B = true then if G w A B = true then if (false == (A == B)) = true then if (N (22#8) w A B == A) = false then if (N (22#8) w A B == B) = true then some (D.bool true) else some (D.bool false) else some (D.bool true) else some (D.bool false) else none else none else none else none else some (D.bool false) else some (D.bool false) else some (D.bool false) else if decide (N (BitVec.ofInt 8 24) w A B < N (BitVec.ofInt 8 20) w A B) = false then if decide (N (BitVec.ofInt 8 21) w A B < N (BitVec.ofInt 8 24) w A B) = false then if decide (N (BitVec.ofInt 8 21) w A B < N (BitVec.ofInt 8 20) w A B) = true then some (D.bool false) else if G w A B = true then if G w A B = true then if G w A B = true then if G w A B = true then if (false == (A == B)) = true then if (N (22#8) w A B == A) = false then if (N (22#8) w A B == B) = true then some (D.bool true) else some (D.bool false) else some (D.bool true) else some (D.bool false) else none else none else none else none else some (D.bool false) else some (D.bool false)
theorem avg_nat (a b : BitVec 64) : (avgV a b).toNat = (a.toNat + b.toNat + 1) / 2 := by
  have h := and_xor_nat a.toNat b.toNat
  have al := a.isLt
  have bl := b.isLt
  have x1 := Nat.div_add_mod (a.toNat ^^^ b.toNat) 2
  have x2 := Nat.mod_lt (a.toNat ^^^ b.toNat) (by decide : 2 > 0)
  unfold avgV
  have z1 : (1#64).toNat = 1 := rfl
  have xl : a.toNat ^^^ b.toNat < 2 ^ 64 := Nat.xor_lt_two_pow al bl
  simp only [BitVec.toNat_add, BitVec.toNat_and, BitVec.toNat_xor, BitVec.toNat_ushiftRight, Nat.shiftRight_eq_div_pow, z1, Nat.and_one_is_mod, Nat.pow_one]
  generalize a.toNat &&& b.toNat = C at *
  generalize a.toNat ^^^ b.toNat = X at *
  omega
theorem sgn_inj {w : Int} {a b : BitVec 64} (ha : fitF w a = true) (hb : fitF w b = true) (h : sgnF w a = sgnF w b) : a = b := by
  rw [← num_sgn ha, h, num_sgn hb]
/-- What the comparisons without signs come to. -/
theorem held_facts {w : Int} {A B : BitVec 64} (hA : fitF w A = true) (hB : fitF w B = true) :
    (A ≤ twoN 1#8 w A B → twoN 16#8 w A B = twoN 1#8 w A B) ∧ (twoN 1#8 w A B < A → twoN 16#8 w A B = 18446744073709551615#64 &&& maskF w) ∧
    ¬ twoN 24#8 w A B < twoN 20#8 w A B ∧ ¬ twoN 21#8 w A B < twoN 24#8 w A B ∧ ¬ twoN 21#8 w A B < twoN 20#8 w A B := by
  obtain ⟨hw, h1⟩ := fitF_nat hA
  obtain ⟨_, h2⟩ := fitF_nat hB
  obtain ⟨k, hk, k1, k2⟩ := pw_even hw
  have hm := mask_nat hw
  have t16 : twoN 16#8 w A B = if maskF w - A < B then maskF w else A + B := (twoN_eq hA hB).trans (show _ = satV 16#8 w A B from rfl) |>.trans (by simp [satV])
  have t24 : twoN 24#8 w A B = avgV A B := (twoN_eq hA hB).trans rfl
  have t20 : twoN 20#8 w A B = if A < B then A else B := (twoN_eq hA hB).trans rfl
  have t21 : twoN 21#8 w A B = if A < B then B else A := (twoN_eq hA hB).trans rfl
  have s1 : ((A + B &&& maskF w).toNat : Int) = ((A.toNat : Int) + B.toNat) % pw w := by
    rw [and_nat hw, add_int, Int.emod_emod_of_dvd _ (pw_dvd hw)]
  have sm : (maskF w - A).toNat = (maskF w).toNat - A.toNat := by rw [BitVec.toNat_sub]; have := (maskF w).isLt; omega
  have av := avg_nat A B
  rw [two1 hA hB, t16, t24, t20, t21]
  have mm : 18446744073709551615#64 &&& maskF w = maskF w := by
    rcases okW_cases hw with rfl | rfl | rfl | rfl <;> decide
  refine ⟨fun h => ?_, fun h => ?_, ?_, ?_, ?_⟩
  · rw [BitVec.le_def] at h
    have hno : (A.toNat : Int) + B.toNat < pw w := by
      rcases (show (A.toNat : Int) + B.toNat < pw w ∨ pw w ≤ (A.toNat : Int) + B.toNat by omega) with h3 | h3
      · exact h3
      · exfalso
        have e : ((A.toNat : Int) + B.toNat) % pw w = (A.toNat : Int) + B.toNat - pw w := by
          rw [← Int.sub_emod_right, Int.emod_eq_of_lt (by omega) (by omega)]
        omega
    rw [if_neg (by rw [BitVec.lt_def, sm]; omega)]
    refine (fit_id (fit_of_nat hw ?_)).symm
    rw [add_int]
    omega
  · rw [BitVec.lt_def] at h
    have hov : pw w ≤ (A.toNat : Int) + B.toNat := by
      rcases (show (A.toNat : Int) + B.toNat < pw w ∨ pw w ≤ (A.toNat : Int) + B.toNat by omega) with h3 | h3
      · exfalso
        rw [Int.emod_eq_of_lt (by omega) h3] at s1
        omega
      · exact h3
    rw [if_pos (by rw [BitVec.lt_def, sm]; omega), mm]
  · rw [BitVec.lt_def, av]
    by_cases h : A < B
    · rw [if_pos h]; rw [BitVec.lt_def] at h; omega
    · rw [if_neg h]; rw [BitVec.lt_def] at h; omega
  · rw [BitVec.lt_def, av]
    by_cases h : A < B
    · rw [if_pos h]; rw [BitVec.lt_def] at h; omega
    · rw [if_neg h]; rw [BitVec.lt_def] at h; omega
  · by_cases h : A < B
    · rw [if_pos h, if_pos h]; rw [BitVec.lt_def] at *; omega
    · rw [if_neg h, if_neg h]; rw [BitVec.lt_def] at *; omega
theorem held_end0 {w : Int} {A B : BitVec 64} (hA : fitF w A = true) (hB : fitF w B = true) (hc : sgnF w A < sgnF w B) {G : Int → BitVec 64 → BitVec 64 → Bool} (hG : G w A B = true) : heldT0 twoN G w A B (18446744073709551615#64 &&& maskF w) = T := by
  obtain ⟨f1, f2, f3, f4, f5⟩ := held_facts hA hB
  have e1 : BitVec.ofInt 8 1 = 1#8 := rfl
  have e20 : BitVec.ofInt 8 20 = 20#8 := rfl
  have e21 : BitVec.ofInt 8 21 = 21#8 := rfl
  have e24 : BitVec.ofInt 8 24 = 24#8 := rfl
  have t22 : twoN 22#8 w A B = A := ((twoN_eq hA hB).trans (show twoV 22#8 w A B = if sgnF w A < sgnF w B then A else B from rfl)).trans (if_pos hc)
  have ab : (A == B) = false := by rw [beq_eq_false_iff_ne]; intro e; rw [e] at hc; omega
  have r1 : ∀ x : BitVec 64, (x == x) = true := fun x => by simp
  unfold heldT0
  simp only [e1, e20, e21, e24, f3, f4, f5, hG, t22, ab, decide_false, if_true, Bool.false_eq_true, if_false, r1, beq_self_eq_true, Bool.true_eq_false]
  by_cases g1 : A ≤ twoN 1#8 w A B
  · have g2 : ¬ twoN 1#8 w A B < A := by rw [BitVec.le_def] at g1; rw [BitVec.lt_def]; omega
    simp only [g1, g2, f1 g1, decide_true, decide_false, if_true, Bool.false_eq_true, if_false, r1, Bool.not_true]
    rfl
  · have g2 : twoN 1#8 w A B < A := by rw [BitVec.le_def] at g1; rw [BitVec.lt_def]; omega
    simp only [g1, g2, f2 g2, decide_true, decide_false, if_true, Bool.false_eq_true, if_false, r1, Bool.not_true]
    rfl
theorem held_end1 {w : Int} {A B : BitVec 64} (hA : fitF w A = true) (hB : fitF w B = true) (hc : sgnF w A = sgnF w B) {G : Int → BitVec 64 → BitVec 64 → Bool} (hG : G w A B = true) : heldT1 twoN G w A B (18446744073709551615#64 &&& maskF w) = T := by
  obtain ⟨f1, f2, f3, f4, f5⟩ := held_facts hA hB
  have e1 : BitVec.ofInt 8 1 = 1#8 := rfl
  have e20 : BitVec.ofInt 8 20 = 20#8 := rfl
  have e21 : BitVec.ofInt 8 21 = 21#8 := rfl
  have e24 : BitVec.ofInt 8 24 = 24#8 := rfl
  have t22 : twoN 22#8 w A B = A := ((twoN_eq hA hB).trans (show twoV 22#8 w A B = if sgnF w A < sgnF w B then A else B from rfl)).trans ((if_neg (by omega)).trans (sgn_inj hA hB hc).symm)
  have ab : (A == B) = true := by rw [beq_iff_eq]; exact sgn_inj hA hB hc
  have r1 : ∀ x : BitVec 64, (x == x) = true := fun x => by simp
  unfold heldT1
  simp only [e1, e20, e21, e24, f3, f4, f5, hG, t22, ab, decide_false, if_true, Bool.false_eq_true, if_false, r1, beq_self_eq_true, Bool.true_eq_false]
  by_cases g1 : A ≤ twoN 1#8 w A B
  · have g2 : ¬ twoN 1#8 w A B < A := by rw [BitVec.le_def] at g1; rw [BitVec.lt_def]; omega
    simp only [g1, g2, f1 g1, decide_true, decide_false, if_true, Bool.false_eq_true, if_false, r1, Bool.not_true]
    rfl
  · have g2 : twoN 1#8 w A B < A := by rw [BitVec.le_def] at g1; rw [BitVec.lt_def]; omega
    simp only [g1, g2, f2 g2, decide_true, decide_false, if_true, Bool.false_eq_true, if_false, r1, Bool.not_true]
    rfl
theorem held_end2 {w : Int} {A B : BitVec 64} (hA : fitF w A = true) (hB : fitF w B = true) (hc : sgnF w B < sgnF w A) {G : Int → BitVec 64 → BitVec 64 → Bool} (hG : G w A B = true) : heldT2 twoN G w A B (18446744073709551615#64 &&& maskF w) = T := by
  obtain ⟨f1, f2, f3, f4, f5⟩ := held_facts hA hB
  have e1 : BitVec.ofInt 8 1 = 1#8 := rfl
  have e20 : BitVec.ofInt 8 20 = 20#8 := rfl
  have e21 : BitVec.ofInt 8 21 = 21#8 := rfl
  have e24 : BitVec.ofInt 8 24 = 24#8 := rfl
  have t22 : twoN 22#8 w A B = B := ((twoN_eq hA hB).trans (show twoV 22#8 w A B = if sgnF w A < sgnF w B then A else B from rfl)).trans (if_neg (by omega))
  have ab : (A == B) = false := by rw [beq_eq_false_iff_ne]; intro e; rw [e] at hc; omega
  have ba : (B == A) = false := by rw [beq_eq_false_iff_ne]; intro e; rw [e] at hc; omega
  have r1 : ∀ x : BitVec 64, (x == x) = true := fun x => by simp
  unfold heldT2
  simp only [e1, e20, e21, e24, f3, f4, f5, hG, t22, ab, ba, decide_false, if_true, Bool.false_eq_true, if_false, r1, beq_self_eq_true, Bool.true_eq_false]
  by_cases g1 : A ≤ twoN 1#8 w A B
  · have g2 : ¬ twoN 1#8 w A B < A := by rw [BitVec.le_def] at g1; rw [BitVec.lt_def]; omega
    simp only [g1, g2, f1 g1, decide_true, decide_false, if_true, Bool.false_eq_true, if_false, r1, Bool.not_true]
    rfl
  · have g2 : twoN 1#8 w A B < A := by rw [BitVec.le_def] at g1; rw [BitVec.lt_def]; omega
    simp only [g1, g2, f2 g2, decide_true, decide_false, if_true, Bool.false_eq_true, if_false, r1, Bool.not_true]
    rfl
end Go.Wh
