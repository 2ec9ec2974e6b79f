/-
  Part of the proof; what its functions and lemmas say stands in the text.
-/
import Derived.Test.YtakonchpkchfhaaDoorWh10
set_option linter.unusedSimpArgs false
set_option linter.unusedVariables false
/-!
Whole numbers: quotients and moves fit together.
-/
namespace Go.Wh
open Go.Ev Go.RowKit

def dividesT (N : BitVec 8 → Int → BitVec 64 → BitVec 64 → BitVec 64) (R : BitVec 8 → Int → BitVec 64 → BitVec 64 → Int) (w : Int) (A B M : BitVec 64) : Option D :=
  if (!(B == 0#64) == (R (4#8) w A B == 6)) = false then if (!R (4#8) w A B == R (5#8) w A B) = false then if (R (4#8) w A B == 0) = true then if (!N (1#8) w (N (3#8) w (N (4#8) w A B) B) (N (5#8) w A B) == A) = false then if decide (B ≤ N (BitVec.ofInt 8 5) w A B) = true then some (D.bool false) else if (!(R (7#8) w A B == 6) == (B == 0#64)) = false then if (R (6#8) w A B == 6) = true then if (!B == 0#64) = true then if (!B == M) = false then if (!A == 1#64 <<< (BitVec.ofInt 64 (IntKind.i64.wrap (w - 1))).toNat) = false then if (!N (7#8) w A B == 0#64) = true then some (D.bool false) else if (!R (6#8) w A B == 0) = false then if (N (1#8) w (N (3#8) w (N (6#8) w A B) B) (N (7#8) w A B) == A) = true then some (D.bool true) else some (D.bool false) else some (D.bool true) else some (D.bool false) else some (D.bool false) else if (!R (6#8) w A B == 0) = false then if (N (1#8) w (N (3#8) w (N (6#8) w A B) B) (N (7#8) w A B) == A) = true then some (D.bool true) else some (D.bool false) else some (D.bool true) else if (!R (6#8) w A B == 0) = false then if (N (1#8) w (N (3#8) w (N (6#8) w A B) B) (N (7#8) w A B) == A) = true then some (D.bool true) else some (D.bool false) else some (D.bool true) else some (D.bool false) else some (D.bool false) else if (!(R (7#8) w A B == 6) == (B == 0#64)) = false then if (R (6#8) w A B == 6) = true then if (!B == 0#64) = true then if (!B == M) = false then if (!A == 1#64 <<< (BitVec.ofInt 64 (IntKind.i64.wrap (w - 1))).toNat) = false then if (!N (7#8) w A B == 0#64) = true then some (D.bool false) else if (!R (6#8) w A B == 0) = false then if (N (1#8) w (N (3#8) w (N (6#8) w A B) B) (N (7#8) w A B) == A) = true then some (D.bool true) else some (D.bool false) else some (D.bool true) else some (D.bool false) else some (D.bool false) else if (!R (6#8) w A B == 0) = false then if (N (1#8) w (N (3#8) w (N (6#8) w A B) B) (N (7#8) w A B) == A) = true then some (D.bool true) else some (D.bool false) else some (D.bool true) else if (!R (6#8) w A B == 0) = false then if (N (1#8) w (N (3#8) w (N (6#8) w A B) B) (N (7#8) w A B) == A) = true then some (D.bool true) else some (D.bool false) else some (D.bool true) else some (D.bool false) else some (D.bool false) else some (D.bool false)
def turnsT (N : BitVec 8 → Int → BitVec 64 → BitVec 64 → BitVec 64) (w : Int) (A B : BitVec 64) : Option D :=
  if BitVec.ofInt 64 w = 0#64 then none else if (N (15#8) w (N (14#8) w A B) B == A) = true then if (N (14#8) w A B == N (14#8) w A (B % BitVec.ofInt 64 w)) = true then if (N (3#8) w A (1#64 <<< (B % BitVec.ofInt 64 w).toNat) == N (11#8) w A B) = true then some (D.bool true) else some (D.bool false) else some (D.bool false) else some (D.bool false)

theorem two_divR {o : BitVec 8} {w : Int} {a b : BitVec 64} (ha : fitF w a = true) (hb : fitF w b = true) (ho : o = 4#8 ∨ o = 5#8 ∨ o = 6#8 ∨ o = 7#8) : twoR o w a b = divE o w a b := by
  rcases ho with rfl | rfl | rfl | rfl <;> simp only [twoR, may_of ha hb, if_true] <;> rfl
theorem two_divN {o : BitVec 8} {w : Int} {a b : BitVec 64} (ha : fitF w a = true) (hb : fitF w b = true) (ho : o = 4#8 ∨ o = 5#8 ∨ o = 6#8 ∨ o = 7#8) : twoN o w a b = divV o w a b := by
  rcases ho with rfl | rfl | rfl | rfl <;> exact (twoN_eq ha hb).trans rfl
theorem fit_le {w : Int} {a b : BitVec 64} (hb : fitF w b = true) (h : a.toNat ≤ b.toNat) : fitF w a = true := by
  obtain ⟨hw, h1⟩ := fitF_nat hb
  exact fit_of_nat hw (by omega)
theorem div_u {w : Int} {a b : BitVec 64} (ha : fitF w a = true) (h0 : ¬ b = 0#64) : ((a / b) * b &&& maskF w) + a % b &&& maskF w = a := by
  have hw := (fitF_nat ha).1
  rw [and_add_l hw]
  have e : (a / b) * b + a % b = a := by
    apply BitVec.eq_of_toNat_eq
    have h1 := Nat.div_add_mod a.toNat b.toNat
    have h2 : a.toNat / b.toNat * b.toNat ≤ a.toNat := Nat.div_mul_le_self _ _
    have := a.isLt
    rw [BitVec.toNat_add, BitVec.toNat_mul, BitVec.toNat_udiv, BitVec.toNat_umod]
    rw [Nat.mod_eq_of_lt (by omega : a.toNat / b.toNat * b.toNat < 2 ^ 64)]
    rw [Nat.mul_comm] at h1
    rw [h1, Nat.mod_eq_of_lt this]
  rw [e, fit_id ha]
theorem ofInt_wrap (n : Int) : BitVec.ofInt 64 (IntKind.i64.wrap n) = BitVec.ofInt 64 n := by
  apply BitVec.eq_of_toNat_eq
  rw [BitVec.toNat_ofInt, BitVec.toNat_ofInt, wrap64]
  have e : (((2 ^ 64 : Nat)) : Int) = 18446744073709551616 := by decide
  rw [e]
  split <;> omega
theorem and_mul_l' {w : Int} (h : okW w = true) (x y z : BitVec 64) : (x &&& maskF w) * y + z &&& maskF w = x * y + z &&& maskF w := by
  rw [← and_add_l h, and_mul_l h, and_add_l h]
theorem div_s {w : Int} {a b : BitVec 64} (ha : fitF w a = true) (hb : fitF w b = true) : ((BitVec.ofInt 64 (IntKind.i64.wrap ((sgnF w a).tdiv (sgnF w b))) &&& maskF w) * b &&& maskF w) + (BitVec.ofInt 64 ((sgnF w a).tmod (sgnF w b)) &&& maskF w) &&& maskF w = a := by
  have hw := (fitF_nat ha).1
  rw [and_add_l hw, and_add_r hw, and_mul_l' hw, ofInt_wrap]
  have e : BitVec.ofInt 64 ((sgnF w a).tdiv (sgnF w b)) * b + BitVec.ofInt 64 ((sgnF w a).tmod (sgnF w b)) &&& maskF w = BitVec.ofInt 64 ((sgnF w a).tdiv (sgnF w b)) * BitVec.ofInt 64 (sgnF w b) + BitVec.ofInt 64 ((sgnF w a).tmod (sgnF w b)) &&& maskF w := by
    rw [← and_add_l hw, ← and_mul_r hw]
    conv => rhs; rw [← and_add_l hw, ← and_mul_r hw]
    rw [num_sgn hb, fit_id hb]
  rw [e, ← BitVec.ofInt_mul, ← BitVec.ofInt_add, Int.mul_comm, Int.mul_tdiv_add_tmod, num_sgn ha]

theorem divides_end {w : Int} {A B : BitVec 64} (hA : fitF w A = true) (hB : fitF w B = true) : dividesT twoN twoR w A B (18446744073709551615#64 &&& maskF w) = T := by
  have hw := (fitF_nat hA).1
  unfold dividesT
  have o4 : twoR 4#8 w A B = if B = 0#64 then 6 else 0 := by rw [two_divR hA hB (by simp)]; simp [divE]
  have o5 : twoR 5#8 w A B = if B = 0#64 then 6 else 0 := by rw [two_divR hA hB (by simp)]; simp [divE]
  have o7 : twoR 7#8 w A B = if B = 0#64 then 6 else 0 := by rw [two_divR hA hB (by simp)]; simp [divE]
  have o6 : twoR 6#8 w A B = divE 6#8 w A B := two_divR hA hB (by simp)
  have e5 : BitVec.ofInt 8 5 = 5#8 := rfl
  have n4 := two_divN (o := 4#8) hA hB (by simp)
  have n5 := two_divN (o := 5#8) hA hB (by simp)
  have n6 := two_divN (o := 6#8) hA hB (by simp)
  have n7 := two_divN (o := 7#8) hA hB (by simp)
  by_cases h0 : B = 0#64
  · subst h0
    have d6 : divE 6#8 w A 0#64 = 6 := by simp [divE]
    rw [o4, o5, o7, o6, d6]
    simp [T]
  · have d4 : divV 4#8 w A B = A / B := by simp [divV, h0]
    have d5 : divV 5#8 w A B = A % B := by simp [divV, h0]
    have d7 : divV 7#8 w A B = BitVec.ofInt 64 ((sgnF w A).tmod (sgnF w B)) &&& maskF w := by simp [divV, h0]
    have f4 : fitF w (A / B) = true := fit_le hA (by rw [BitVec.toNat_udiv]; exact Nat.div_le_self _ _)
    have f5 : fitF w (A % B) = true := fit_le hA (by rw [BitVec.toNat_umod]; exact Nat.mod_le _ _)
    have f := fit_and hw
    have lt : ¬ B ≤ A % B := by
      rw [BitVec.le_def, BitVec.toNat_umod]
      have : B.toNat ≠ 0 := fun e => h0 (BitVec.eq_of_toNat_eq (by simpa using e))
      have := Nat.mod_lt A.toNat (by omega : B.toNat > 0)
      omega
    have u : twoN 1#8 w (twoN 3#8 w (twoN 4#8 w A B) B) (twoN 5#8 w A B) = A := by
      rw [n4, n5, d4, d5, two3 f4 hB, two1 (f _) f5, div_u hA h0]
    rw [n5, d5] at u
    have b0 : (B == 0#64) = false := by simpa using h0
    by_cases hx : sgnF w A = -(pw w / 2) ∧ sgnF w B = -1
    · have d6 : divE 6#8 w A B = 6 := by simp [divE, hx]
      have eB : B = 18446744073709551615#64 &&& maskF w := by
        rw [← num_sgn hB, hx.2]; rfl
      have eA : A = 1#64 <<< (BitVec.ofInt 64 (IntKind.i64.wrap (w - 1))).toNat := by
        rw [← num_sgn hA, hx.1]
        rcases okW_cases hw with rfl | rfl | rfl | rfl <;> decide
      have e7 : twoN 7#8 w A B = 0#64 := by
        rw [n7, d7, hx.2, Int.tmod_neg, Int.tmod_one]
        simp
      have bB : (B == 18446744073709551615#64 &&& maskF w) = true := by rw [← eB]; simp
      have bA : (A == 1#64 <<< (BitVec.ofInt 64 (IntKind.i64.wrap (w - 1))).toNat) = true := by rw [← eA]; simp
      simp only [o4, o5, o7, o6, d6, h0, b0, u, e5, n5, d5, lt, e7, bB, bA, if_false, if_true]
      simp [T]
    · have d6 : divE 6#8 w A B = 0 := by simp [divE, h0]; exact fun h1 h2 => hx ⟨h1, h2⟩
      have v6 : divV 6#8 w A B = BitVec.ofInt 64 (IntKind.i64.wrap ((sgnF w A).tdiv (sgnF w B))) &&& maskF w := by
        have : ¬ (sgnF w A = -(pw w / 2) ∧ sgnF w B = -1) := hx
        simp only [divV, h0, this]
        simp
      have s : twoN 1#8 w (twoN 3#8 w (twoN 6#8 w A B) B) (twoN 7#8 w A B) = A := by
        rw [n6, n7, v6, d7, two3 (f _) hB, two1 (f _) (f _), div_s hA hB]
      simp only [o4, o5, o7, o6, d6, h0, b0, u, e5, n5, d5, lt, s, if_false, if_true]
      simp [T]

/-! turns -/
theorem fit_bit {w : Int} {a : BitVec 64} (h : fitF w a = true) {j : Nat} (hj : w ≤ j) : a.getLsbD j = false := by
  obtain ⟨hw, ha⟩ := fitF_nat h
  have h2 : a.toNat < 2 ^ j := by
    have e : pw w ≤ ((2 ^ j : Nat) : Int) := by
      have key : ∀ k : Nat, pw w = ((2 ^ k : Nat) : Int) → w = k → pw w ≤ ((2 ^ j : Nat) : Int) := fun k h1 h2 => by
        rw [h1]
        have : 2 ^ k ≤ 2 ^ j := Nat.pow_le_pow_right (by decide) (by omega)
        omega
      rcases okW_cases hw with rfl | rfl | rfl | rfl
      · exact key 8 rfl rfl
      · exact key 16 rfl rfl
      · exact key 32 rfl rfl
      · exact key 64 rfl rfl
    omega
  rw [BitVec.getLsbD, Nat.testBit_lt_two_pow h2]
theorem mask_bit {w : Int} (h : okW w = true) (j : Nat) : (maskF w).getLsbD j = decide ((j : Int) < w) := by
  have key : ∀ k : Nat, k ≤ 64 → maskF w = 18446744073709551615#64 >>> (64 - k) → w = k → (maskF w).getLsbD j = decide ((j : Int) < w) := fun k h0 h1 h2 => by
    have e : (18446744073709551615#64) = BitVec.allOnes 64 := by decide
    rw [h1, e, BitVec.getLsbD_ushiftRight, BitVec.getLsbD_allOnes, h2]
    rw [Bool.eq_iff_iff, decide_eq_true_eq, decide_eq_true_eq]
    omega
  rcases okW_cases h with rfl | rfl | rfl | rfl
  · exact key 8 (by decide) (by decide) rfl
  · exact key 16 (by decide) (by decide) rfl
  · exact key 32 (by decide) (by decide) rfl
  · exact key 64 (by decide) (by decide) rfl
/-- Turned up by n. -/
def rotF (w : Int) (a : BitVec 64) (n : Nat) : BitVec 64 := (a <<< n ||| a >>> (w.toNat - n)) &&& maskF w
theorem rot_bit {w : Int} {a : BitVec 64} (h : fitF w a = true) {n j : Nat} (hn : (n : Int) < w) (hj : (j : Int) < w) : (rotF w a n).getLsbD j = a.getLsbD ((j + (w.toNat - n)) % w.toNat) := by
  have hw := (fitF_nat h).1
  have h64 : w ≤ 64 := by rcases okW_cases hw with rfl | rfl | rfl | rfl <;> omega
  have h8 : 8 ≤ w := by rcases okW_cases hw with rfl | rfl | rfl | rfl <;> omega
  unfold rotF
  rw [BitVec.getLsbD_and, mask_bit hw, decide_eq_true hj, Bool.and_true, BitVec.getLsbD_or, BitVec.getLsbD_shiftLeft, BitVec.getLsbD_ushiftRight]
  by_cases h1 : j < n
  · have e : (j + (w.toNat - n)) % w.toNat = w.toNat - n + j := by rw [Nat.mod_eq_of_lt (by omega)]; omega
    rw [e]
    simp [h1]
  · have e : (j + (w.toNat - n)) % w.toNat = j - n := by
      have : j + (w.toNat - n) = (j - n) + w.toNat := by omega
      rw [this, Nat.add_mod_right, Nat.mod_eq_of_lt (by omega)]
    rw [e, fit_bit h (j := w.toNat - n + j) (by omega)]
    simp [h1]
    omega
theorem rot_fit {w : Int} (h : okW w = true) (a : BitVec 64) (n : Nat) : fitF w (rotF w a n) = true := fit_and h _
theorem bits_eq {w : Int} {a b : BitVec 64} (ha : fitF w a = true) (hb : fitF w b = true) (h : ∀ j : Nat, (j : Int) < w → a.getLsbD j = b.getLsbD j) : a = b := by
  apply BitVec.eq_of_getLsbD_eq
  intro j _
  rcases (show (j : Int) < w ∨ w ≤ (j : Int) by omega) with hj | hj
  · exact h j hj
  · rw [fit_bit ha hj, fit_bit hb hj]
theorem rot_rot {w : Int} {a : BitVec 64} (h : fitF w a = true) {n : Nat} (hn : (n : Int) < w) : rotF w (rotF w a n) ((w.toNat - n) % w.toNat) = a := by
  have hw := (fitF_nat h).1
  have h8 : 8 ≤ w := by rcases okW_cases hw with rfl | rfl | rfl | rfl <;> omega
  refine bits_eq (rot_fit hw _ _) h fun j hj => ?_
  have hm := Nat.mod_lt (w.toNat - n) (by omega : w.toNat > 0)
  rw [rot_bit (rot_fit hw _ _) (by omega) hj]
  have hm2 := Nat.mod_lt (j + (w.toNat - (w.toNat - n) % w.toNat)) (by omega : w.toNat > 0)
  rw [rot_bit h hn (by omega)]
  congr 1
  rw [Nat.mod_add_mod]
  rcases Nat.eq_zero_or_pos n with rfl | h0
  · have e : (w.toNat - 0) % w.toNat = 0 := by simp
    rw [e, Nat.sub_zero, Nat.add_assoc, Nat.add_mod, Nat.add_mod_right, Nat.mod_self, Nat.add_zero, Nat.mod_mod, Nat.mod_eq_of_lt (by omega)]
  · have e : (w.toNat - n) % w.toNat = w.toNat - n := Nat.mod_eq_of_lt (by omega)
    rw [e]
    have e2 : j + (w.toNat - (w.toNat - n)) + (w.toNat - n) = j + w.toNat := by omega
    rw [e2, Nat.add_mod_right, Nat.mod_eq_of_lt (by omega)]
theorem ofW_nat {w : Int} (h : okW w = true) : (BitVec.ofInt 64 w).toNat = w.toNat := by
  rcases okW_cases h with rfl | rfl | rfl | rfl <;> decide
theorem mov14 {w : Int} {a n : BitVec 64} (hw : okW w = true) (hn : n.toNat < w.toNat) : movV 14#8 w a n = rotF w a n.toNat := by
  have h64 : w ≤ 64 := by rcases okW_cases hw with rfl | rfl | rfl | rfl <;> omega
  have e : (BitVec.ofInt 64 w - n).toNat = w.toNat - n.toNat := by
    rw [BitVec.toNat_sub, ofW_nat hw]
    have := n.isLt
    omega
  have e2 : movV 14#8 w a n = (a <<< n.toNat ||| a >>> (BitVec.ofInt 64 w - n).toNat) &&& maskF w := by simp [movV]
  rw [e2, e]; rfl
theorem mov15 {w : Int} {a n : BitVec 64} (hw : okW w = true) (hn : n.toNat < w.toNat) : movV 15#8 w a n = rotF w a ((w.toNat - n.toNat) % w.toNat) := by
  have h64 : w ≤ 64 := by rcases okW_cases hw with rfl | rfl | rfl | rfl <;> omega
  have h8 : 8 ≤ w := by rcases okW_cases hw with rfl | rfl | rfl | rfl <;> omega
  have e : (BitVec.ofInt 64 w - n).toNat = w.toNat - n.toNat := by
    rw [BitVec.toNat_sub, ofW_nat hw]
    have := n.isLt
    omega
  have hm := Nat.mod_lt (w.toNat - n.toNat) (by omega : w.toNat > 0)
  have e1 : ((BitVec.ofInt 64 w - n) % BitVec.ofInt 64 w).toNat = (w.toNat - n.toNat) % w.toNat := by rw [BitVec.toNat_umod, e, ofW_nat hw]
  have e2 : (BitVec.ofInt 64 w - (BitVec.ofInt 64 w - n) % BitVec.ofInt 64 w).toNat = w.toNat - (w.toNat - n.toNat) % w.toNat := by
    rw [BitVec.toNat_sub, e1, ofW_nat hw]
    omega
  have e3 : movV 15#8 w a n = (a <<< ((BitVec.ofInt 64 w - n) % BitVec.ofInt 64 w).toNat ||| a >>> (BitVec.ofInt 64 w - (BitVec.ofInt 64 w - n) % BitVec.ofInt 64 w).toNat) &&& maskF w := by simp [movV]
  rw [e3, e1, e2]; rfl
theorem modW {w : Int} (hw : okW w = true) (b : BitVec 64) : (b % BitVec.ofInt 64 w).toNat < w.toNat := by
  rw [BitVec.toNat_umod, ofW_nat hw]
  exact Nat.mod_lt _ (by rcases okW_cases hw with rfl | rfl | rfl | rfl <;> decide)
theorem fit_small {w : Int} (hw : okW w = true) {x : BitVec 64} (h : x.toNat < w.toNat) : fitF w x = true := by
  refine fit_of_nat hw ?_
  rcases okW_cases hw with rfl | rfl | rfl | rfl
  · rw [pw8]; simp at h; omega
  · rw [pw16]; simp at h; omega
  · rw [pw32]; simp at h; omega
  · rw [pw64]; simp at h; omega
theorem fit_one {w : Int} (hw : okW w = true) {k : Nat} (h : k < w.toNat) : fitF w (1#64 <<< k) = true := by
  refine fit_of_nat hw ?_
  have h64 : w ≤ 64 := by rcases okW_cases hw with rfl | rfl | rfl | rfl <;> omega
  have key : ∀ m : Nat, pw w = ((2 ^ m : Nat) : Int) → w = m → (((1#64 <<< k).toNat : Nat) : Int) < pw w := fun m h1 h2 => by
    rw [h1, BitVec.toNat_shiftLeft, Nat.shiftLeft_eq]
    have h3 : 2 ^ k < 2 ^ m := Nat.pow_lt_pow_right (by decide) (by omega)
    have h4 : (1#64).toNat = 1 := rfl
    have h5 : 1 * 2 ^ k % 2 ^ 64 ≤ 1 * 2 ^ k := Nat.mod_le _ _
    rw [h4]
    omega
  rcases okW_cases hw with rfl | rfl | rfl | rfl
  · exact key 8 rfl rfl
  · exact key 16 rfl rfl
  · exact key 32 rfl rfl
  · exact key 64 rfl rfl
theorem mul_one_shift (a : BitVec 64) (k : Nat) : a * 1#64 <<< k = a <<< k := by
  apply BitVec.eq_of_toNat_eq
  rw [BitVec.toNat_mul, BitVec.toNat_shiftLeft, BitVec.toNat_shiftLeft, Nat.shiftLeft_eq, Nat.shiftLeft_eq]
  have h4 : (1#64).toNat = 1 := rfl
  rw [h4, Nat.one_mul, Nat.mul_mod, Nat.mod_mod, ← Nat.mul_mod]
theorem turns_end {w : Int} {A B : BitVec 64} (hA : fitF w A = true) (hB : fitF w B = true) : turnsT twoN w A B = T := by
  have hw := (fitF_nat hA).1
  unfold turnsT
  have hk := modW hw B
  have hkk : (B % BitVec.ofInt 64 w) % BitVec.ofInt 64 w = B % BitVec.ofInt 64 w := by
    apply BitVec.eq_of_toNat_eq
    rw [BitVec.toNat_umod, Nat.mod_eq_of_lt (by rw [ofW_nat hw]; exact hk)]
  have fk := fit_small hw hk
  have t14 : twoN 14#8 w A B = rotF w A (B % BitVec.ofInt 64 w).toNat := ((twoN_eq hA hB).trans (show _ = movV 14#8 w A (B % BitVec.ofInt 64 w) from rfl)).trans (mov14 hw hk)
  have t14' : twoN 14#8 w A (B % BitVec.ofInt 64 w) = rotF w A (B % BitVec.ofInt 64 w).toNat := by
    refine ((twoN_eq hA fk).trans (show _ = movV 14#8 w A ((B % BitVec.ofInt 64 w) % BitVec.ofInt 64 w) from rfl)).trans ?_
    rw [hkk, mov14 hw hk]
  have t15 : twoN 15#8 w (rotF w A (B % BitVec.ofInt 64 w).toNat) B = A := by
    refine ((twoN_eq (rot_fit hw _ _) hB).trans (show _ = movV 15#8 w (rotF w A (B % BitVec.ofInt 64 w).toNat) (B % BitVec.ofInt 64 w) from rfl)).trans ?_
    rw [mov15 hw hk, rot_rot hA (by omega)]
  have t11 : twoN 11#8 w A B = A <<< (B % BitVec.ofInt 64 w).toNat &&& maskF w := ((twoN_eq hA hB).trans (show _ = movV 11#8 w A (B % BitVec.ofInt 64 w) from rfl)).trans (by simp [movV])
  have t3 : twoN 3#8 w A (1#64 <<< (B % BitVec.ofInt 64 w).toNat) = A <<< (B % BitVec.ofInt 64 w).toNat &&& maskF w := by
    rw [two3 hA (fit_one hw hk), mul_one_shift]
  rw [if_neg (ofW_ne hw), t14, t14', t15, t11, t3]
  simp [T]
end Go.Wh
