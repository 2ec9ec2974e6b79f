/-
  Part of the proof; what its functions and lemmas say stands in the text.
-/
import Derived.Test.YtlicpmhlphhabaaDoorWhB
set_option linter.unusedSimpArgs false
set_option linter.unusedVariables false
/-!
Whole numbers: bit by bit.
-/
namespace Go.Wh
open Go.Ev Go.RowKit

theorem bit_and (a : BitVec 64) (k : Nat) : (a >>> k &&& 1#64) = if a.getLsbD k = true then 1#64 else 0#64 := by
  apply BitVec.eq_of_getLsbD_eq
  intro j hj
  rw [BitVec.getLsbD_and, BitVec.getLsbD_ushiftRight]
  have h1 : (1#64).getLsbD j = decide (j = 0) := by
    rw [BitVec.getLsbD_one]
    simp [hj]
  rw [h1]
  by_cases h0 : j = 0
  · subst h0
    rw [Nat.add_zero]
    cases a.getLsbD k <;> simp
  · rw [decide_eq_false h0, Bool.and_false]
    cases a.getLsbD k
    · simp
    · simp [BitVec.getLsbD_one, h0]
theorem ofInt_nat64 {i : Nat} (h : i < 18446744073709551616) : (BitVec.ofInt 64 (i : Int)).toNat = i := by
  rw [BitVec.toNat_ofInt]
  have e : (((2 ^ 64 : Nat)) : Int) = 18446744073709551616 := by decide
  rw [e]
  omega
theorem ofInt_toNat {v : Int} (h0 : 0 ≤ v) (h1 : v < 18446744073709551616) : (BitVec.ofInt 64 v).toNat = v.toNat := by
  have := ofInt_nat h0 h1
  omega
/-- The bits that are set, one by one. -/
theorem or_bit (q : BitVec 64) (c : Bool) (i j : Nat) (hi : i < 64) (hj : j < 64) : (q ||| (if c = true then 1#64 else 0#64) <<< i).getLsbD j = (q.getLsbD j || (decide (j = i) && c)) := by
  rw [BitVec.getLsbD_or, BitVec.getLsbD_shiftLeft]
  congr 1
  by_cases h : j < i
  · simp [h]; intro e; omega
  · have e0 : decide (j < 64) = true := by simp [hj]
    have e1 : decide (j < i) = false := by simp [h]
    rw [e0, e1]
    cases c
    · simp
    · rw [if_pos rfl, BitVec.getLsbD_one]
      simp
      omega
theorem bits_of {q v : BitVec 64} (h : ∀ j, j < 64 → q.getLsbD j = v.getLsbD j) : q = v := BitVec.eq_of_getLsbD_eq fun j hj => h j hj
theorem okW_rng {w : Int} (h : okW w = true) : 8 ≤ w ∧ w ≤ 64 := by rcases okW_cases h with rfl | rfl | rfl | rfl <;> omega

/-! and, or, xor -/
def bitB (o : BitVec 8) (x y : Bool) : Bool := if (o == 8#8) = true then x && y else if (o == 9#8) = true then x || y else if (o == 10#8) = true then x != y else false
def bitsV (o : BitVec 8) (a b : BitVec 64) : BitVec 64 := if (o == 8#8) = true then a &&& b else if (o == 9#8) = true then a ||| b else if (o == 10#8) = true then a ^^^ b else 0#64
theorem bitsV_bit (o : BitVec 8) (a b : BitVec 64) (j : Nat) : (bitsV o a b).getLsbD j = bitB o (a.getLsbD j) (b.getLsbD j) := by
  unfold bitsV bitB
  split
  · simp
  · split
    · simp
    · split
      · simp
      · simp
theorem bitsV_fit {o : BitVec 8} {w : Int} {a b : BitVec 64} (ha : fitF w a = true) (hb : fitF w b = true) {j : Nat} (hj : w ≤ j) : bitB o (a.getLsbD j) (b.getLsbD j) = false := by
  rw [fit_bit ha hj, fit_bit hb hj]
  unfold bitB
  split <;> (try split) <;> (try split) <;> rfl

/-! moves -/
/-- Where a bit comes from. -/
def fromI (o : BitVec 8) (w n i : Int) : Int :=
  if o = 11#8 then i - n else if o = 12#8 then i + n else if o = 13#8 then (if w ≤ i + n then w - 1 else i + n) else if o = 14#8 then (i + w - n).tmod w else (i + n).tmod w
def movB (o : BitVec 8) (w n i : Int) (a : BitVec 64) : Bool := decide (0 ≤ fromI o w n i ∧ fromI o w n i < w) && a.getLsbD (fromI o w n i).toNat
theorem from11 (w n i : Int) : fromI 11#8 w n i = i - n := by simp [fromI]
theorem from12 (w n i : Int) : fromI 12#8 w n i = i + n := by simp [fromI]
theorem from13 (w n i : Int) : fromI 13#8 w n i = if w ≤ i + n then w - 1 else i + n := by simp [fromI]
theorem from14 (w n i : Int) : fromI 14#8 w n i = (i + w - n).tmod w := by simp [fromI]
theorem from15 (w n i : Int) : fromI 15#8 w n i = (i + n).tmod w := by simp [fromI]
theorem movB_of {o : BitVec 8} {w n i f : Int} {a : BitVec 64} (hf : fromI o w n i = f) (h : 0 ≤ f ∧ f < w) : movB o w n i a = a.getLsbD f.toNat := by simp [movB, hf, h]
theorem movB_no {o : BitVec 8} {w n i f : Int} {a : BitVec 64} (hf : fromI o w n i = f) (h : ¬ (0 ≤ f ∧ f < w)) : movB o w n i a = false := by simp only [movB, hf, h]; simp
theorem leaf3 {α : Type} (w f : Int) (x y : α) : (if decide (w ≤ f) = true then if decide (0 ≤ f) = true then if decide (f < w) = true then x else y else y else if decide (0 ≤ f) = true then if decide (f < w) = true then x else y else y) = if 0 ≤ f ∧ f < w then x else y := by
  by_cases h1 : 0 ≤ f <;> by_cases h2 : f < w <;> simp [h1, h2]
theorem leaf3' {α : Type} (w f g : Int) (x y x2 : α) : (if decide (w ≤ f) = true then if decide (0 ≤ g) = true then if decide (g < w) = true then x else y else y else if decide (0 ≤ f) = true then if decide (f < w) = true then x2 else y else y) = if w ≤ f then (if 0 ≤ g ∧ g < w then x else y) else (if 0 ≤ f ∧ f < w then x2 else y) := by
  by_cases h0 : w ≤ f <;> by_cases h1 : 0 ≤ f <;> by_cases h2 : f < w <;> by_cases h3 : 0 ≤ g <;> by_cases h4 : g < w <;> simp [h0, h1, h2, h3, h4]
theorem sar_bit {w : Int} {a : BitVec 64} (h : fitF w a = true) {n j : Nat} (hn : (n : Int) < w) (hj : (j : Int) < w) : (BitVec.ofInt 64 (sgnF w a / 2 ^ min n 64)).getLsbD j = a.getLsbD (if w ≤ (j : Int) + n then w - 1 else (j : Int) + n).toNat := by
  obtain ⟨hw, ha⟩ := fitF_nat h
  obtain ⟨g1, g2⟩ := okW_rng hw
  have hn64 : min n 64 = n := by omega
  rw [hn64]
  have key : ∀ k : Nat, k ≤ 64 → w = k → sOfU .i64 (a <<< (64 - k)) / 2 ^ (64 - k) = sgnF w a → (BitVec.ofInt 64 (sgnF w a / 2 ^ n)).getLsbD j = a.getLsbD (if w ≤ (j : Int) + n then w - 1 else (j : Int) + n).toNat := fun k h0 h1 h2 => by
    rw [← h2, sOfU64]
    have e : (a <<< (64 - k)).toInt / 2 ^ (64 - k) / 2 ^ n = ((a <<< (64 - k)).sshiftRight (64 - k + n)).toInt := by
      rw [BitVec.toInt_sshiftRight, Int.shiftRight_add, Int.shiftRight_eq_div_pow, Int.shiftRight_eq_div_pow]
      simp
    rw [e, BitVec.ofInt_toInt, BitVec.getLsbD_sshiftRight]
    have e1 : decide (64 ≤ j) = false := by simp; omega
    rw [e1, Bool.not_false, Bool.true_and]
    by_cases h3 : w ≤ (j : Int) + n
    · rw [if_pos h3, if_neg (by omega), BitVec.msb_eq_getLsbD_last, BitVec.getLsbD_shiftLeft]
      have e2 : 64 - 1 - (64 - k) = (w - 1).toNat := by omega
      rw [e2]
      have e3 : decide (64 - 1 < 64 - k) = false := by simp; omega
      rw [e3]
      simp
    · rw [if_neg h3, if_pos (by omega), BitVec.getLsbD_shiftLeft]
      have e2 : 64 - k + n + j - (64 - k) = ((j : Int) + n).toNat := by omega
      rw [e2]
      have e3 : decide (64 - k + n + j < 64 - k) = false := by simp; omega
      have e4 : decide (64 - k + n + j < 64) = true := by simp; omega
      rw [e3, e4]
      simp
  rcases okW_cases hw with rfl | rfl | rfl | rfl
  · exact key 8 (by decide) rfl (worth8 ha)
  · exact key 16 (by decide) rfl (worth16 ha)
  · exact key 32 (by decide) rfl (worth32 ha)
  · exact key 64 (by decide) rfl (worth64 a)
theorem mov_bit {o : BitVec 8} {w : Int} {a n : BitVec 64} (h : fitF w a = true) (hn : n.toNat < w.toNat) (ho : o = 11#8 ∨ o = 12#8 ∨ o = 13#8 ∨ o = 14#8 ∨ o = 15#8) {j : Nat} (hj : j < 64) : (movV o w a n).getLsbD j = (decide ((j : Int) < w) && movB o w n.toNat j a) := by
  obtain ⟨hw, ha⟩ := fitF_nat h
  obtain ⟨g1, g2⟩ := okW_rng hw
  rcases ho with rfl | rfl | rfl | rfl | rfl
  · have e : movV 11#8 w a n = a <<< n.toNat &&& maskF w := by simp [movV]
    rw [e, BitVec.getLsbD_and, mask_bit hw, Bool.and_comm]
    by_cases hjw : (j : Int) < w
    · rw [decide_eq_true hjw, Bool.true_and, Bool.true_and, BitVec.getLsbD_shiftLeft, decide_eq_true hj, Bool.true_and]
      by_cases h1 : j < n.toNat
      · rw [movB_no (from11 _ _ _) (by omega), decide_eq_true h1]; rfl
      · rw [movB_of (from11 _ _ _) (by omega), decide_eq_false h1, Bool.not_false, Bool.true_and]
        congr 1
        omega
    · rw [decide_eq_false hjw, Bool.false_and, Bool.false_and]
  · have e : movV 12#8 w a n = a >>> n.toNat := by simp [movV]
    rw [e, BitVec.getLsbD_ushiftRight]
    by_cases h1 : (j : Int) + n.toNat < w
    · have h2 : (j : Int) < w := by omega
      rw [movB_of (from12 _ _ _) (by omega), decide_eq_true h2, Bool.true_and]
      congr 1
      omega
    · rw [fit_bit h (j := n.toNat + j) (by omega), movB_no (from12 _ _ _) (by omega), Bool.and_false]
  · have e : movV 13#8 w a n = BitVec.ofInt 64 (sgnF w a / 2 ^ min n.toNat 64) &&& maskF w := by simp [movV]
    rw [e, BitVec.getLsbD_and, mask_bit hw, Bool.and_comm]
    by_cases hjw : (j : Int) < w
    · rw [decide_eq_true hjw, Bool.true_and, Bool.true_and, sar_bit h (by omega) hjw, movB_of (from13 _ _ _) (by split <;> omega)]
    · rw [decide_eq_false hjw, Bool.false_and, Bool.false_and]
  · rw [mov14 hw hn]
    by_cases hjw : (j : Int) < w
    · have hm := Nat.mod_lt (j + (w.toNat - n.toNat)) (by omega : w.toNat > 0)
      have e1 : fromI 14#8 w n.toNat j = (((j + (w.toNat - n.toNat)) % w.toNat : Nat) : Int) := by
        rw [from14, Int.tmod_eq_emod_of_nonneg (by omega), Int.natCast_emod]
        have : (w.toNat : Int) = w := by omega
        rw [this]
        congr 1
        omega
      rw [decide_eq_true hjw, Bool.true_and, rot_bit h (by omega) hjw, movB_of e1 (by omega), Int.toNat_natCast]
    · rw [decide_eq_false hjw, Bool.false_and, fit_bit (rot_fit hw _ _) (by omega)]
  · rw [mov15 hw hn]
    have hm0 := Nat.mod_lt (w.toNat - n.toNat) (by omega : w.toNat > 0)
    by_cases hjw : (j : Int) < w
    · have hm := Nat.mod_lt (j + (w.toNat - (w.toNat - n.toNat) % w.toNat)) (by omega : w.toNat > 0)
      have e1 : fromI 15#8 w n.toNat j = (((j + (w.toNat - (w.toNat - n.toNat) % w.toNat)) % w.toNat : Nat) : Int) := by
        rw [from15, Int.tmod_eq_emod_of_nonneg (by omega), Int.natCast_emod]
        have e0 : (w.toNat : Int) = w := by omega
        rw [e0]
        rcases Nat.eq_zero_or_pos n.toNat with h0 | h0
        · have : (w.toNat - n.toNat) % w.toNat = 0 := by rw [h0, Nat.sub_zero, Nat.mod_self]
          rw [this, h0]
          have : ((j + (w.toNat - 0) : Nat) : Int) = (j : Int) + w := by omega
          rw [this, Int.add_emod_right]
          simp
        · have : (w.toNat - n.toNat) % w.toNat = w.toNat - n.toNat := Nat.mod_eq_of_lt (by omega)
          rw [this]
          congr 1
          omega
      rw [decide_eq_true hjw, Bool.true_and, rot_bit h (by omega) hjw, movB_of e1 (by omega), Int.toNat_natCast]
    · rw [decide_eq_false hjw, Bool.false_and, fit_bit (rot_fit hw _ _) (by omega)]
end Go.Wh
/-!
Whole numbers: means, rounded products.
-/
namespace Go.Wh
open Go.Ev Go.RowKit

theorem and_xor_nat : ∀ (a b : Nat), a + b = 2 * (a &&& b) + (a ^^^ b)
  | a, b => by
    by_cases h : a = 0
    · subst h; simp
    · have ih := and_xor_nat (a / 2) (b / 2)
      have h1 := Nat.and_div_two (a := a) (b := b)
      have h2 := Nat.xor_div_two (a := a) (b := b)
      have h3 := Nat.and_mod_two_eq_one (a := a) (b := b)
      have h4 := Nat.xor_mod_two_eq_one (a := a) (b := b)
      have e1 := Nat.div_add_mod (a &&& b) 2
      have e2 := Nat.div_add_mod (a ^^^ b) 2
      have e3 := Nat.div_add_mod a 2
      have e4 := Nat.div_add_mod b 2
      rw [← h1, ← h2] at ih
      have l1 := Nat.mod_lt a (by decide : 2 > 0)
      have l2 := Nat.mod_lt b (by decide : 2 > 0)
      have l3 := Nat.mod_lt (a &&& b) (by decide : 2 > 0)
      have l4 := Nat.mod_lt (a ^^^ b) (by decide : 2 > 0)
      rcases Nat.mod_two_eq_zero_or_one a with ha | ha <;> rcases Nat.mod_two_eq_zero_or_one b with hb | hb <;>
        rcases Nat.mod_two_eq_zero_or_one (a &&& b) with hc | hc <;> rcases Nat.mod_two_eq_zero_or_one (a ^^^ b) with hd | hd <;> simp only [ha, hb, hc, hd] at h3 h4 <;> first | omega | (exfalso; revert h3 h4; decide)
termination_by a b => a
theorem avg_ref (a b : BitVec 64) : a / 2#64 + b / 2#64 + (a % 2#64 + b % 2#64 + 1#64) / 2#64 = avgV a b := by
  apply BitVec.eq_of_toNat_eq
  have h := and_xor_nat a.toNat b.toNat
  have al := a.isLt
  have bl := b.isLt
  have c1 := Nat.and_le_left (n := a.toNat) (m := b.toNat)
  have x1 := Nat.div_add_mod (a.toNat ^^^ b.toNat) 2
  have x2 := Nat.mod_lt (a.toNat ^^^ b.toNat) (by decide : 2 > 0)
  unfold avgV
  have z1 : (1#64).toNat = 1 := rfl
  have z2 : (2#64).toNat = 2 := rfl
  have xl : a.toNat ^^^ b.toNat < 2 ^ 64 := Nat.xor_lt_two_pow al bl
  simp only [BitVec.toNat_add, BitVec.toNat_udiv, BitVec.toNat_umod, BitVec.toNat_and, BitVec.toNat_xor, BitVec.toNat_ushiftRight, Nat.shiftRight_eq_div_pow, z1, z2, Nat.and_one_is_mod, Nat.pow_one]
  have m1 := Nat.mod_lt a.toNat (by decide : 2 > 0)
  have m2 := Nat.mod_lt b.toNat (by decide : 2 > 0)
  generalize a.toNat &&& b.toNat = C at *
  generalize a.toNat ^^^ b.toNat = X at *
  omega
theorem q15_ref {a b : BitVec 64} (ha : fitF 16 a = true) (hb : fitF 16 b = true) : BitVec.ofInt 64 (min (IntKind.i64.wrap (IntKind.i64.wrap (sgnF 16 a * sgnF 16 b) + 16384) / 32768) 32767) &&& maskF 16 = q15V a b := by
  have r1 := sgn_range ha
  have r2 := sgn_range hb
  rw [pw16] at r1 r2
  unfold q15V heldF
  generalize sgnF 16 a = x at *
  generalize sgnF 16 b = y at *
  have h1 : x.natAbs ≤ 32768 := by omega
  have h2 : y.natAbs ≤ 32768 := by omega
  have h3 : (x * y).natAbs ≤ 32768 * 32768 := by rw [Int.natAbs_mul]; exact Nat.mul_le_mul h1 h2
  generalize x * y = z at *
  rw [wrap_in (n := z) (by omega) (by omega), wrap_in (by omega) (by omega)]
  have e : min (max ((z + 16384) / 32768) (-32768)) 32767 = min ((z + 16384) / 32768) 32767 := by omega
  rw [e]
theorem q15R_eq {a b : BitVec 64} (ha : fitF 16 a = true) (hb : fitF 16 b = true) : q15R a b = some (.u64 (q15V a b)) := by
  have e15 : (2 : Int) ^ min (BitVec.ofInt 64 15).toNat 64 = 32768 := by decide
  have t1 : (true = true) = True := eq_true rfl
  simp only [q15R, ha, hb, t1, if_true, e15, ← q15_ref ha hb, maskF16]
  have em : ∀ x : Int, (if 32767 < x then 32767 else x) = min x 32767 := fun x => by split <;> omega
  rw [em]
end Go.Wh
/-!
Whole numbers: the operators of two, by the reference.
-/
namespace Go.Wh
open Go.Ev Go.RowKit

def twoRt (o : BitVec 8) (w : Int) (a b : BitVec 64) : Option D :=
  if (o == 1#8) = true then some (D.tup [D.u64 (a + b &&& maskF w), D.i IntKind.i64 0]) else if (o == 2#8) = true then some (D.tup [D.u64 (a - b &&& maskF w), D.i IntKind.i64 0]) else if (o == 3#8) = true then some (D.tup [D.u64 (a * b &&& maskF w), D.i IntKind.i64 0]) else if (o == 4#8) = true then if (fitF w a && fitF w b) = true then some (D.tup [D.u64 (divV o w a b), D.i IntKind.i64 (divE o w a b)]) else none else if (o == 5#8) = true then if (fitF w a && fitF w b) = true then some (D.tup [D.u64 (divV o w a b), D.i IntKind.i64 (divE o w a b)]) else none else if (o == 6#8) = true then if (fitF w a && fitF w b) = true then some (D.tup [D.u64 (divV o w a b), D.i IntKind.i64 (divE o w a b)]) else none else if (o == 7#8) = true then if (fitF w a && fitF w b) = true then some (D.tup [D.u64 (divV o w a b), D.i IntKind.i64 (divE o w a b)]) else none else if (o == 8#8) = true then if (fitF w a && fitF w b) = true then some (D.tup [D.u64 (bitsV o a b), D.i IntKind.i64 0]) else none else if (o == 9#8) = true then if (fitF w a && fitF w b) = true then some (D.tup [D.u64 (bitsV o a b), D.i IntKind.i64 0]) else none else if (o == 10#8) = true then if (fitF w a && fitF w b) = true then some (D.tup [D.u64 (bitsV o a b), D.i IntKind.i64 0]) else none else if (o == 11#8) = true then if (fitF w a && decide (o = 11#8 ∨ o = 12#8 ∨ o = 13#8 ∨ o = 14#8 ∨ o = 15#8)) = true then some (D.tup [D.u64 (movV o w a (b % BitVec.ofInt 64 w)), D.i IntKind.i64 0]) else none else if (o == 12#8) = true then if (fitF w a && decide (o = 11#8 ∨ o = 12#8 ∨ o = 13#8 ∨ o = 14#8 ∨ o = 15#8)) = true then some (D.tup [D.u64 (movV o w a (b % BitVec.ofInt 64 w)), D.i IntKind.i64 0]) else none else if (o == 13#8) = true then if (fitF w a && decide (o = 11#8 ∨ o = 12#8 ∨ o = 13#8 ∨ o = 14#8 ∨ o = 15#8)) = true then some (D.tup [D.u64 (movV o w a (b % BitVec.ofInt 64 w)), D.i IntKind.i64 0]) else none else if (o == 14#8) = true then if (fitF w a && decide (o = 11#8 ∨ o = 12#8 ∨ o = 13#8 ∨ o = 14#8 ∨ o = 15#8)) = true then some (D.tup [D.u64 (movV o w a (b % BitVec.ofInt 64 w)), D.i IntKind.i64 0]) else none else if (o == 15#8) = true then if (fitF w a && decide (o = 11#8 ∨ o = 12#8 ∨ o = 13#8 ∨ o = 14#8 ∨ o = 15#8)) = true then some (D.tup [D.u64 (movV o w a (b % BitVec.ofInt 64 w)), D.i IntKind.i64 0]) else none else if (o == 16#8) = true then if (fitF w a && fitF w b && decide (o = 16#8 ∨ o = 17#8 ∨ o = 18#8 ∨ o = 19#8)) = true then some (D.tup [D.u64 (satV o w a b), D.i IntKind.i64 0]) else none else if (o == 17#8) = true then if (fitF w a && fitF w b && decide (o = 16#8 ∨ o = 17#8 ∨ o = 18#8 ∨ o = 19#8)) = true then some (D.tup [D.u64 (satV o w a b), D.i IntKind.i64 0]) else none else if (o == 18#8) = true then if (fitF w a && fitF w b && decide (o = 16#8 ∨ o = 17#8 ∨ o = 18#8 ∨ o = 19#8)) = true then some (D.tup [D.u64 (satV o w a b), D.i IntKind.i64 0]) else none else if (o == 19#8) = true then if (fitF w a && fitF w b && decide (o = 16#8 ∨ o = 17#8 ∨ o = 18#8 ∨ o = 19#8)) = true then some (D.tup [D.u64 (satV o w a b), D.i IntKind.i64 0]) else none else if (o == 20#8) = true then if (fitF w a && fitF w b && decide (o = 20#8 ∨ o = 21#8 ∨ o = 22#8 ∨ o = 23#8)) = true then some (D.tup [D.u64 (minV o w a b), D.i IntKind.i64 0]) else none else if (o == 21#8) = true then if (fitF w a && fitF w b && decide (o = 20#8 ∨ o = 21#8 ∨ o = 22#8 ∨ o = 23#8)) = true then some (D.tup [D.u64 (minV o w a b), D.i IntKind.i64 0]) else none else if (o == 22#8) = true then if (fitF w a && fitF w b && decide (o = 20#8 ∨ o = 21#8 ∨ o = 22#8 ∨ o = 23#8)) = true then some (D.tup [D.u64 (minV o w a b), D.i IntKind.i64 0]) else none else if (o == 23#8) = true then if (fitF w a && fitF w b && decide (o = 20#8 ∨ o = 21#8 ∨ o = 22#8 ∨ o = 23#8)) = true then some (D.tup [D.u64 (minV o w a b), D.i IntKind.i64 0]) else none else if (o == 24#8) = true then some (D.tup [D.u64 (a / 2#64 + b / 2#64 + (a % 2#64 + b % 2#64 + 1#64) / 2#64), D.i IntKind.i64 0]) else if (o == 25#8) = true then if (fitF 16 a && fitF 16 b) = true then some (D.tup [D.u64 (q15V a b), D.i IntKind.i64 0]) else none else some (D.tup [D.u64 0#64, D.i IntKind.i64 2])
def twoRf (o : BitVec 8) (w : Int) (a b : BitVec 64) : Option D :=
  if (!okW w) = false then if (!decide (a ≤ maskF w)) = false then if (!decide (b ≤ maskF w)) = false then if (o == 25#8) = true then if (!w == 16) = true then some (D.tup [D.u64 0#64, D.i IntKind.i64 2]) else twoRt o w a b else twoRt o w a b else some (D.tup [D.u64 0#64, D.i IntKind.i64 2]) else some (D.tup [D.u64 0#64, D.i IntKind.i64 2]) else some (D.tup [D.u64 0#64, D.i IntKind.i64 2])
theorem twoRt_eq {o : BitVec 8} {w : Int} {a b : BitVec 64} (ha : fitF w a = true) (hb : fitF w b = true) (h25 : o = 25#8 → w = 16) : twoRt o w a b = twoT o w a b := by
  have hw := (fitF_nat ha).1
  have e2 : BitVec.ofInt 64 2 = 2#64 := rfl
  have e1 : BitVec.ofInt 64 1 = 1#64 := rfl
  by_cases h1 : o = 1#8
  · subst h1
    simp [twoRt, twoT, ha, hb]
  by_cases h2 : o = 2#8
  · subst h2
    simp [twoRt, twoT, ha, hb]
  by_cases h3 : o = 3#8
  · subst h3
    simp [twoRt, twoT, ha, hb]
  by_cases h4 : o = 4#8
  · subst h4
    simp [twoRt, twoT, ha, hb]
  by_cases h5 : o = 5#8
  · subst h5
    simp [twoRt, twoT, ha, hb]
  by_cases h6 : o = 6#8
  · subst h6
    simp [twoRt, twoT, ha, hb]
  by_cases h7 : o = 7#8
  · subst h7
    simp [twoRt, twoT, ha, hb]
  by_cases h8 : o = 8#8
  · subst h8
    simp [twoRt, twoT, ha, hb, bitsV]
  by_cases h9 : o = 9#8
  · subst h9
    simp [twoRt, twoT, ha, hb, bitsV]
  by_cases h10 : o = 10#8
  · subst h10
    simp [twoRt, twoT, ha, hb, bitsV]
  by_cases h11 : o = 11#8
  · subst h11
    simp [twoRt, twoT, ha, hb]
  by_cases h12 : o = 12#8
  · subst h12
    simp [twoRt, twoT, ha, hb]
  by_cases h13 : o = 13#8
  · subst h13
    simp [twoRt, twoT, ha, hb]
  by_cases h14 : o = 14#8
  · subst h14
    simp [twoRt, twoT, ha, hb]
  by_cases h15 : o = 15#8
  · subst h15
    simp [twoRt, twoT, ha, hb]
  by_cases h16 : o = 16#8
  · subst h16
    simp [twoRt, twoT, ha, hb]
  by_cases h17 : o = 17#8
  · subst h17
    simp [twoRt, twoT, ha, hb]
  by_cases h18 : o = 18#8
  · subst h18
    simp [twoRt, twoT, ha, hb]
  by_cases h19 : o = 19#8
  · subst h19
    simp [twoRt, twoT, ha, hb]
  by_cases h20 : o = 20#8
  · subst h20
    simp [twoRt, twoT, ha, hb, minV]
  by_cases h21 : o = 21#8
  · subst h21
    simp [twoRt, twoT, ha, hb, minV]
  by_cases h22 : o = 22#8
  · subst h22
    simp [twoRt, twoT, ha, hb, minV]
  by_cases h23 : o = 23#8
  · subst h23
    simp [twoRt, twoT, ha, hb, minV]
  by_cases h24 : o = 24#8
  · subst h24
    simp [twoRt, twoT, ha, hb, avg_ref]
  by_cases h25 : o = 25#8
  · subst h25
    have e := h25 rfl
    subst e
    simp [twoRt, twoT, ha, hb]
  have c1 : (o == 1#8) = false := by simpa using h1
  have c2 : (o == 2#8) = false := by simpa using h2
  have c3 : (o == 3#8) = false := by simpa using h3
  have c4 : (o == 4#8) = false := by simpa using h4
  have c5 : (o == 5#8) = false := by simpa using h5
  have c6 : (o == 6#8) = false := by simpa using h6
  have c7 : (o == 7#8) = false := by simpa using h7
  have c8 : (o == 8#8) = false := by simpa using h8
  have c9 : (o == 9#8) = false := by simpa using h9
  have c10 : (o == 10#8) = false := by simpa using h10
  have c11 : (o == 11#8) = false := by simpa using h11
  have c12 : (o == 12#8) = false := by simpa using h12
  have c13 : (o == 13#8) = false := by simpa using h13
  have c14 : (o == 14#8) = false := by simpa using h14
  have c15 : (o == 15#8) = false := by simpa using h15
  have c16 : (o == 16#8) = false := by simpa using h16
  have c17 : (o == 17#8) = false := by simpa using h17
  have c18 : (o == 18#8) = false := by simpa using h18
  have c19 : (o == 19#8) = false := by simpa using h19
  have c20 : (o == 20#8) = false := by simpa using h20
  have c21 : (o == 21#8) = false := by simpa using h21
  have c22 : (o == 22#8) = false := by simpa using h22
  have c23 : (o == 23#8) = false := by simpa using h23
  have c24 : (o == 24#8) = false := by simpa using h24
  have c25 : (o == 25#8) = false := by simpa using h25
  simp only [twoRt, twoT, c1, c2, c3, c4, c5, c6, c7, c8, c9, c10, c11, c12, c13, c14, c15, c16, c17, c18, c19, c20, c21, c22, c23, c24, c25, Bool.false_eq_true, if_false]
theorem twoRf_eq (o : BitVec 8) (w : Int) (a b : BitVec 64) : twoRf o w a b = some (twoD o w a b) := by
  unfold twoRf
  have hmay : mayF w [a, b] = (okW w && decide (a ≤ maskF w) && decide (b ≤ maskF w)) := by
    simp only [mayF, List.all_cons, List.all_nil, Bool.and_true, Bool.and_assoc]
  have no : mayF w [a, b] = false → some (D.tup [D.u64 0#64, D.i IntKind.i64 2]) = some (twoD o w a b) := fun h => by
    simp only [twoD, twoN, twoR, h]; rfl
  cases c0 : okW w
  · simpa using no (by rw [hmay, c0]; rfl)
  · cases c1 : decide (a ≤ maskF w)
    · simpa using no (by rw [hmay, c0, c1]; rfl)
    · cases c2 : decide (b ≤ maskF w)
      · simpa using no (by rw [hmay, c0, c1, c2]; rfl)
      · have hm : mayF w [a, b] = true := by rw [hmay, c0, c1, c2]; rfl
        obtain ⟨ha, hb⟩ := may_fit hm
        have yes : twoT o w a b = some (twoD o w a b) := by
          rw [twoT_eq]
          simp only [twoD, twoN, twoR, hm, ifF, if_true]
        by_cases h25 : o = 25#8
        · have e25 : (o == 25#8) = true := by simp [h25]
          by_cases h16 : w = 16
          · have e16 : (w == 16) = true := by simp [h16]
            rw [e25, e16, twoRt_eq ha hb (fun _ => h16)]
            simpa using yes
          · have e16 : (w == 16) = false := by simpa using h16
            rw [e25, e16]
            have : twoD o w a b = D.tup [D.u64 0#64, D.i IntKind.i64 2] := by
              subst h25
              simp only [twoD, twoN, twoR, hm, ifF, if_true]
              simp [twoV, twoE, h16]
            rw [this]
            simp
        · have e25 : (o == 25#8) = false := by simpa using h25
          rw [e25, twoRt_eq ha hb (fun h => absurd h h25)]
          simpa using yes
end Go.Wh
