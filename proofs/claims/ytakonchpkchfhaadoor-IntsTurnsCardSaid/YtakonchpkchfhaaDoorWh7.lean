/-
  Part of the proof; what its functions and lemmas say stands in the text.
-/
import Derived.Test.YtakonchpkchfhaaDoorWh6
set_option linter.unusedSimpArgs false
set_option linter.unusedVariables false
/-!
Whole numbers: quotients, what is held, the lesser and the greater.
-/
namespace Go.Wh
open Go.Ev Go.RowKit

theorem sgn_ne {w : Int} {b : BitVec 64} (h : fitF w b = true) (hb : ¬ b = 0#64) : ¬ sgnF w b = 0 := by
  obtain ⟨hw, ha⟩ := fitF_nat h
  obtain ⟨k, hk, k1, k2⟩ := pw_even hw
  have h0 : b.toNat ≠ 0 := fun e => hb (BitVec.eq_of_toNat_eq (by simpa using e))
  unfold sgnF
  split <;> omega
def divE (o : BitVec 8) (w : Int) (a b : BitVec 64) : Int := if b = 0#64 ∨ (o = 6#8 ∧ sgnF w a = -(pw w / 2) ∧ sgnF w b = -1) then 6 else 0
def divV (o : BitVec 8) (w : Int) (a b : BitVec 64) : BitVec 64 :=
  if b = 0#64 ∨ (o = 6#8 ∧ sgnF w a = -(pw w / 2) ∧ sgnF w b = -1) then 0#64 else if o = 4#8 then a / b else if o = 5#8 then a % b
  else if o = 6#8 then BitVec.ofInt 64 (IntKind.i64.wrap ((sgnF w a).tdiv (sgnF w b))) &&& maskF w else BitVec.ofInt 64 ((sgnF w a).tmod (sgnF w b)) &&& maskF w
def divD (o : BitVec 8) (w : Int) (a b : BitVec 64) : D := .tup [.u64 (divV o w a b), .i .i64 (divE o w a b)]
theorem divP_eq {o : BitVec 8} {w : Int} {a b : BitVec 64} (ha : fitF w a = true) (hb : fitF w b = true) : divP o w a b = some (divD o w a b) := by
  have hw := (fitF_nat ha).1
  by_cases h0 : b = 0#64
  · simp [divP, divD, divV, divE, h0]
  · have hn := sgn_ne hb h0
    by_cases h4 : o = 4#8
    · simp [divP, divD, divV, divE, h0, h4]
    · by_cases h5 : o = 5#8
      · simp [divP, divD, divV, divE, h0, h5]
      · by_cases h6 : o = 6#8
        · by_cases hx : sgnF w a = -(pw w / 2)
          · by_cases hy : sgnF w b = -1
            · simp [divP, divD, divV, divE, h0, h6, hx, hy, ha, hb, hw]
            · simp [divP, divD, divV, divE, h0, h6, hx, hy, ha, hb, hw, hn]
          · simp [divP, divD, divV, divE, h0, h6, hx, ha, hb, hw, hn]
        · simp [divP, divD, divV, divE, h0, h4, h5, h6, ha, hb, hw, hn]
theorem divR_eq {o : BitVec 8} {w : Int} {a b : BitVec 64} (ha : fitF w a = true) (hb : fitF w b = true) : divR o w a b = some (divD o w a b) := by
  have hw := (fitF_nat ha).1
  by_cases h0 : b = 0#64
  · simp [divR, divD, divV, divE, h0, ha, h0 ▸ hb]
  · have hn := sgn_ne hb h0
    by_cases h4 : o = 4#8
    · simp [divR, divD, divV, divE, h0, h4, ha, hb]
    · by_cases h5 : o = 5#8
      · simp [divR, divD, divV, divE, h0, h5, ha, hb]
      · by_cases h6 : o = 6#8
        · by_cases hx : sgnF w a = -(pw w / 2)
          · by_cases hy : sgnF w b = -1
            · simp [divR, divD, divV, divE, h0, h6, hx, hy, ha, hb, hw]
            · simp [divR, divD, divV, divE, h0, h6, hx, hy, ha, hb, hw, hn]
          · simp [divR, divD, divV, divE, h0, h6, hx, ha, hb, hw, hn]
        · by_cases hy : sgnF w b = -1
          · have e : (sgnF w a).tmod (-1) = 0 := by rw [Int.tmod_neg, Int.tmod_one]
            simp [divR, divD, divV, divE, h0, h4, h5, h6, ha, hb, hy, e]
          · simp [divR, divD, divV, divE, h0, h4, h5, h6, ha, hb, hn, hy]

/-! what is held -/
def satV (o : BitVec 8) (w : Int) (a b : BitVec 64) : BitVec 64 :=
  if o = 16#8 then (if maskF w - a < b then maskF w else a + b)
  else if o = 17#8 then (if a < b then 0#64 else a - b)
  else if o = 19#8 then BitVec.ofInt 64 (min (max (sgnF w a - sgnF w b) (-(pw w / 2))) (pw w / 2 - 1)) &&& maskF w
  else BitVec.ofInt 64 (min (max (sgnF w a + sgnF w b) (-(pw w / 2))) (pw w / 2 - 1)) &&& maskF w
theorem add_over {w : Int} {a b : BitVec 64} (ha : fitF w a = true) (hb : fitF w b = true) : (if decide (BitVec.ofInt 64 0 < cry a b) = false then if decide (maskF w < a + b) = true then maskF w else a + b else maskF w) = if maskF w - a < b then maskF w else a + b := by
  obtain ⟨hw, h1⟩ := fitF_nat ha
  obtain ⟨_, h2⟩ := fitF_nat hb
  obtain ⟨k, hk, k1, k2⟩ := pw_even hw
  have hm := mask_nat hw
  have al := a.isLt
  have bl := b.isLt
  have hs : (maskF w - a).toNat = (maskF w).toNat - a.toNat := by rw [BitVec.toNat_sub]; have := (maskF w).isLt; omega
  have hc : (cry a b).toNat = (a.toNat + b.toNat) / 18446744073709551616 := by
    rw [cry, BitVec.toNat_ofNat]; omega
  have e0 : (BitVec.ofInt 64 0 < cry a b) ↔ 18446744073709551616 ≤ a.toNat + b.toNat := by
    rw [BitVec.lt_def, hc]
    have : (BitVec.ofInt 64 0).toNat = 0 := rfl
    rw [this]; omega
  have hab : (a + b).toNat = (a.toNat + b.toNat) % 18446744073709551616 := BitVec.toNat_add _ _
  have e1 : (maskF w - a < b) ↔ (maskF w).toNat - a.toNat < b.toNat := by rw [BitVec.lt_def, hs]
  by_cases h3 : 18446744073709551616 ≤ a.toNat + b.toNat
  · have h4 : (maskF w - a < b) := e1.2 (by omega)
    have hp := e0.2 h3
    rw [if_neg (by rw [decide_eq_true hp]; decide), if_pos h4]
  · have h4 : (maskF w < a + b) ↔ (maskF w - a < b) := by rw [e1, BitVec.lt_def, hab]; omega
    have h5 : ¬ BitVec.ofInt 64 0 < cry a b := fun h => h3 (e0.1 h)
    simp only [h5, decide_false, if_true, decide_eq_true_eq]
    by_cases h6 : maskF w - a < b
    · rw [if_pos (h4.2 h6), if_pos h6]
    · rw [if_neg (fun h => h6 (h4.1 h)), if_neg h6]
theorem satP_eq {o : BitVec 8} {w : Int} {a b : BitVec 64} (ha : fitF w a = true) (hb : fitF w b = true) : satP o w a b = some (.u64 (satV o w a b)) := by
  obtain ⟨hw, h1⟩ := fitF_nat ha
  obtain ⟨k, hk, k1, k2⟩ := pw_even hw
  have r1 := sgn_range ha
  have r2 := sgn_range hb
  by_cases h16 : o = 16#8
  · have e := add_over ha hb
    simp only [satP, satV, h16, beq_self_eq_true, if_true, hw]
    rw [← e]
    split <;> (try split) <;> rfl
  · by_cases h17 : o = 17#8
    · have b0 : (o == 16#8) = false := by simpa using h16
      have b1 : (o == 17#8) = true := by simpa using h17
      simp only [satP, satV, h16, h17, b0, b1, if_true, if_false, Bool.false_eq_true]
      by_cases hlt : b < a
      · have : ¬ a < b := by rw [BitVec.lt_def] at *; omega
        rw [if_pos hlt, if_neg this]; simp
      · rw [if_neg hlt]
        by_cases h2 : a < b
        · rw [if_pos h2]; simp
        · have : a = b := BitVec.eq_of_toNat_eq (by rw [BitVec.lt_def] at *; omega)
          rw [if_neg h2, this]; simp
    · have b0 : (o == 16#8) = false := by simpa using h16
      have b1 : (o == 17#8) = false := by simpa using h17
      by_cases h19 : o = 19#8
      · have b2 : (o == 19#8) = true := by simpa using h19
        have c19 : (o = 19#8) = True := eq_true h19
        simp only [satP, satV, h16, h17, c19, b0, b1, b2, if_true, if_false, Bool.false_eq_true, ha, hb, hw, decide_eq_true_eq]
        rcases Int.lt_trichotomy (sgnF w b) 0 with h | h | h
        · have n1 : ¬ 0 < sgnF w b := by omega
          rw [if_pos h, wrap_in (by omega) (by omega)]
          by_cases h2 : pw w / 2 - 1 + sgnF w b < sgnF w a
          · rw [if_pos h2]; rw [show min (max (sgnF w a - sgnF w b) (-(pw w / 2))) (pw w / 2 - 1) = pw w / 2 - 1 by omega]
          · rw [if_neg h2, if_neg n1, wrap_in (by omega) (by omega)]; rw [show min (max (sgnF w a - sgnF w b) (-(pw w / 2))) (pw w / 2 - 1) = sgnF w a - sgnF w b by omega]
        · have n1 : ¬ 0 < sgnF w b := by omega
          have n2 : ¬ sgnF w b < 0 := by omega
          rw [if_neg n2, if_neg n1, wrap_in (by omega) (by omega)]; rw [show min (max (sgnF w a - sgnF w b) (-(pw w / 2))) (pw w / 2 - 1) = sgnF w a - sgnF w b by omega]
        · have n2 : ¬ sgnF w b < 0 := by omega
          rw [if_neg n2, if_pos h, wrap_in (n := -(pw w / 2) + sgnF w b) (by omega) (by omega)]
          by_cases h2 : sgnF w a < -(pw w / 2) + sgnF w b
          · rw [if_pos h2]; rw [show min (max (sgnF w a - sgnF w b) (-(pw w / 2))) (pw w / 2 - 1) = -(pw w / 2) by omega]
          · rw [if_neg h2, wrap_in (by omega) (by omega)]; rw [show min (max (sgnF w a - sgnF w b) (-(pw w / 2))) (pw w / 2 - 1) = sgnF w a - sgnF w b by omega]
      · have b2 : (o == 19#8) = false := by simpa using h19
        simp only [satP, satV, h16, h17, h19, b0, b1, b2, if_true, if_false, Bool.false_eq_true, ha, hb, hw, decide_eq_true_eq]
        rcases Int.lt_trichotomy (sgnF w b) 0 with h | h | h
        · have n1 : ¬ 0 < sgnF w b := by omega
          rw [if_neg n1, if_pos h, wrap_in (n := -(pw w / 2) - sgnF w b) (by omega) (by omega)]
          by_cases h2 : sgnF w a < -(pw w / 2) - sgnF w b
          · rw [if_pos h2]; rw [show min (max (sgnF w a + sgnF w b) (-(pw w / 2))) (pw w / 2 - 1) = -(pw w / 2) by omega]
          · rw [if_neg h2, wrap_in (by omega) (by omega)]; rw [show min (max (sgnF w a + sgnF w b) (-(pw w / 2))) (pw w / 2 - 1) = sgnF w a + sgnF w b by omega]
        · have n1 : ¬ 0 < sgnF w b := by omega
          have n2 : ¬ sgnF w b < 0 := by omega
          rw [if_neg n1, if_neg n2, wrap_in (by omega) (by omega)]; rw [show min (max (sgnF w a + sgnF w b) (-(pw w / 2))) (pw w / 2 - 1) = sgnF w a + sgnF w b by omega]
        · have n2 : ¬ sgnF w b < 0 := by omega
          rw [if_pos h, wrap_in (n := pw w / 2 - 1 - sgnF w b) (by omega) (by omega)]
          by_cases h2 : pw w / 2 - 1 - sgnF w b < sgnF w a
          · rw [if_pos h2]; rw [show min (max (sgnF w a + sgnF w b) (-(pw w / 2))) (pw w / 2 - 1) = pw w / 2 - 1 by omega]
          · rw [if_neg h2, if_neg n2, wrap_in (by omega) (by omega)]; rw [show min (max (sgnF w a + sgnF w b) (-(pw w / 2))) (pw w / 2 - 1) = sgnF w a + sgnF w b by omega]
theorem satR_eq {o : BitVec 8} {w : Int} {a b : BitVec 64} (ha : fitF w a = true) (hb : fitF w b = true) (ho : o = 16#8 ∨ o = 17#8 ∨ o = 18#8 ∨ o = 19#8) : satR o w a b = some (.u64 (satV o w a b)) := by
  rw [← satP_eq ha hb]
  obtain ⟨hw, h1⟩ := fitF_nat ha
  obtain ⟨k, hk, k1, k2⟩ := pw_even hw
  rcases ho with rfl | rfl | rfl | rfl
  · rw [satP_eq ha hb]
    simp only [satR, satV, ha, hb, beq_self_eq_true, if_true, decide_eq_true_eq]
    split <;> rfl
  · rw [satP_eq ha hb]
    have b0 : ((17#8 : BitVec 8) == 16#8) = false := by decide
    have c0 : ¬ (17#8 : BitVec 8) = 16#8 := by decide
    simp only [satR, satV, ha, hb, b0, c0, beq_self_eq_true, if_true, if_false, Bool.false_eq_true, decide_eq_true_eq]
    split <;> rfl
  · have b0 : ((18#8 : BitVec 8) == 16#8) = false := by decide
    have b1 : ((18#8 : BitVec 8) == 17#8) = false := by decide
    have b2 : ((18#8 : BitVec 8) == 19#8) = false := by decide
    simp only [satR, satP, ha, hb, hw, b0, b1, b2, beq_self_eq_true, if_true, if_false, Bool.false_eq_true, decide_eq_true_eq]
  · have b0 : ((19#8 : BitVec 8) == 16#8) = false := by decide
    have b1 : ((19#8 : BitVec 8) == 17#8) = false := by decide
    have b2 : ((19#8 : BitVec 8) == 18#8) = false := by decide
    simp only [satR, satP, ha, hb, hw, b0, b1, b2, beq_self_eq_true, if_true, if_false, Bool.false_eq_true, decide_eq_true_eq]
end Go.Wh
