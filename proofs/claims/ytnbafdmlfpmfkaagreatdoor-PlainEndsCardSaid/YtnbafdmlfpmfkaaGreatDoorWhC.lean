/-
  Part of the proof; what its functions and lemmas say stands in the text.
-/
import Derived.Test.YtnbafdmlfpmfkaaGreatDoorWhB
set_option linter.unusedSimpArgs false
set_option linter.unusedVariables false
namespace Go.Wh
open Go.Ev Go.RowKit
def cry (x y : BitVec 64) : BitVec 64 := BitVec.ofNat 64 ((x.toNat + y.toNat) / 18446744073709551616)
def divP (o : BitVec 8) (w : Int) (a b : BitVec 64) : Option D :=
 if (b == 0#64) = true then some (D.tup [D.u64 0#64, D.i IntKind.i64 6])
 else
  if (o == 4#8) = true then if b = 0#64 then none else some (D.tup [D.u64 (a / b), D.i IntKind.i64 0])
  else
   if (o == 5#8) = true then if b = 0#64 then none else some (D.tup [D.u64 (a % b), D.i IntKind.i64 0])
   else
    if fitF w a = true then
     if fitF w b = true then
      if okW w = true then
       if (o == 6#8) = true then
        if (sgnF w a == -(pw w / 2)) = true then
         if (sgnF w b == -1) = true then some (D.tup [D.u64 0#64, D.i IntKind.i64 6])
         else
          if (o == 6#8) = true then
           if sgnF w b = 0 then none
           else
            if okW w = true then
             some
              (D.tup
               [D.u64 (BitVec.ofInt 64 (IntKind.i64.wrap ((sgnF w a).tdiv (sgnF w b))) &&& maskF w),
                D.i IntKind.i64 0])
            else none
          else
           if sgnF w b = 0 then none
           else
            if okW w = true then
             some
              (D.tup [D.u64 (BitVec.ofInt 64 ((sgnF w a).tmod (sgnF w b)) &&& maskF w), D.i IntKind.i64 0])
            else none
        else
         if (o == 6#8) = true then
          if sgnF w b = 0 then none
          else
           if okW w = true then
            some
             (D.tup
              [D.u64 (BitVec.ofInt 64 (IntKind.i64.wrap ((sgnF w a).tdiv (sgnF w b))) &&& maskF w),
               D.i IntKind.i64 0])
           else none
         else
          if sgnF w b = 0 then none
          else
           if okW w = true then
            some (D.tup [D.u64 (BitVec.ofInt 64 ((sgnF w a).tmod (sgnF w b)) &&& maskF w), D.i IntKind.i64 0])
           else none
       else
        if (o == 6#8) = true then
         if sgnF w b = 0 then none
         else
          if okW w = true then
           some
            (D.tup
             [D.u64 (BitVec.ofInt 64 (IntKind.i64.wrap ((sgnF w a).tdiv (sgnF w b))) &&& maskF w),
              D.i IntKind.i64 0])
          else none
        else
         if sgnF w b = 0 then none
         else
          if okW w = true then
           some (D.tup [D.u64 (BitVec.ofInt 64 ((sgnF w a).tmod (sgnF w b)) &&& maskF w), D.i IntKind.i64 0])
          else none
      else none
     else none
    else none
def movP (o : BitVec 8) (w : Int) (a b : BitVec 64) : Option D :=
 if (o == 11#8) = true then if okW w = true then some (D.u64 (a <<< b.toNat &&& maskF w)) else none
 else
  if (o == 12#8) = true then some (D.u64 (a >>> b.toNat))
  else
   if (o == 13#8) = true then
    if fitF w a = true then
     if okW w = true then some (D.u64 (BitVec.ofInt 64 (sgnF w a / 2 ^ min b.toNat 64) &&& maskF w))
     else none
    else none
   else
    if (o == 15#8) = true then
     if BitVec.ofInt 64 w = 0#64 then none
     else
      if okW w = true then
       some
        (D.u64
         ((a <<< ((BitVec.ofInt 64 w - b) % BitVec.ofInt 64 w).toNat |||
           a >>> (BitVec.ofInt 64 w - (BitVec.ofInt 64 w - b) % BitVec.ofInt 64 w).toNat) &&&
          maskF w))
      else none
    else
     if okW w = true then some (D.u64 ((a <<< b.toNat ||| a >>> (BitVec.ofInt 64 w - b).toNat) &&& maskF w))
     else none
def satP (o : BitVec 8) (w : Int) (a b : BitVec 64) : Option D :=
 if (o == 16#8) = true then
  if decide (BitVec.ofInt 64 0 < cry a b) = false then
   if okW w = true then
    if decide (maskF w < a + b) = true then if okW w = true then some (D.u64 (maskF w)) else none
    else some (D.u64 (a + b))
   else none
  else if okW w = true then some (D.u64 (maskF w)) else none
 else
  if (o == 17#8) = true then some (D.u64 (a - if true = true then if b < a then b else a else if a < b then b else a))
  else
   if fitF w a = true then
    if fitF w b = true then
     if okW w = true then
      if (o == 19#8) = true then
       if decide (sgnF w b < 0) = true then
        if decide (IntKind.i64.wrap (pw w / 2 - 1 + sgnF w b) < sgnF w a) = true then
         if okW w = true then some (D.u64 (BitVec.ofInt 64 (pw w / 2 - 1) &&& maskF w)) else none
        else
         if decide (0 < sgnF w b) = true then
          if decide (sgnF w a < IntKind.i64.wrap (-(pw w / 2) + sgnF w b)) = true then
           if okW w = true then some (D.u64 (BitVec.ofInt 64 (-(pw w / 2)) &&& maskF w)) else none
          else
           if okW w = true then
            some (D.u64 (BitVec.ofInt 64 (IntKind.i64.wrap (sgnF w a - sgnF w b)) &&& maskF w))
           else none
         else
          if okW w = true then
           some (D.u64 (BitVec.ofInt 64 (IntKind.i64.wrap (sgnF w a - sgnF w b)) &&& maskF w))
          else none
       else
        if decide (0 < sgnF w b) = true then
         if decide (sgnF w a < IntKind.i64.wrap (-(pw w / 2) + sgnF w b)) = true then
          if okW w = true then some (D.u64 (BitVec.ofInt 64 (-(pw w / 2)) &&& maskF w)) else none
         else
          if okW w = true then
           some (D.u64 (BitVec.ofInt 64 (IntKind.i64.wrap (sgnF w a - sgnF w b)) &&& maskF w))
          else none
        else
         if okW w = true then some (D.u64 (BitVec.ofInt 64 (IntKind.i64.wrap (sgnF w a - sgnF w b)) &&& maskF w))
         else none
      else
       if decide (0 < sgnF w b) = true then
        if decide (IntKind.i64.wrap (pw w / 2 - 1 - sgnF w b) < sgnF w a) = true then
         if okW w = true then some (D.u64 (BitVec.ofInt 64 (pw w / 2 - 1) &&& maskF w)) else none
        else
         if decide (sgnF w b < 0) = true then
          if decide (sgnF w a < IntKind.i64.wrap (-(pw w / 2) - sgnF w b)) = true then
           if okW w = true then some (D.u64 (BitVec.ofInt 64 (-(pw w / 2)) &&& maskF w)) else none
          else
           if okW w = true then
            some (D.u64 (BitVec.ofInt 64 (IntKind.i64.wrap (sgnF w a + sgnF w b)) &&& maskF w))
           else none
         else
          if okW w = true then
           some (D.u64 (BitVec.ofInt 64 (IntKind.i64.wrap (sgnF w a + sgnF w b)) &&& maskF w))
          else none
       else
        if decide (sgnF w b < 0) = true then
         if decide (sgnF w a < IntKind.i64.wrap (-(pw w / 2) - sgnF w b)) = true then
          if okW w = true then some (D.u64 (BitVec.ofInt 64 (-(pw w / 2)) &&& maskF w)) else none
         else
          if okW w = true then
           some (D.u64 (BitVec.ofInt 64 (IntKind.i64.wrap (sgnF w a + sgnF w b)) &&& maskF w))
          else none
        else
         if okW w = true then some (D.u64 (BitVec.ofInt 64 (IntKind.i64.wrap (sgnF w a + sgnF w b)) &&& maskF w))
         else none
     else none
    else none
   else none
end Go.Wh
namespace Go.Wh
open Go.Ev Go.RowKit
theorem sgn_ne {w : Int} {b : BitVec 64} (h : fitF w b = true) (hb : ¬ b = 0#64) : ¬ sgnF w b = 0 := by
 obtain ⟨hw, ha⟩ := fitF_nat h
 obtain ⟨k, hk, k1, k2⟩ := pw_even hw
 have h0 : b.toNat ≠ 0 := fun e => hb (BitVec.eq_of_toNat_eq (by simpa using e))
 unfold sgnF
 split <;> omega
def divE (o : BitVec 8) (w : Int) (a b : BitVec 64) : Int := if b = 0#64 ∨ (o = 6#8 ∧ sgnF w a = -(pw w / 2) ∧ sgnF w b = -1) then 6 else 0
def divV (o : BitVec 8) (w : Int) (a b : BitVec 64) : BitVec 64 :=
 if b = 0#64 ∨ (o = 6#8 ∧ sgnF w a = -(pw w / 2) ∧ sgnF w b = -1) then 0#64 else if o = 4#8 then a / b else if o = 5#8 then a % b
 else if o = 6#8 then BitVec.ofInt 64 (IntKind.i64.wrap ((sgnF w a).tdiv (sgnF w b))) &&& maskF w else BitVec.ofInt 64 ((sgnF w a).tmod (sgnF w b)) &&& maskF w
def divD (o : BitVec 8) (w : Int) (a b : BitVec 64) : D := .tup [.u64 (divV o w a b), .i .i64 (divE o w a b)]
theorem divP_eq {o : BitVec 8} {w : Int} {a b : BitVec 64} (ha : fitF w a = true) (hb : fitF w b = true) : divP o w a b = some (divD o w a b) := by
 have hw := (fitF_nat ha).1
 by_cases h0 : b = 0#64
 ·simp [divP, divD, divV, divE, h0]
 ·have hn := sgn_ne hb h0
  by_cases h4 : o = 4#8
  ·simp [divP, divD, divV, divE, h0, h4]
  ·by_cases h5 : o = 5#8
   ·simp [divP, divD, divV, divE, h0, h5]
   ·by_cases h6 : o = 6#8
    ·by_cases hx : sgnF w a = -(pw w / 2)
     ·by_cases hy : sgnF w b = -1
      ·simp [divP, divD, divV, divE, h0, h6, hx, hy, ha, hb, hw]
      ·simp [divP, divD, divV, divE, h0, h6, hx, hy, ha, hb, hw, hn]
     ·simp [divP, divD, divV, divE, h0, h6, hx, ha, hb, hw, hn]
    ·simp [divP, divD, divV, divE, h0, h4, h5, h6, ha, hb, hw, hn]
def satV (o : BitVec 8) (w : Int) (a b : BitVec 64) : BitVec 64 :=
 if o = 16#8 then (if maskF w - a < b then maskF w else a + b)
 else if o = 17#8 then (if a < b then 0#64 else a - b)
 else if o = 19#8 then BitVec.ofInt 64 (min (max (sgnF w a - sgnF w b) (-(pw w / 2))) (pw w / 2 - 1)) &&& maskF w
 else BitVec.ofInt 64 (min (max (sgnF w a + sgnF w b) (-(pw w / 2))) (pw w / 2 - 1)) &&& maskF w
theorem add_over {w : Int} {a b : BitVec 64} (ha : fitF w a = true) (hb : fitF w b = true) : (if decide (BitVec.ofInt 64 0 < cry a b) = false then if decide (maskF w < a + b) = true then maskF w else a + b else maskF w) = if maskF w - a < b then maskF w else a + b := by
 obtain ⟨hw, h1⟩ := fitF_nat ha
 obtain ⟨_, h2⟩ := fitF_nat hb
 obtain ⟨k, hk, k1, k2⟩ := pw_even hw
 have hm := mask_nat hw
 have al := a.isLt
 have bl := b.isLt
 have hs : (maskF w - a).toNat = (maskF w).toNat - a.toNat := by rw [BitVec.toNat_sub]; have := (maskF w).isLt; omega
 have hc : (cry a b).toNat = (a.toNat + b.toNat) / 18446744073709551616 := by
  rw [cry, BitVec.toNat_ofNat]; omega
 have e0 : (BitVec.ofInt 64 0 < cry a b) ↔ 18446744073709551616 ≤ a.toNat + b.toNat := by
  rw [BitVec.lt_def, hc]
  have : (BitVec.ofInt 64 0).toNat = 0 := rfl
  rw [this]; omega
 have hab : (a + b).toNat = (a.toNat + b.toNat) % 18446744073709551616 := BitVec.toNat_add _ _
 have e1 : (maskF w - a < b) ↔ (maskF w).toNat - a.toNat < b.toNat := by rw [BitVec.lt_def, hs]
 by_cases h3 : 18446744073709551616 ≤ a.toNat + b.toNat
 ·have h4 : (maskF w - a < b) := e1.2 (by omega)
  have hp := e0.2 h3
  rw [if_neg (by rw [decide_eq_true hp]; decide), if_pos h4]
 ·have h4 : (maskF w < a + b) ↔ (maskF w - a < b) := by rw [e1, BitVec.lt_def, hab]; omega
  have h5 : ¬ BitVec.ofInt 64 0 < cry a b := fun h => h3 (e0.1 h)
  simp only [h5, decide_false, if_true, decide_eq_true_eq]
  by_cases h6 : maskF w - a < b
  ·rw [if_pos (h4.2 h6), if_pos h6]
  ·rw [if_neg (fun h => h6 (h4.1 h)), if_neg h6]
theorem satP_eq {o : BitVec 8} {w : Int} {a b : BitVec 64} (ha : fitF w a = true) (hb : fitF w b = true) : satP o w a b = some (.u64 (satV o w a b)) := by
 obtain ⟨hw, h1⟩ := fitF_nat ha
 obtain ⟨k, hk, k1, k2⟩ := pw_even hw
 have r1 := sgn_range ha
 have r2 := sgn_range hb
 by_cases h16 : o = 16#8
 ·have e := add_over ha hb
  simp only [satP, satV, h16, beq_self_eq_true, if_true, hw]
  rw [← e]
  split <;> (try split) <;> rfl
 ·by_cases h17 : o = 17#8
  ·have b0 : (o == 16#8) = false := by simpa using h16
   have b1 : (o == 17#8) = true := by simpa using h17
   simp only [satP, satV, h16, h17, b0, b1, if_true, if_false, Bool.false_eq_true]
   by_cases hlt : b < a
   ·have : ¬ a < b := by rw [BitVec.lt_def] at *; omega
    rw [if_pos hlt, if_neg this]; simp
   ·rw [if_neg hlt]
    by_cases h2 : a < b
    ·rw [if_pos h2]; simp
    ·have : a = b := BitVec.eq_of_toNat_eq (by rw [BitVec.lt_def] at *; omega)
     rw [if_neg h2, this]; simp
  ·have b0 : (o == 16#8) = false := by simpa using h16
   have b1 : (o == 17#8) = false := by simpa using h17
   by_cases h19 : o = 19#8
   ·have b2 : (o == 19#8) = true := by simpa using h19
    have c19 : (o = 19#8) = True := eq_true h19
    simp only [satP, satV, h16, h17, c19, b0, b1, b2, if_true, if_false, Bool.false_eq_true, ha, hb, hw, decide_eq_true_eq]
    rcases Int.lt_trichotomy (sgnF w b) 0 with h | h | h
    ·have n1 : ¬ 0 < sgnF w b := by omega
     rw [if_pos h, wrap_in (by omega) (by omega)]
     by_cases h2 : pw w / 2 - 1 + sgnF w b < sgnF w a
     ·rw [if_pos h2]; rw [show min (max (sgnF w a - sgnF w b) (-(pw w / 2))) (pw w / 2 - 1) = pw w / 2 - 1 by omega]
     ·rw [if_neg h2, if_neg n1, wrap_in (by omega) (by omega)]; rw [show min (max (sgnF w a - sgnF w b) (-(pw w / 2))) (pw w / 2 - 1) = sgnF w a - sgnF w b by omega]
    ·have n1 : ¬ 0 < sgnF w b := by omega
     have n2 : ¬ sgnF w b < 0 := by omega
     rw [if_neg n2, if_neg n1, wrap_in (by omega) (by omega)]; rw [show min (max (sgnF w a - sgnF w b) (-(pw w / 2))) (pw w / 2 - 1) = sgnF w a - sgnF w b by omega]
    ·have n2 : ¬ sgnF w b < 0 := by omega
     rw [if_neg n2, if_pos h, wrap_in (n := -(pw w / 2) + sgnF w b) (by omega) (by omega)]
     by_cases h2 : sgnF w a < -(pw w / 2) + sgnF w b
     ·rw [if_pos h2]; rw [show min (max (sgnF w a - sgnF w b) (-(pw w / 2))) (pw w / 2 - 1) = -(pw w / 2) by omega]
     ·rw [if_neg h2, wrap_in (by omega) (by omega)]; rw [show min (max (sgnF w a - sgnF w b) (-(pw w / 2))) (pw w / 2 - 1) = sgnF w a - sgnF w b by omega]
   ·have b2 : (o == 19#8) = false := by simpa using h19
    simp only [satP, satV, h16, h17, h19, b0, b1, b2, if_true, if_false, Bool.false_eq_true, ha, hb, hw, decide_eq_true_eq]
    rcases Int.lt_trichotomy (sgnF w b) 0 with h | h | h
    ·have n1 : ¬ 0 < sgnF w b := by omega
     rw [if_neg n1, if_pos h, wrap_in (n := -(pw w / 2) - sgnF w b) (by omega) (by omega)]
     by_cases h2 : sgnF w a < -(pw w / 2) - sgnF w b
     ·rw [if_pos h2]; rw [show min (max (sgnF w a + sgnF w b) (-(pw w / 2))) (pw w / 2 - 1) = -(pw w / 2) by omega]
     ·rw [if_neg h2, wrap_in (by omega) (by omega)]; rw [show min (max (sgnF w a + sgnF w b) (-(pw w / 2))) (pw w / 2 - 1) = sgnF w a + sgnF w b by omega]
    ·have n1 : ¬ 0 < sgnF w b := by omega
     have n2 : ¬ sgnF w b < 0 := by omega
     rw [if_neg n1, if_neg n2, wrap_in (by omega) (by omega)]; rw [show min (max (sgnF w a + sgnF w b) (-(pw w / 2))) (pw w / 2 - 1) = sgnF w a + sgnF w b by omega]
    ·have n2 : ¬ sgnF w b < 0 := by omega
     rw [if_pos h, wrap_in (n := pw w / 2 - 1 - sgnF w b) (by omega) (by omega)]
     by_cases h2 : pw w / 2 - 1 - sgnF w b < sgnF w a
     ·rw [if_pos h2]; rw [show min (max (sgnF w a + sgnF w b) (-(pw w / 2))) (pw w / 2 - 1) = pw w / 2 - 1 by omega]
     ·rw [if_neg h2, if_neg n2, wrap_in (by omega) (by omega)]; rw [show min (max (sgnF w a + sgnF w b) (-(pw w / 2))) (pw w / 2 - 1) = sgnF w a + sgnF w b by omega]
end Go.Wh
namespace Go.Wh
open Go.Ev Go.RowKit
def movV (o : BitVec 8) (w : Int) (a n : BitVec 64) : BitVec 64 :=
 if o = 11#8 then a <<< n.toNat &&& maskF w
 else if o = 12#8 then a >>> n.toNat
 else if o = 13#8 then BitVec.ofInt 64 (sgnF w a / 2 ^ min n.toNat 64) &&& maskF w
 else if o = 15#8 then (a <<< ((BitVec.ofInt 64 w - n) % BitVec.ofInt 64 w).toNat ||| a >>> (BitVec.ofInt 64 w - (BitVec.ofInt 64 w - n) % BitVec.ofInt 64 w).toNat) &&& maskF w
 else (a <<< n.toNat ||| a >>> (BitVec.ofInt 64 w - n).toNat) &&& maskF w
theorem ofW_ne {w : Int} (h : okW w = true) : ¬ BitVec.ofInt 64 w = 0#64 := by
 rcases okW_cases h with rfl | rfl | rfl | rfl <;> decide
theorem movP_eq {o : BitVec 8} {w : Int} {a n : BitVec 64} (ha : fitF w a = true) : movP o w a n = some (.u64 (movV o w a n)) := by
 have hw := (fitF_nat ha).1
 have h0 := ofW_ne hw
 by_cases h1 : o = 11#8
 ·simp [movP, movV, h1, hw]
 ·by_cases h2 : o = 12#8
  ·simp [movP, movV, h2]
  ·by_cases h3 : o = 13#8
   ·simp [movP, movV, h3, hw, ha]
   ·by_cases h4 : o = 15#8
    ·simp [movP, movV, h4, hw, h0]
    ·simp [movP, movV, h1, h2, h3, h4, hw]
def avgV (a b : BitVec 64) : BitVec 64 := (a &&& b) + ((a ^^^ b) >>> 1) + ((a ^^^ b) &&& 1#64)
end Go.Wh
namespace Go.Wh
open Go.Ev Go.RowKit
def q15V (a b : BitVec 64) : BitVec 64 := heldF 16 (IntKind.i64.wrap (IntKind.i64.wrap (sgnF 16 a * sgnF 16 b) + 16384) / 32768) (-32768) 32767
def twoP (o : BitVec 8) (w : Int) (a b : BitVec 64) : Option D :=
 if (!mayF w [a, b]) = true then some (D.tup [D.u64 0#64, D.i IntKind.i64 2])
 else
  if (o == 1#8) = true then if okW w = true then some (D.tup [D.u64 (a + b &&& maskF w), D.i IntKind.i64 0]) else none
  else
   if (o == 2#8) = true then if okW w = true then some (D.tup [D.u64 (a - b &&& maskF w), D.i IntKind.i64 0]) else none
   else
    if (o == 3#8) = true then
     if okW w = true then some (D.tup [D.u64 (a * b &&& maskF w), D.i IntKind.i64 0]) else none
    else
     if (o == 4#8) = true then
      if (fitF w a && fitF w b) = true then some (D.tup [D.u64 (divV o w a b), D.i IntKind.i64 (divE o w a b)])
      else none
     else
      if (o == 5#8) = true then
       if (fitF w a && fitF w b) = true then some (D.tup [D.u64 (divV o w a b), D.i IntKind.i64 (divE o w a b)])
       else none
      else
       if (o == 6#8) = true then
        if (fitF w a && fitF w b) = true then some (D.tup [D.u64 (divV o w a b), D.i IntKind.i64 (divE o w a b)])
        else none
       else
        if (o == 7#8) = true then
         if (fitF w a && fitF w b) = true then
          some (D.tup [D.u64 (divV o w a b), D.i IntKind.i64 (divE o w a b)])
         else none
        else
         if (o == 8#8) = true then some (D.tup [D.u64 (a &&& b), D.i IntKind.i64 0])
         else
          if (o == 9#8) = true then some (D.tup [D.u64 (a ||| b), D.i IntKind.i64 0])
          else
           if (o == 10#8) = true then some (D.tup [D.u64 (a ^^^ b), D.i IntKind.i64 0])
           else
            if (o == 11#8) = true then
             if BitVec.ofInt 64 w = 0#64 then none
             else
              if fitF w a = true then
               some (D.tup [D.u64 (movV o w a (b % BitVec.ofInt 64 w)), D.i IntKind.i64 0])
              else none
            else
             if (o == 12#8) = true then
              if BitVec.ofInt 64 w = 0#64 then none
              else
               if fitF w a = true then
                some (D.tup [D.u64 (movV o w a (b % BitVec.ofInt 64 w)), D.i IntKind.i64 0])
               else none
             else
              if (o == 13#8) = true then
               if BitVec.ofInt 64 w = 0#64 then none
               else
                if fitF w a = true then
                 some (D.tup [D.u64 (movV o w a (b % BitVec.ofInt 64 w)), D.i IntKind.i64 0])
                else none
              else
               if (o == 14#8) = true then
                if BitVec.ofInt 64 w = 0#64 then none
                else
                 if fitF w a = true then
                  some (D.tup [D.u64 (movV o w a (b % BitVec.ofInt 64 w)), D.i IntKind.i64 0])
                 else none
               else
                if (o == 15#8) = true then
                 if BitVec.ofInt 64 w = 0#64 then none
                 else
                  if fitF w a = true then
                   some (D.tup [D.u64 (movV o w a (b % BitVec.ofInt 64 w)), D.i IntKind.i64 0])
                  else none
                else
                 if (o == 16#8) = true then
                  if (fitF w a && fitF w b) = true then
                   some (D.tup [D.u64 (satV o w a b), D.i IntKind.i64 0])
                  else none
                 else
                  if (o == 17#8) = true then
                   if (fitF w a && fitF w b) = true then
                    some (D.tup [D.u64 (satV o w a b), D.i IntKind.i64 0])
                   else none
                  else
                   if (o == 18#8) = true then
                    if (fitF w a && fitF w b) = true then
                     some (D.tup [D.u64 (satV o w a b), D.i IntKind.i64 0])
                    else none
                   else
                    if (o == 19#8) = true then
                     if (fitF w a && fitF w b) = true then
                      some (D.tup [D.u64 (satV o w a b), D.i IntKind.i64 0])
                     else none
                    else
                     if (o == 20#8) = true then
                      some
                       (D.tup
                        [D.u64
                          (if true = true then if b < a then b else a
                          else if a < b then b else a),
                         D.i IntKind.i64 0])
                     else
                      if (o == 21#8) = true then
                       some
                        (D.tup
                         [D.u64
                           (if false = true then if b < a then b else a
                           else if a < b then b else a),
                          D.i IntKind.i64 0])
                      else
                       if (o == 22#8) = true then
                        if fitF w a = true then
                         if fitF w b = true then
                          if okW w = true then
                           some
                            (D.tup
                             [D.u64
                               (BitVec.ofInt 64
                                 (if true = true then
                                  if sgnF w b < sgnF w a then sgnF w b else sgnF w a
                                 else
                                  if sgnF w a < sgnF w b then sgnF w b
                                  else sgnF w a) &&&
                                maskF w),
                              D.i IntKind.i64 0])
                          else none
                         else none
                        else none
                       else
                        if (o == 23#8) = true then
                         if fitF w a = true then
                          if fitF w b = true then
                           if okW w = true then
                            some
                             (D.tup
                              [D.u64
                                (BitVec.ofInt 64
                                  (if false = true then
                                   if sgnF w b < sgnF w a then sgnF w b else sgnF w a
                                  else
                                   if sgnF w a < sgnF w b then sgnF w b
                                   else sgnF w a) &&&
                                 maskF w),
                               D.i IntKind.i64 0])
                           else none
                          else none
                         else none
                        else
                         if (o == 24#8) = true then
                          some
                           (D.tup
                            [D.u64 ((a &&& b) + (a ^^^ b) >>> 1 + ((a ^^^ b) &&& 1#64)),
                             D.i IntKind.i64 0])
                         else
                          if (o == 25#8) = true then
                           if (w == 16) = true then
                            if fitF 16 a = true then
                             if fitF 16 b = true then
                              some
                               (D.tup
                                [D.u64
                                  (heldF 16
                                   (IntKind.i64.wrap
                                     (IntKind.i64.wrap (sgnF 16 a * sgnF 16 b) +
                                      16384) /
                                    2 ^
                                     min (BitVec.ofInt 64 15).toNat 64)
                                   (-32768) 32767),
                                 D.i IntKind.i64 0])
                             else none
                            else none
                           else some (D.tup [D.u64 0#64, D.i IntKind.i64 2])
                          else some (D.tup [D.u64 0#64, D.i IntKind.i64 2])
def twoV (o : BitVec 8) (w : Int) (a b : BitVec 64) : BitVec 64 :=
 if (o == 1#8) = true then a + b &&& maskF w else
 if (o == 2#8) = true then a - b &&& maskF w else
 if (o == 3#8) = true then a * b &&& maskF w else
 if (o == 4#8) = true then divV o w a b else
 if (o == 5#8) = true then divV o w a b else
 if (o == 6#8) = true then divV o w a b else
 if (o == 7#8) = true then divV o w a b else
 if (o == 8#8) = true then a &&& b else
 if (o == 9#8) = true then a ||| b else
 if (o == 10#8) = true then a ^^^ b else
 if (o == 11#8) = true then movV o w a (b % BitVec.ofInt 64 w) else
 if (o == 12#8) = true then movV o w a (b % BitVec.ofInt 64 w) else
 if (o == 13#8) = true then movV o w a (b % BitVec.ofInt 64 w) else
 if (o == 14#8) = true then movV o w a (b % BitVec.ofInt 64 w) else
 if (o == 15#8) = true then movV o w a (b % BitVec.ofInt 64 w) else
 if (o == 16#8) = true then satV o w a b else
 if (o == 17#8) = true then satV o w a b else
 if (o == 18#8) = true then satV o w a b else
 if (o == 19#8) = true then satV o w a b else
 if (o == 20#8) = true then (if a < b then a else b) else
 if (o == 21#8) = true then (if a < b then b else a) else
 if (o == 22#8) = true then (if sgnF w a < sgnF w b then a else b) else
 if (o == 23#8) = true then (if sgnF w a < sgnF w b then b else a) else
 if (o == 24#8) = true then avgV a b else
 if (o == 25#8) = true then (if (w == 16) = true then q15V a b else 0#64) else
 0#64
def twoE (o : BitVec 8) (w : Int) (a b : BitVec 64) : Int :=
 if (o == 1#8) = true then 0 else
 if (o == 2#8) = true then 0 else
 if (o == 3#8) = true then 0 else
 if (o == 4#8) = true then divE o w a b else
 if (o == 5#8) = true then divE o w a b else
 if (o == 6#8) = true then divE o w a b else
 if (o == 7#8) = true then divE o w a b else
 if (o == 8#8) = true then 0 else
 if (o == 9#8) = true then 0 else
 if (o == 10#8) = true then 0 else
 if (o == 11#8) = true then 0 else
 if (o == 12#8) = true then 0 else
 if (o == 13#8) = true then 0 else
 if (o == 14#8) = true then 0 else
 if (o == 15#8) = true then 0 else
 if (o == 16#8) = true then 0 else
 if (o == 17#8) = true then 0 else
 if (o == 18#8) = true then 0 else
 if (o == 19#8) = true then 0 else
 if (o == 20#8) = true then 0 else
 if (o == 21#8) = true then 0 else
 if (o == 22#8) = true then 0 else
 if (o == 23#8) = true then 0 else
 if (o == 24#8) = true then 0 else
 if (o == 25#8) = true then (if (w == 16) = true then 0 else 2) else
 2
def twoT (o : BitVec 8) (w : Int) (a b : BitVec 64) : Option D :=
 if (o == 1#8) = true then some (.tup [.u64 (a + b &&& maskF w), .i .i64 (0)]) else
 if (o == 2#8) = true then some (.tup [.u64 (a - b &&& maskF w), .i .i64 (0)]) else
 if (o == 3#8) = true then some (.tup [.u64 (a * b &&& maskF w), .i .i64 (0)]) else
 if (o == 4#8) = true then some (.tup [.u64 (divV o w a b), .i .i64 (divE o w a b)]) else
 if (o == 5#8) = true then some (.tup [.u64 (divV o w a b), .i .i64 (divE o w a b)]) else
 if (o == 6#8) = true then some (.tup [.u64 (divV o w a b), .i .i64 (divE o w a b)]) else
 if (o == 7#8) = true then some (.tup [.u64 (divV o w a b), .i .i64 (divE o w a b)]) else
 if (o == 8#8) = true then some (.tup [.u64 (a &&& b), .i .i64 (0)]) else
 if (o == 9#8) = true then some (.tup [.u64 (a ||| b), .i .i64 (0)]) else
 if (o == 10#8) = true then some (.tup [.u64 (a ^^^ b), .i .i64 (0)]) else
 if (o == 11#8) = true then some (.tup [.u64 (movV o w a (b % BitVec.ofInt 64 w)), .i .i64 (0)]) else
 if (o == 12#8) = true then some (.tup [.u64 (movV o w a (b % BitVec.ofInt 64 w)), .i .i64 (0)]) else
 if (o == 13#8) = true then some (.tup [.u64 (movV o w a (b % BitVec.ofInt 64 w)), .i .i64 (0)]) else
 if (o == 14#8) = true then some (.tup [.u64 (movV o w a (b % BitVec.ofInt 64 w)), .i .i64 (0)]) else
 if (o == 15#8) = true then some (.tup [.u64 (movV o w a (b % BitVec.ofInt 64 w)), .i .i64 (0)]) else
 if (o == 16#8) = true then some (.tup [.u64 (satV o w a b), .i .i64 (0)]) else
 if (o == 17#8) = true then some (.tup [.u64 (satV o w a b), .i .i64 (0)]) else
 if (o == 18#8) = true then some (.tup [.u64 (satV o w a b), .i .i64 (0)]) else
 if (o == 19#8) = true then some (.tup [.u64 (satV o w a b), .i .i64 (0)]) else
 if (o == 20#8) = true then some (.tup [.u64 (if a < b then a else b), .i .i64 (0)]) else
 if (o == 21#8) = true then some (.tup [.u64 (if a < b then b else a), .i .i64 (0)]) else
 if (o == 22#8) = true then some (.tup [.u64 (if sgnF w a < sgnF w b then a else b), .i .i64 (0)]) else
 if (o == 23#8) = true then some (.tup [.u64 (if sgnF w a < sgnF w b then b else a), .i .i64 (0)]) else
 if (o == 24#8) = true then some (.tup [.u64 (avgV a b), .i .i64 (0)]) else
 if (o == 25#8) = true then some (.tup [.u64 (if (w == 16) = true then q15V a b else 0#64), .i .i64 (if (w == 16) = true then 0 else 2)]) else
 some (.tup [.u64 0#64, .i .i64 2])
def twoN (o : BitVec 8) (w : Int) (a b : BitVec 64) : BitVec 64 := ifF (mayF w [a, b]) (twoV o w a b)
def twoR (o : BitVec 8) (w : Int) (a b : BitVec 64) : Int := if mayF w [a, b] = true then twoE o w a b else 2
def twoD (o : BitVec 8) (w : Int) (a b : BitVec 64) : D := .tup [.u64 (twoN o w a b), .i .i64 (twoR o w a b)]
theorem twoT_eq (o : BitVec 8) (w : Int) (a b : BitVec 64) : twoT o w a b = some (.tup [.u64 (twoV o w a b), .i .i64 (twoE o w a b)]) := by
 unfold twoT twoV twoE
 generalize (o == 1#8) = c1
 generalize (o == 2#8) = c2
 generalize (o == 3#8) = c3
 generalize (o == 4#8) = c4
 generalize (o == 5#8) = c5
 generalize (o == 6#8) = c6
 generalize (o == 7#8) = c7
 generalize (o == 8#8) = c8
 generalize (o == 9#8) = c9
 generalize (o == 10#8) = c10
 generalize (o == 11#8) = c11
 generalize (o == 12#8) = c12
 generalize (o == 13#8) = c13
 generalize (o == 14#8) = c14
 generalize (o == 15#8) = c15
 generalize (o == 16#8) = c16
 generalize (o == 17#8) = c17
 generalize (o == 18#8) = c18
 generalize (o == 19#8) = c19
 generalize (o == 20#8) = c20
 generalize (o == 21#8) = c21
 generalize (o == 22#8) = c22
 generalize (o == 23#8) = c23
 generalize (o == 24#8) = c24
 generalize (o == 25#8) = c25
 cases c1 with
 | true => rfl
 | false =>
  cases c2 with
  | true => rfl
  | false =>
   cases c3 with
   | true => rfl
   | false =>
    cases c4 with
    | true => rfl
    | false =>
     cases c5 with
     | true => rfl
     | false =>
      cases c6 with
      | true => rfl
      | false =>
       cases c7 with
       | true => rfl
       | false =>
        cases c8 with
        | true => rfl
        | false =>
         cases c9 with
         | true => rfl
         | false =>
          cases c10 with
          | true => rfl
          | false =>
           cases c11 with
           | true => rfl
           | false =>
            cases c12 with
            | true => rfl
            | false =>
             cases c13 with
             | true => rfl
             | false =>
              cases c14 with
              | true => rfl
              | false =>
               cases c15 with
               | true => rfl
               | false =>
                cases c16 with
                | true => rfl
                | false =>
                 cases c17 with
                 | true => rfl
                 | false =>
                  cases c18 with
                  | true => rfl
                  | false =>
                   cases c19 with
                   | true => rfl
                   | false =>
                    cases c20 with
                    | true => rfl
                    | false =>
                     cases c21 with
                     | true => rfl
                     | false =>
                      cases c22 with
                      | true => rfl
                      | false =>
                       cases c23 with
                       | true => rfl
                       | false =>
                        cases c24 with
                        | true => rfl
                        | false =>
                         cases c25 with
                         | true => rfl
                         | false =>
                          rfl
theorem min_u (a b : BitVec 64) : (if b < a then b else a) = if a < b then a else b := by
 by_cases h1 : a < b
 ·rw [if_pos h1, if_neg (by rw [BitVec.lt_def] at *; omega)]
 ·by_cases h2 : b < a
  ·rw [if_neg h1, if_pos h2]
  ·rw [if_neg h1, if_neg h2]
   exact BitVec.eq_of_toNat_eq (by rw [BitVec.lt_def] at *; omega)
theorem min_s {w : Int} {a b : BitVec 64} (ha : fitF w a = true) (hb : fitF w b = true) : BitVec.ofInt 64 (if sgnF w b < sgnF w a then sgnF w b else sgnF w a) &&& maskF w = if sgnF w a < sgnF w b then a else b := by
 by_cases h1 : sgnF w a < sgnF w b
 ·rw [if_pos h1, if_neg (by omega), num_sgn ha]
 ·by_cases h2 : sgnF w b < sgnF w a
  ·rw [if_neg h1, if_pos h2, num_sgn hb]
  ·have e : sgnF w a = sgnF w b := by omega
   rw [if_neg h1, if_neg h2, e, num_sgn hb]
theorem max_s {w : Int} {a b : BitVec 64} (ha : fitF w a = true) (hb : fitF w b = true) : BitVec.ofInt 64 (if sgnF w a < sgnF w b then sgnF w b else sgnF w a) &&& maskF w = if sgnF w a < sgnF w b then b else a := by
 by_cases h1 : sgnF w a < sgnF w b
 ·rw [if_pos h1, if_pos h1, num_sgn hb]
 ·rw [if_neg h1, if_neg h1, num_sgn ha]
theorem two_end {o : BitVec 8} {w : Int} {a b : BitVec 64} {x : Option D} (h : mayF w [a, b] = true → x = twoT o w a b) : (if (!mayF w [a, b]) = true then some (D.tup [.u64 0#64, .i .i64 2]) else x) = some (twoD o w a b) := by
 unfold twoD twoN twoR
 cases hm : mayF w [a, b]
 ·rfl
 ·rw [if_neg (by simp), h hm, twoT_eq]
  rfl
theorem twoP_eq (o : BitVec 8) (w : Int) (a b : BitVec 64) : twoP o w a b = some (twoD o w a b) := by
 unfold twoP
 refine two_end fun hm => ?_
 obtain ⟨ha, hb⟩ := may_fit hm
 have hw := (fitF_nat ha).1
 have h0 := ofW_ne hw
 have e15 : (2 : Int) ^ min (BitVec.ofInt 64 15).toNat 64 = 32768 := by decide
 have t1 : (true = true) = True := eq_true rfl
 have t2 : (false = true) = False := eq_false (by decide)
 simp only [ha, hb, hw, h0, Bool.and_self, t1, t2, if_true, if_false, min_u, min_s ha hb, max_s ha hb, e15]
 unfold twoT avgV q15V
 cases hw16 : (w == 16)
 ·rfl
 ·have e : w = 16 := by simpa using hw16
  subst e
  simp only [ha, hb, if_true]
end Go.Wh
namespace Go.Wh
open Go.Ev Go.RowKit
theorem fit_id {w : Int} {a : BitVec 64} (h : fitF w a = true) : a &&& maskF w = a := by
 simp only [fitF, Bool.and_eq_true, decide_eq_true_eq] at h
 exact and_fit h.1 h.2
end Go.Wh
namespace Go.Wh
open Go.Ev Go.RowKit
theorem fit_le {w : Int} {a b : BitVec 64} (hb : fitF w b = true) (h : a.toNat ≤ b.toNat) : fitF w a = true := by
 obtain ⟨hw, h1⟩ := fitF_nat hb
 exact fit_of_nat hw (by omega)
end Go.Wh
namespace Go.Wh
open Go.Ev Go.RowKit
theorem bits_of {q v : BitVec 64} (h : ∀ j, j < 64 → q.getLsbD j = v.getLsbD j) : q = v := BitVec.eq_of_getLsbD_eq fun j hj => h j hj
theorem okW_rng {w : Int} (h : okW w = true) : 8 ≤ w ∧ w ≤ 64 := by rcases okW_cases h with rfl | rfl | rfl | rfl <;> omega
end Go.Wh
namespace Go.Wh
open Go.Ev Go.RowKit
theorem and_xor_nat : ∀ (a b : Nat), a + b = 2 * (a &&& b) + (a ^^^ b)
 | a, b => by
  by_cases h : a = 0
  ·subst h; simp
  ·have ih := and_xor_nat (a / 2) (b / 2)
   have h1 := Nat.and_div_two (a := a) (b := b)
   have h2 := Nat.xor_div_two (a := a) (b := b)
   have h3 := Nat.and_mod_two_eq_one (a := a) (b := b)
   have h4 := Nat.xor_mod_two_eq_one (a := a) (b := b)
   have e1 := Nat.div_add_mod (a &&& b) 2
   have e2 := Nat.div_add_mod (a ^^^ b) 2
   have e3 := Nat.div_add_mod a 2
   have e4 := Nat.div_add_mod b 2
   rw [← h1, ← h2] at ih
   have l1 := Nat.mod_lt a (by decide : 2 > 0)
   have l2 := Nat.mod_lt b (by decide : 2 > 0)
   have l3 := Nat.mod_lt (a &&& b) (by decide : 2 > 0)
   have l4 := Nat.mod_lt (a ^^^ b) (by decide : 2 > 0)
   rcases Nat.mod_two_eq_zero_or_one a with ha | ha <;> rcases Nat.mod_two_eq_zero_or_one b with hb | hb <;>
    rcases Nat.mod_two_eq_zero_or_one (a &&& b) with hc | hc <;> rcases Nat.mod_two_eq_zero_or_one (a ^^^ b) with hd | hd <;> simp only [ha, hb, hc, hd] at h3 h4 <;> first | omega | (exfalso; revert h3 h4; decide)
termination_by a b => a
end Go.Wh
