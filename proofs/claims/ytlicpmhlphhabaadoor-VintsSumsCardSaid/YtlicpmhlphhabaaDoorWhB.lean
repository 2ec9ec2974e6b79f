/-
  Part of the proof; what its functions and lemmas say stands in the text.
-/
import Derived.Test.YtlicpmhlphhabaaDoorWhA
set_option linter.unusedSimpArgs false
set_option linter.unusedVariables false
/-!
Whole numbers: what the functions of two come to.
-/
namespace Go.Wh
open Go.Ev Go.RowKit

def cry (x y : BitVec 64) : BitVec 64 := BitVec.ofNat 64 ((x.toNat + y.toNat) / 18446744073709551616)
def divP (o : BitVec 8) (w : Int) (a b : BitVec 64) : Option D :=
  if (b == 0#64) = true then some (D.tup [D.u64 0#64, D.i IntKind.i64 6])
  else
    if (o == 4#8) = true then if b = 0#64 then none else some (D.tup [D.u64 (a / b), D.i IntKind.i64 0])
    else
      if (o == 5#8) = true then if b = 0#64 then none else some (D.tup [D.u64 (a % b), D.i IntKind.i64 0])
      else
        if fitF w a = true then
          if fitF w b = true then
            if okW w = true then
              if (o == 6#8) = true then
                if (sgnF w a == -(pw w / 2)) = true then
                  if (sgnF w b == -1) = true then some (D.tup [D.u64 0#64, D.i IntKind.i64 6])
                  else
                    if (o == 6#8) = true then
                      if sgnF w b = 0 then none
                      else
                        if okW w = true then
                          some
                            (D.tup
                              [D.u64 (BitVec.ofInt 64 (IntKind.i64.wrap ((sgnF w a).tdiv (sgnF w b))) &&& maskF w),
                                D.i IntKind.i64 0])
                        else none
                    else
                      if sgnF w b = 0 then none
                      else
                        if okW w = true then
                          some
                            (D.tup [D.u64 (BitVec.ofInt 64 ((sgnF w a).tmod (sgnF w b)) &&& maskF w), D.i IntKind.i64 0])
                        else none
                else
                  if (o == 6#8) = true then
                    if sgnF w b = 0 then none
                    else
                      if okW w = true then
                        some
                          (D.tup
                            [D.u64 (BitVec.ofInt 64 (IntKind.i64.wrap ((sgnF w a).tdiv (sgnF w b))) &&& maskF w),
                              D.i IntKind.i64 0])
                      else none
                  else
                    if sgnF w b = 0 then none
                    else
                      if okW w = true then
                        some (D.tup [D.u64 (BitVec.ofInt 64 ((sgnF w a).tmod (sgnF w b)) &&& maskF w), D.i IntKind.i64 0])
                      else none
              else
                if (o == 6#8) = true then
                  if sgnF w b = 0 then none
                  else
                    if okW w = true then
                      some
                        (D.tup
                          [D.u64 (BitVec.ofInt 64 (IntKind.i64.wrap ((sgnF w a).tdiv (sgnF w b))) &&& maskF w),
                            D.i IntKind.i64 0])
                    else none
                else
                  if sgnF w b = 0 then none
                  else
                    if okW w = true then
                      some (D.tup [D.u64 (BitVec.ofInt 64 ((sgnF w a).tmod (sgnF w b)) &&& maskF w), D.i IntKind.i64 0])
                    else none
            else none
          else none
        else none
def divR (o : BitVec 8) (w : Int) (a b : BitVec 64) : Option D :=
  if fitF w a = true then
    if fitF w b = true then
      if (b == 0#64) = false then
        if (o == 6#8) = true then
          if okW w = true then
            if (sgnF w a == -(pw w / 2)) = true then
              if (sgnF w b == -1) = true then some (D.tup [D.u64 0#64, D.i IntKind.i64 6])
              else
                if (o == 4#8) = true then if b = 0#64 then none else some (D.tup [D.u64 (a / b), D.i IntKind.i64 0])
                else
                  if (o == 5#8) = true then if b = 0#64 then none else some (D.tup [D.u64 (a % b), D.i IntKind.i64 0])
                  else
                    if (o == 6#8) = true then
                      if sgnF w b = 0 then none
                      else
                        some
                          (D.tup
                            [D.u64 (BitVec.ofInt 64 (IntKind.i64.wrap ((sgnF w a).tdiv (sgnF w b))) &&& maskF w),
                              D.i IntKind.i64 0])
                    else
                      if (sgnF w b == -1) = true then some (D.tup [D.u64 0#64, D.i IntKind.i64 0])
                      else
                        if sgnF w b = 0 then none
                        else
                          some
                            (D.tup [D.u64 (BitVec.ofInt 64 ((sgnF w a).tmod (sgnF w b)) &&& maskF w), D.i IntKind.i64 0])
            else
              if (o == 4#8) = true then if b = 0#64 then none else some (D.tup [D.u64 (a / b), D.i IntKind.i64 0])
              else
                if (o == 5#8) = true then if b = 0#64 then none else some (D.tup [D.u64 (a % b), D.i IntKind.i64 0])
                else
                  if (o == 6#8) = true then
                    if sgnF w b = 0 then none
                    else
                      some
                        (D.tup
                          [D.u64 (BitVec.ofInt 64 (IntKind.i64.wrap ((sgnF w a).tdiv (sgnF w b))) &&& maskF w),
                            D.i IntKind.i64 0])
                  else
                    if (sgnF w b == -1) = true then some (D.tup [D.u64 0#64, D.i IntKind.i64 0])
                    else
                      if sgnF w b = 0 then none
                      else
                        some (D.tup [D.u64 (BitVec.ofInt 64 ((sgnF w a).tmod (sgnF w b)) &&& maskF w), D.i IntKind.i64 0])
          else none
        else
          if (o == 4#8) = true then if b = 0#64 then none else some (D.tup [D.u64 (a / b), D.i IntKind.i64 0])
          else
            if (o == 5#8) = true then if b = 0#64 then none else some (D.tup [D.u64 (a % b), D.i IntKind.i64 0])
            else
              if (o == 6#8) = true then
                if sgnF w b = 0 then none
                else
                  some
                    (D.tup
                      [D.u64 (BitVec.ofInt 64 (IntKind.i64.wrap ((sgnF w a).tdiv (sgnF w b))) &&& maskF w),
                        D.i IntKind.i64 0])
              else
                if (sgnF w b == -1) = true then some (D.tup [D.u64 0#64, D.i IntKind.i64 0])
                else
                  if sgnF w b = 0 then none
                  else some (D.tup [D.u64 (BitVec.ofInt 64 ((sgnF w a).tmod (sgnF w b)) &&& maskF w), D.i IntKind.i64 0])
      else some (D.tup [D.u64 0#64, D.i IntKind.i64 6])
    else none
  else none
def movP (o : BitVec 8) (w : Int) (a b : BitVec 64) : Option D :=
  if (o == 11#8) = true then if okW w = true then some (D.u64 (a <<< b.toNat &&& maskF w)) else none
  else
    if (o == 12#8) = true then some (D.u64 (a >>> b.toNat))
    else
      if (o == 13#8) = true then
        if fitF w a = true then
          if okW w = true then some (D.u64 (BitVec.ofInt 64 (sgnF w a / 2 ^ min b.toNat 64) &&& maskF w))
          else none
        else none
      else
        if (o == 15#8) = true then
          if BitVec.ofInt 64 w = 0#64 then none
          else
            if okW w = true then
              some
                (D.u64
                  ((a <<< ((BitVec.ofInt 64 w - b) % BitVec.ofInt 64 w).toNat |||
                      a >>> (BitVec.ofInt 64 w - (BitVec.ofInt 64 w - b) % BitVec.ofInt 64 w).toNat) &&&
                    maskF w))
            else none
        else
          if okW w = true then some (D.u64 ((a <<< b.toNat ||| a >>> (BitVec.ofInt 64 w - b).toNat) &&& maskF w))
          else none
def satP (o : BitVec 8) (w : Int) (a b : BitVec 64) : Option D :=
  if (o == 16#8) = true then
    if decide (BitVec.ofInt 64 0 < cry a b) = false then
      if okW w = true then
        if decide (maskF w < a + b) = true then if okW w = true then some (D.u64 (maskF w)) else none
        else some (D.u64 (a + b))
      else none
    else if okW w = true then some (D.u64 (maskF w)) else none
  else
    if (o == 17#8) = true then some (D.u64 (a - if true = true then if b < a then b else a else if a < b then b else a))
    else
      if fitF w a = true then
        if fitF w b = true then
          if okW w = true then
            if (o == 19#8) = true then
              if decide (sgnF w b < 0) = true then
                if decide (IntKind.i64.wrap (pw w / 2 - 1 + sgnF w b) < sgnF w a) = true then
                  if okW w = true then some (D.u64 (BitVec.ofInt 64 (pw w / 2 - 1) &&& maskF w)) else none
                else
                  if decide (0 < sgnF w b) = true then
                    if decide (sgnF w a < IntKind.i64.wrap (-(pw w / 2) + sgnF w b)) = true then
                      if okW w = true then some (D.u64 (BitVec.ofInt 64 (-(pw w / 2)) &&& maskF w)) else none
                    else
                      if okW w = true then
                        some (D.u64 (BitVec.ofInt 64 (IntKind.i64.wrap (sgnF w a - sgnF w b)) &&& maskF w))
                      else none
                  else
                    if okW w = true then
                      some (D.u64 (BitVec.ofInt 64 (IntKind.i64.wrap (sgnF w a - sgnF w b)) &&& maskF w))
                    else none
              else
                if decide (0 < sgnF w b) = true then
                  if decide (sgnF w a < IntKind.i64.wrap (-(pw w / 2) + sgnF w b)) = true then
                    if okW w = true then some (D.u64 (BitVec.ofInt 64 (-(pw w / 2)) &&& maskF w)) else none
                  else
                    if okW w = true then
                      some (D.u64 (BitVec.ofInt 64 (IntKind.i64.wrap (sgnF w a - sgnF w b)) &&& maskF w))
                    else none
                else
                  if okW w = true then some (D.u64 (BitVec.ofInt 64 (IntKind.i64.wrap (sgnF w a - sgnF w b)) &&& maskF w))
                  else none
            else
              if decide (0 < sgnF w b) = true then
                if decide (IntKind.i64.wrap (pw w / 2 - 1 - sgnF w b) < sgnF w a) = true then
                  if okW w = true then some (D.u64 (BitVec.ofInt 64 (pw w / 2 - 1) &&& maskF w)) else none
                else
                  if decide (sgnF w b < 0) = true then
                    if decide (sgnF w a < IntKind.i64.wrap (-(pw w / 2) - sgnF w b)) = true then
                      if okW w = true then some (D.u64 (BitVec.ofInt 64 (-(pw w / 2)) &&& maskF w)) else none
                    else
                      if okW w = true then
                        some (D.u64 (BitVec.ofInt 64 (IntKind.i64.wrap (sgnF w a + sgnF w b)) &&& maskF w))
                      else none
                  else
                    if okW w = true then
                      some (D.u64 (BitVec.ofInt 64 (IntKind.i64.wrap (sgnF w a + sgnF w b)) &&& maskF w))
                    else none
              else
                if decide (sgnF w b < 0) = true then
                  if decide (sgnF w a < IntKind.i64.wrap (-(pw w / 2) - sgnF w b)) = true then
                    if okW w = true then some (D.u64 (BitVec.ofInt 64 (-(pw w / 2)) &&& maskF w)) else none
                  else
                    if okW w = true then
                      some (D.u64 (BitVec.ofInt 64 (IntKind.i64.wrap (sgnF w a + sgnF w b)) &&& maskF w))
                    else none
                else
                  if okW w = true then some (D.u64 (BitVec.ofInt 64 (IntKind.i64.wrap (sgnF w a + sgnF w b)) &&& maskF w))
                  else none
          else none
        else none
      else none
def satR (o : BitVec 8) (w : Int) (a b : BitVec 64) : Option D :=
  if fitF w a = true then
    if fitF w b = true then
      if (o == 16#8) = true then if decide (maskF w - a < b) = true then some (D.u64 (maskF w)) else some (D.u64 (a + b))
      else
        if (o == 17#8) = true then if decide (a < b) = true then some (D.u64 0#64) else some (D.u64 (a - b))
        else
          if (o == 18#8) = true then
            if decide (0 < sgnF w b) = true then
              if okW w = true then
                if decide (IntKind.i64.wrap (pw w / 2 - 1 - sgnF w b) < sgnF w a) = true then
                  if okW w = true then some (D.u64 (BitVec.ofInt 64 (pw w / 2 - 1) &&& maskF w)) else none
                else
                  if decide (sgnF w b < 0) = true then
                    if okW w = true then
                      if decide (sgnF w a < IntKind.i64.wrap (-(pw w / 2) - sgnF w b)) = true then
                        if okW w = true then some (D.u64 (BitVec.ofInt 64 (-(pw w / 2)) &&& maskF w)) else none
                      else some (D.u64 (BitVec.ofInt 64 (IntKind.i64.wrap (sgnF w a + sgnF w b)) &&& maskF w))
                    else none
                  else some (D.u64 (BitVec.ofInt 64 (IntKind.i64.wrap (sgnF w a + sgnF w b)) &&& maskF w))
              else none
            else
              if decide (sgnF w b < 0) = true then
                if okW w = true then
                  if decide (sgnF w a < IntKind.i64.wrap (-(pw w / 2) - sgnF w b)) = true then
                    if okW w = true then some (D.u64 (BitVec.ofInt 64 (-(pw w / 2)) &&& maskF w)) else none
                  else some (D.u64 (BitVec.ofInt 64 (IntKind.i64.wrap (sgnF w a + sgnF w b)) &&& maskF w))
                else none
              else some (D.u64 (BitVec.ofInt 64 (IntKind.i64.wrap (sgnF w a + sgnF w b)) &&& maskF w))
          else
            if decide (sgnF w b < 0) = true then
              if okW w = true then
                if decide (IntKind.i64.wrap (pw w / 2 - 1 + sgnF w b) < sgnF w a) = true then
                  if okW w = true then some (D.u64 (BitVec.ofInt 64 (pw w / 2 - 1) &&& maskF w)) else none
                else
                  if decide (0 < sgnF w b) = true then
                    if okW w = true then
                      if decide (sgnF w a < IntKind.i64.wrap (-(pw w / 2) + sgnF w b)) = true then
                        if okW w = true then some (D.u64 (BitVec.ofInt 64 (-(pw w / 2)) &&& maskF w)) else none
                      else some (D.u64 (BitVec.ofInt 64 (IntKind.i64.wrap (sgnF w a - sgnF w b)) &&& maskF w))
                    else none
                  else some (D.u64 (BitVec.ofInt 64 (IntKind.i64.wrap (sgnF w a - sgnF w b)) &&& maskF w))
              else none
            else
              if decide (0 < sgnF w b) = true then
                if okW w = true then
                  if decide (sgnF w a < IntKind.i64.wrap (-(pw w / 2) + sgnF w b)) = true then
                    if okW w = true then some (D.u64 (BitVec.ofInt 64 (-(pw w / 2)) &&& maskF w)) else none
                  else some (D.u64 (BitVec.ofInt 64 (IntKind.i64.wrap (sgnF w a - sgnF w b)) &&& maskF w))
                else none
              else some (D.u64 (BitVec.ofInt 64 (IntKind.i64.wrap (sgnF w a - sgnF w b)) &&& maskF w))
    else none
  else none
def minR (o : BitVec 8) (w : Int) (a b : BitVec 64) : Option D :=
  if (o == 22#8) = false then
    if (o == 23#8) = true then
      if fitF w a = true then
        if fitF w b = true then
          if (o == 20#8) = false then
            if (decide (sgnF w a < sgnF w b) == (o == 22#8)) = true then some (D.u64 a) else some (D.u64 b)
          else if (decide (sgnF w a < sgnF w b) == true) = true then some (D.u64 a) else some (D.u64 b)
        else none
      else none
    else
      if (o == 20#8) = false then if (decide (a < b) == (o == 22#8)) = true then some (D.u64 a) else some (D.u64 b)
      else if (decide (a < b) == true) = true then some (D.u64 a) else some (D.u64 b)
  else
    if fitF w a = true then
      if fitF w b = true then
        if (o == 20#8) = false then
          if (decide (sgnF w a < sgnF w b) == (o == 22#8)) = true then some (D.u64 a) else some (D.u64 b)
        else if (decide (sgnF w a < sgnF w b) == true) = true then some (D.u64 a) else some (D.u64 b)
      else none
    else none
def q15R (a b : BitVec 64) : Option D :=
  if fitF 16 a = true then
    if fitF 16 b = true then
      some
        (D.u64
          (BitVec.ofInt 64
              (if true = true then
                if
                    32767 <
                      IntKind.i64.wrap (IntKind.i64.wrap (sgnF 16 a * sgnF 16 b) + 16384) /
                        2 ^ min (BitVec.ofInt 64 15).toNat 64 then
                  32767
                else
                  IntKind.i64.wrap (IntKind.i64.wrap (sgnF 16 a * sgnF 16 b) + 16384) /
                    2 ^ min (BitVec.ofInt 64 15).toNat 64
              else
                if
                    IntKind.i64.wrap (IntKind.i64.wrap (sgnF 16 a * sgnF 16 b) + 16384) /
                        2 ^ min (BitVec.ofInt 64 15).toNat 64 <
                      32767 then
                  32767
                else
                  IntKind.i64.wrap (IntKind.i64.wrap (sgnF 16 a * sgnF 16 b) + 16384) /
                    2 ^ min (BitVec.ofInt 64 15).toNat 64) &&&
            65535#64))
    else none
  else none
end Go.Wh
/-!
Whole numbers: quotients, what is held, the lesser and the greater.
-/
namespace Go.Wh
open Go.Ev Go.RowKit

theorem sgn_ne {w : Int} {b : BitVec 64} (h : fitF w b = true) (hb : ¬ b = 0#64) : ¬ sgnF w b = 0 := by
  obtain ⟨hw, ha⟩ := fitF_nat h
  obtain ⟨k, hk, k1, k2⟩ := pw_even hw
  have h0 : b.toNat ≠ 0 := fun e => hb (BitVec.eq_of_toNat_eq (by simpa using e))
  unfold sgnF
  split <;> omega
def divE (o : BitVec 8) (w : Int) (a b : BitVec 64) : Int := if b = 0#64 ∨ (o = 6#8 ∧ sgnF w a = -(pw w / 2) ∧ sgnF w b = -1) then 6 else 0
def divV (o : BitVec 8) (w : Int) (a b : BitVec 64) : BitVec 64 :=
  if b = 0#64 ∨ (o = 6#8 ∧ sgnF w a = -(pw w / 2) ∧ sgnF w b = -1) then 0#64 else if o = 4#8 then a / b else if o = 5#8 then a % b
  else if o = 6#8 then BitVec.ofInt 64 (IntKind.i64.wrap ((sgnF w a).tdiv (sgnF w b))) &&& maskF w else BitVec.ofInt 64 ((sgnF w a).tmod (sgnF w b)) &&& maskF w
def divD (o : BitVec 8) (w : Int) (a b : BitVec 64) : D := .tup [.u64 (divV o w a b), .i .i64 (divE o w a b)]
theorem divP_eq {o : BitVec 8} {w : Int} {a b : BitVec 64} (ha : fitF w a = true) (hb : fitF w b = true) : divP o w a b = some (divD o w a b) := by
  have hw := (fitF_nat ha).1
  by_cases h0 : b = 0#64
  · simp [divP, divD, divV, divE, h0]
  · have hn := sgn_ne hb h0
    by_cases h4 : o = 4#8
    · simp [divP, divD, divV, divE, h0, h4]
    · by_cases h5 : o = 5#8
      · simp [divP, divD, divV, divE, h0, h5]
      · by_cases h6 : o = 6#8
        · by_cases hx : sgnF w a = -(pw w / 2)
          · by_cases hy : sgnF w b = -1
            · simp [divP, divD, divV, divE, h0, h6, hx, hy, ha, hb, hw]
            · simp [divP, divD, divV, divE, h0, h6, hx, hy, ha, hb, hw, hn]
          · simp [divP, divD, divV, divE, h0, h6, hx, ha, hb, hw, hn]
        · simp [divP, divD, divV, divE, h0, h4, h5, h6, ha, hb, hw, hn]
theorem divR_eq {o : BitVec 8} {w : Int} {a b : BitVec 64} (ha : fitF w a = true) (hb : fitF w b = true) : divR o w a b = some (divD o w a b) := by
  have hw := (fitF_nat ha).1
  by_cases h0 : b = 0#64
  · simp [divR, divD, divV, divE, h0, ha, h0 ▸ hb]
  · have hn := sgn_ne hb h0
    by_cases h4 : o = 4#8
    · simp [divR, divD, divV, divE, h0, h4, ha, hb]
    · by_cases h5 : o = 5#8
      · simp [divR, divD, divV, divE, h0, h5, ha, hb]
      · by_cases h6 : o = 6#8
        · by_cases hx : sgnF w a = -(pw w / 2)
          · by_cases hy : sgnF w b = -1
            · simp [divR, divD, divV, divE, h0, h6, hx, hy, ha, hb, hw]
            · simp [divR, divD, divV, divE, h0, h6, hx, hy, ha, hb, hw, hn]
          · simp [divR, divD, divV, divE, h0, h6, hx, ha, hb, hw, hn]
        · by_cases hy : sgnF w b = -1
          · have e : (sgnF w a).tmod (-1) = 0 := by rw [Int.tmod_neg, Int.tmod_one]
            simp [divR, divD, divV, divE, h0, h4, h5, h6, ha, hb, hy, e]
          · simp [divR, divD, divV, divE, h0, h4, h5, h6, ha, hb, hn, hy]

/-! what is held -/
def satV (o : BitVec 8) (w : Int) (a b : BitVec 64) : BitVec 64 :=
  if o = 16#8 then (if maskF w - a < b then maskF w else a + b)
  else if o = 17#8 then (if a < b then 0#64 else a - b)
  else if o = 19#8 then BitVec.ofInt 64 (min (max (sgnF w a - sgnF w b) (-(pw w / 2))) (pw w / 2 - 1)) &&& maskF w
  else BitVec.ofInt 64 (min (max (sgnF w a + sgnF w b) (-(pw w / 2))) (pw w / 2 - 1)) &&& maskF w
theorem add_over {w : Int} {a b : BitVec 64} (ha : fitF w a = true) (hb : fitF w b = true) : (if decide (BitVec.ofInt 64 0 < cry a b) = false then if decide (maskF w < a + b) = true then maskF w else a + b else maskF w) = if maskF w - a < b then maskF w else a + b := by
  obtain ⟨hw, h1⟩ := fitF_nat ha
  obtain ⟨_, h2⟩ := fitF_nat hb
  obtain ⟨k, hk, k1, k2⟩ := pw_even hw
  have hm := mask_nat hw
  have al := a.isLt
  have bl := b.isLt
  have hs : (maskF w - a).toNat = (maskF w).toNat - a.toNat := by rw [BitVec.toNat_sub]; have := (maskF w).isLt; omega
  have hc : (cry a b).toNat = (a.toNat + b.toNat) / 18446744073709551616 := by
    rw [cry, BitVec.toNat_ofNat]; omega
  have e0 : (BitVec.ofInt 64 0 < cry a b) ↔ 18446744073709551616 ≤ a.toNat + b.toNat := by
    rw [BitVec.lt_def, hc]
    have : (BitVec.ofInt 64 0).toNat = 0 := rfl
    rw [this]; omega
  have hab : (a + b).toNat = (a.toNat + b.toNat) % 18446744073709551616 := BitVec.toNat_add _ _
  have e1 : (maskF w - a < b) ↔ (maskF w).toNat - a.toNat < b.toNat := by rw [BitVec.lt_def, hs]
  by_cases h3 : 18446744073709551616 ≤ a.toNat + b.toNat
  · have h4 : (maskF w - a < b) := e1.2 (by omega)
    have hp := e0.2 h3
    rw [if_neg (by rw [decide_eq_true hp]; decide), if_pos h4]
  · have h4 : (maskF w < a + b) ↔ (maskF w - a < b) := by rw [e1, BitVec.lt_def, hab]; omega
    have h5 : ¬ BitVec.ofInt 64 0 < cry a b := fun h => h3 (e0.1 h)
    simp only [h5, decide_false, if_true, decide_eq_true_eq]
    by_cases h6 : maskF w - a < b
    · rw [if_pos (h4.2 h6), if_pos h6]
    · rw [if_neg (fun h => h6 (h4.1 h)), if_neg h6]
theorem satP_eq {o : BitVec 8} {w : Int} {a b : BitVec 64} (ha : fitF w a = true) (hb : fitF w b = true) : satP o w a b = some (.u64 (satV o w a b)) := by
  obtain ⟨hw, h1⟩ := fitF_nat ha
  obtain ⟨k, hk, k1, k2⟩ := pw_even hw
  have r1 := sgn_range ha
  have r2 := sgn_range hb
  by_cases h16 : o = 16#8
  · have e := add_over ha hb
    simp only [satP, satV, h16, beq_self_eq_true, if_true, hw]
    rw [← e]
    split <;> (try split) <;> rfl
  · by_cases h17 : o = 17#8
    · have b0 : (o == 16#8) = false := by simpa using h16
      have b1 : (o == 17#8) = true := by simpa using h17
      simp only [satP, satV, h16, h17, b0, b1, if_true, if_false, Bool.false_eq_true]
      by_cases hlt : b < a
      · have : ¬ a < b := by rw [BitVec.lt_def] at *; omega
        rw [if_pos hlt, if_neg this]; simp
      · rw [if_neg hlt]
        by_cases h2 : a < b
        · rw [if_pos h2]; simp
        · have : a = b := BitVec.eq_of_toNat_eq (by rw [BitVec.lt_def] at *; omega)
          rw [if_neg h2, this]; simp
    · have b0 : (o == 16#8) = false := by simpa using h16
      have b1 : (o == 17#8) = false := by simpa using h17
      by_cases h19 : o = 19#8
      · have b2 : (o == 19#8) = true := by simpa using h19
        have c19 : (o = 19#8) = True := eq_true h19
        simp only [satP, satV, h16, h17, c19, b0, b1, b2, if_true, if_false, Bool.false_eq_true, ha, hb, hw, decide_eq_true_eq]
        rcases Int.lt_trichotomy (sgnF w b) 0 with h | h | h
        · have n1 : ¬ 0 < sgnF w b := by omega
          rw [if_pos h, wrap_in (by omega) (by omega)]
          by_cases h2 : pw w / 2 - 1 + sgnF w b < sgnF w a
          · rw [if_pos h2]; rw [show min (max (sgnF w a - sgnF w b) (-(pw w / 2))) (pw w / 2 - 1) = pw w / 2 - 1 by omega]
          · rw [if_neg h2, if_neg n1, wrap_in (by omega) (by omega)]; rw [show min (max (sgnF w a - sgnF w b) (-(pw w / 2))) (pw w / 2 - 1) = sgnF w a - sgnF w b by omega]
        · have n1 : ¬ 0 < sgnF w b := by omega
          have n2 : ¬ sgnF w b < 0 := by omega
          rw [if_neg n2, if_neg n1, wrap_in (by omega) (by omega)]; rw [show min (max (sgnF w a - sgnF w b) (-(pw w / 2))) (pw w / 2 - 1) = sgnF w a - sgnF w b by omega]
        · have n2 : ¬ sgnF w b < 0 := by omega
          rw [if_neg n2, if_pos h, wrap_in (n := -(pw w / 2) + sgnF w b) (by omega) (by omega)]
          by_cases h2 : sgnF w a < -(pw w / 2) + sgnF w b
          · rw [if_pos h2]; rw [show min (max (sgnF w a - sgnF w b) (-(pw w / 2))) (pw w / 2 - 1) = -(pw w / 2) by omega]
          · rw [if_neg h2, wrap_in (by omega) (by omega)]; rw [show min (max (sgnF w a - sgnF w b) (-(pw w / 2))) (pw w / 2 - 1) = sgnF w a - sgnF w b by omega]
      · have b2 : (o == 19#8) = false := by simpa using h19
        simp only [satP, satV, h16, h17, h19, b0, b1, b2, if_true, if_false, Bool.false_eq_true, ha, hb, hw, decide_eq_true_eq]
        rcases Int.lt_trichotomy (sgnF w b) 0 with h | h | h
        · have n1 : ¬ 0 < sgnF w b := by omega
          rw [if_neg n1, if_pos h, wrap_in (n := -(pw w / 2) - sgnF w b) (by omega) (by omega)]
          by_cases h2 : sgnF w a < -(pw w / 2) - sgnF w b
          · rw [if_pos h2]; rw [show min (max (sgnF w a + sgnF w b) (-(pw w / 2))) (pw w / 2 - 1) = -(pw w / 2) by omega]
          · rw [if_neg h2, wrap_in (by omega) (by omega)]; rw [show min (max (sgnF w a + sgnF w b) (-(pw w / 2))) (pw w / 2 - 1) = sgnF w a + sgnF w b by omega]
        · have n1 : ¬ 0 < sgnF w b := by omega
          have n2 : ¬ sgnF w b < 0 := by omega
          rw [if_neg n1, if_neg n2, wrap_in (by omega) (by omega)]; rw [show min (max (sgnF w a + sgnF w b) (-(pw w / 2))) (pw w / 2 - 1) = sgnF w a + sgnF w b by omega]
        · have n2 : ¬ sgnF w b < 0 := by omega
          rw [if_pos h, wrap_in (n := pw w / 2 - 1 - sgnF w b) (by omega) (by omega)]
          by_cases h2 : pw w / 2 - 1 - sgnF w b < sgnF w a
          · rw [if_pos h2]; rw [show min (max (sgnF w a + sgnF w b) (-(pw w / 2))) (pw w / 2 - 1) = pw w / 2 - 1 by omega]
          · rw [if_neg h2, if_neg n2, wrap_in (by omega) (by omega)]; rw [show min (max (sgnF w a + sgnF w b) (-(pw w / 2))) (pw w / 2 - 1) = sgnF w a + sgnF w b by omega]
theorem satR_eq {o : BitVec 8} {w : Int} {a b : BitVec 64} (ha : fitF w a = true) (hb : fitF w b = true) (ho : o = 16#8 ∨ o = 17#8 ∨ o = 18#8 ∨ o = 19#8) : satR o w a b = some (.u64 (satV o w a b)) := by
  rw [← satP_eq ha hb]
  obtain ⟨hw, h1⟩ := fitF_nat ha
  obtain ⟨k, hk, k1, k2⟩ := pw_even hw
  rcases ho with rfl | rfl | rfl | rfl
  · rw [satP_eq ha hb]
    simp only [satR, satV, ha, hb, beq_self_eq_true, if_true, decide_eq_true_eq]
    split <;> rfl
  · rw [satP_eq ha hb]
    have b0 : ((17#8 : BitVec 8) == 16#8) = false := by decide
    have c0 : ¬ (17#8 : BitVec 8) = 16#8 := by decide
    simp only [satR, satV, ha, hb, b0, c0, beq_self_eq_true, if_true, if_false, Bool.false_eq_true, decide_eq_true_eq]
    split <;> rfl
  · have b0 : ((18#8 : BitVec 8) == 16#8) = false := by decide
    have b1 : ((18#8 : BitVec 8) == 17#8) = false := by decide
    have b2 : ((18#8 : BitVec 8) == 19#8) = false := by decide
    simp only [satR, satP, ha, hb, hw, b0, b1, b2, beq_self_eq_true, if_true, if_false, Bool.false_eq_true, decide_eq_true_eq]
  · have b0 : ((19#8 : BitVec 8) == 16#8) = false := by decide
    have b1 : ((19#8 : BitVec 8) == 17#8) = false := by decide
    have b2 : ((19#8 : BitVec 8) == 18#8) = false := by decide
    simp only [satR, satP, ha, hb, hw, b0, b1, b2, beq_self_eq_true, if_true, if_false, Bool.false_eq_true, decide_eq_true_eq]
end Go.Wh
/-!
Whole numbers: moves; the lesser, the greater, the mean.
-/
namespace Go.Wh
open Go.Ev Go.RowKit

def movV (o : BitVec 8) (w : Int) (a n : BitVec 64) : BitVec 64 :=
  if o = 11#8 then a <<< n.toNat &&& maskF w
  else if o = 12#8 then a >>> n.toNat
  else if o = 13#8 then BitVec.ofInt 64 (sgnF w a / 2 ^ min n.toNat 64) &&& maskF w
  else if o = 15#8 then (a <<< ((BitVec.ofInt 64 w - n) % BitVec.ofInt 64 w).toNat ||| a >>> (BitVec.ofInt 64 w - (BitVec.ofInt 64 w - n) % BitVec.ofInt 64 w).toNat) &&& maskF w
  else (a <<< n.toNat ||| a >>> (BitVec.ofInt 64 w - n).toNat) &&& maskF w
theorem ofW_ne {w : Int} (h : okW w = true) : ¬ BitVec.ofInt 64 w = 0#64 := by
  rcases okW_cases h with rfl | rfl | rfl | rfl <;> decide
theorem movP_eq {o : BitVec 8} {w : Int} {a n : BitVec 64} (ha : fitF w a = true) : movP o w a n = some (.u64 (movV o w a n)) := by
  have hw := (fitF_nat ha).1
  have h0 := ofW_ne hw
  by_cases h1 : o = 11#8
  · simp [movP, movV, h1, hw]
  · by_cases h2 : o = 12#8
    · simp [movP, movV, h2]
    · by_cases h3 : o = 13#8
      · simp [movP, movV, h3, hw, ha]
      · by_cases h4 : o = 15#8
        · simp [movP, movV, h4, hw, h0]
        · simp [movP, movV, h1, h2, h3, h4, hw]
def minV (o : BitVec 8) (w : Int) (a b : BitVec 64) : BitVec 64 :=
  if o = 20#8 then (if a < b then a else b) else if o = 21#8 then (if a < b then b else a)
  else if o = 22#8 then (if sgnF w a < sgnF w b then a else b) else (if sgnF w a < sgnF w b then b else a)
theorem minR_eq {o : BitVec 8} {w : Int} {a b : BitVec 64} (ha : fitF w a = true) (hb : fitF w b = true) (ho : o = 20#8 ∨ o = 21#8 ∨ o = 22#8 ∨ o = 23#8) : minR o w a b = some (.u64 (minV o w a b)) := by
  rcases ho with rfl | rfl | rfl | rfl
  · by_cases h : a < b <;> simp [minR, minV, h]
  · by_cases h : a < b <;> simp [minR, minV, h]
  · by_cases h : sgnF w a < sgnF w b <;> simp [minR, minV, h, ha, hb]
  · by_cases h : sgnF w a < sgnF w b <;> simp [minR, minV, h, ha, hb]
def avgV (a b : BitVec 64) : BitVec 64 := (a &&& b) + ((a ^^^ b) >>> 1) + ((a ^^^ b) &&& 1#64)
end Go.Wh
/-!
Whole numbers: the operators of two.
-/
namespace Go.Wh
open Go.Ev Go.RowKit

def q15V (a b : BitVec 64) : BitVec 64 := heldF 16 (IntKind.i64.wrap (IntKind.i64.wrap (sgnF 16 a * sgnF 16 b) + 16384) / 32768) (-32768) 32767
def twoP (o : BitVec 8) (w : Int) (a b : BitVec 64) : Option D :=
  if (!mayF w [a, b]) = true then some (D.tup [D.u64 0#64, D.i IntKind.i64 2])
  else
    if (o == 1#8) = true then if okW w = true then some (D.tup [D.u64 (a + b &&& maskF w), D.i IntKind.i64 0]) else none
    else
      if (o == 2#8) = true then if okW w = true then some (D.tup [D.u64 (a - b &&& maskF w), D.i IntKind.i64 0]) else none
      else
        if (o == 3#8) = true then
          if okW w = true then some (D.tup [D.u64 (a * b &&& maskF w), D.i IntKind.i64 0]) else none
        else
          if (o == 4#8) = true then
            if (fitF w a && fitF w b) = true then some (D.tup [D.u64 (divV o w a b), D.i IntKind.i64 (divE o w a b)])
            else none
          else
            if (o == 5#8) = true then
              if (fitF w a && fitF w b) = true then some (D.tup [D.u64 (divV o w a b), D.i IntKind.i64 (divE o w a b)])
              else none
            else
              if (o == 6#8) = true then
                if (fitF w a && fitF w b) = true then some (D.tup [D.u64 (divV o w a b), D.i IntKind.i64 (divE o w a b)])
                else none
              else
                if (o == 7#8) = true then
                  if (fitF w a && fitF w b) = true then
                    some (D.tup [D.u64 (divV o w a b), D.i IntKind.i64 (divE o w a b)])
                  else none
                else
                  if (o == 8#8) = true then some (D.tup [D.u64 (a &&& b), D.i IntKind.i64 0])
                  else
                    if (o == 9#8) = true then some (D.tup [D.u64 (a ||| b), D.i IntKind.i64 0])
                    else
                      if (o == 10#8) = true then some (D.tup [D.u64 (a ^^^ b), D.i IntKind.i64 0])
                      else
                        if (o == 11#8) = true then
                          if BitVec.ofInt 64 w = 0#64 then none
                          else
                            if fitF w a = true then
                              some (D.tup [D.u64 (movV o w a (b % BitVec.ofInt 64 w)), D.i IntKind.i64 0])
                            else none
                        else
                          if (o == 12#8) = true then
                            if BitVec.ofInt 64 w = 0#64 then none
                            else
                              if fitF w a = true then
                                some (D.tup [D.u64 (movV o w a (b % BitVec.ofInt 64 w)), D.i IntKind.i64 0])
                              else none
                          else
                            if (o == 13#8) = true then
                              if BitVec.ofInt 64 w = 0#64 then none
                              else
                                if fitF w a = true then
                                  some (D.tup [D.u64 (movV o w a (b % BitVec.ofInt 64 w)), D.i IntKind.i64 0])
                                else none
                            else
                              if (o == 14#8) = true then
                                if BitVec.ofInt 64 w = 0#64 then none
                                else
                                  if fitF w a = true then
                                    some (D.tup [D.u64 (movV o w a (b % BitVec.ofInt 64 w)), D.i IntKind.i64 0])
                                  else none
                              else
                                if (o == 15#8) = true then
                                  if BitVec.ofInt 64 w = 0#64 then none
                                  else
                                    if fitF w a = true then
                                      some (D.tup [D.u64 (movV o w a (b % BitVec.ofInt 64 w)), D.i IntKind.i64 0])
                                    else none
                                else
                                  if (o == 16#8) = true then
                                    if (fitF w a && fitF w b) = true then
                                      some (D.tup [D.u64 (satV o w a b), D.i IntKind.i64 0])
                                    else none
                                  else
                                    if (o == 17#8) = true then
                                      if (fitF w a && fitF w b) = true then
                                        some (D.tup [D.u64 (satV o w a b), D.i IntKind.i64 0])
                                      else none
                                    else
                                      if (o == 18#8) = true then
                                        if (fitF w a && fitF w b) = true then
                                          some (D.tup [D.u64 (satV o w a b), D.i IntKind.i64 0])
                                        else none
                                      else
                                        if (o == 19#8) = true then
                                          if (fitF w a && fitF w b) = true then
                                            some (D.tup [D.u64 (satV o w a b), D.i IntKind.i64 0])
                                          else none
                                        else
                                          if (o == 20#8) = true then
                                            some
                                              (D.tup
                                                [D.u64
                                                    (if true = true then if b < a then b else a
                                                    else if a < b then b else a),
                                                  D.i IntKind.i64 0])
                                          else
                                            if (o == 21#8) = true then
                                              some
                                                (D.tup
                                                  [D.u64
                                                      (if false = true then if b < a then b else a
                                                      else if a < b then b else a),
                                                    D.i IntKind.i64 0])
                                            else
                                              if (o == 22#8) = true then
                                                if fitF w a = true then
                                                  if fitF w b = true then
                                                    if okW w = true then
                                                      some
                                                        (D.tup
                                                          [D.u64
                                                              (BitVec.ofInt 64
                                                                  (if true = true then
                                                                    if sgnF w b < sgnF w a then sgnF w b else sgnF w a
                                                                  else
                                                                    if sgnF w a < sgnF w b then sgnF w b
                                                                    else sgnF w a) &&&
                                                                maskF w),
                                                            D.i IntKind.i64 0])
                                                    else none
                                                  else none
                                                else none
                                              else
                                                if (o == 23#8) = true then
                                                  if fitF w a = true then
                                                    if fitF w b = true then
                                                      if okW w = true then
                                                        some
                                                          (D.tup
                                                            [D.u64
                                                                (BitVec.ofInt 64
                                                                    (if false = true then
                                                                      if sgnF w b < sgnF w a then sgnF w b else sgnF w a
                                                                    else
                                                                      if sgnF w a < sgnF w b then sgnF w b
                                                                      else sgnF w a) &&&
                                                                  maskF w),
                                                              D.i IntKind.i64 0])
                                                      else none
                                                    else none
                                                  else none
                                                else
                                                  if (o == 24#8) = true then
                                                    some
                                                      (D.tup
                                                        [D.u64 ((a &&& b) + (a ^^^ b) >>> 1 + ((a ^^^ b) &&& 1#64)),
                                                          D.i IntKind.i64 0])
                                                  else
                                                    if (o == 25#8) = true then
                                                      if (w == 16) = true then
                                                        if fitF 16 a = true then
                                                          if fitF 16 b = true then
                                                            some
                                                              (D.tup
                                                                [D.u64
                                                                    (heldF 16
                                                                      (IntKind.i64.wrap
                                                                          (IntKind.i64.wrap (sgnF 16 a * sgnF 16 b) +
                                                                            16384) /
                                                                        2 ^
                                                                          min (BitVec.ofInt 64 15).toNat 64)
                                                                      (-32768) 32767),
                                                                  D.i IntKind.i64 0])
                                                          else none
                                                        else none
                                                      else some (D.tup [D.u64 0#64, D.i IntKind.i64 2])
                                                    else some (D.tup [D.u64 0#64, D.i IntKind.i64 2])
def twoV (o : BitVec 8) (w : Int) (a b : BitVec 64) : BitVec 64 :=
  if (o == 1#8) = true then a + b &&& maskF w else
  if (o == 2#8) = true then a - b &&& maskF w else
  if (o == 3#8) = true then a * b &&& maskF w else
  if (o == 4#8) = true then divV o w a b else
  if (o == 5#8) = true then divV o w a b else
  if (o == 6#8) = true then divV o w a b else
  if (o == 7#8) = true then divV o w a b else
  if (o == 8#8) = true then a &&& b else
  if (o == 9#8) = true then a ||| b else
  if (o == 10#8) = true then a ^^^ b else
  if (o == 11#8) = true then movV o w a (b % BitVec.ofInt 64 w) else
  if (o == 12#8) = true then movV o w a (b % BitVec.ofInt 64 w) else
  if (o == 13#8) = true then movV o w a (b % BitVec.ofInt 64 w) else
  if (o == 14#8) = true then movV o w a (b % BitVec.ofInt 64 w) else
  if (o == 15#8) = true then movV o w a (b % BitVec.ofInt 64 w) else
  if (o == 16#8) = true then satV o w a b else
  if (o == 17#8) = true then satV o w a b else
  if (o == 18#8) = true then satV o w a b else
  if (o == 19#8) = true then satV o w a b else
  if (o == 20#8) = true then (if a < b then a else b) else
  if (o == 21#8) = true then (if a < b then b else a) else
  if (o == 22#8) = true then (if sgnF w a < sgnF w b then a else b) else
  if (o == 23#8) = true then (if sgnF w a < sgnF w b then b else a) else
  if (o == 24#8) = true then avgV a b else
  if (o == 25#8) = true then (if (w == 16) = true then q15V a b else 0#64) else
  0#64
def twoE (o : BitVec 8) (w : Int) (a b : BitVec 64) : Int :=
  if (o == 1#8) = true then 0 else
  if (o == 2#8) = true then 0 else
  if (o == 3#8) = true then 0 else
  if (o == 4#8) = true then divE o w a b else
  if (o == 5#8) = true then divE o w a b else
  if (o == 6#8) = true then divE o w a b else
  if (o == 7#8) = true then divE o w a b else
  if (o == 8#8) = true then 0 else
  if (o == 9#8) = true then 0 else
  if (o == 10#8) = true then 0 else
  if (o == 11#8) = true then 0 else
  if (o == 12#8) = true then 0 else
  if (o == 13#8) = true then 0 else
  if (o == 14#8) = true then 0 else
  if (o == 15#8) = true then 0 else
  if (o == 16#8) = true then 0 else
  if (o == 17#8) = true then 0 else
  if (o == 18#8) = true then 0 else
  if (o == 19#8) = true then 0 else
  if (o == 20#8) = true then 0 else
  if (o == 21#8) = true then 0 else
  if (o == 22#8) = true then 0 else
  if (o == 23#8) = true then 0 else
  if (o == 24#8) = true then 0 else
  if (o == 25#8) = true then (if (w == 16) = true then 0 else 2) else
  2
def twoT (o : BitVec 8) (w : Int) (a b : BitVec 64) : Option D :=
  if (o == 1#8) = true then some (.tup [.u64 (a + b &&& maskF w), .i .i64 (0)]) else
  if (o == 2#8) = true then some (.tup [.u64 (a - b &&& maskF w), .i .i64 (0)]) else
  if (o == 3#8) = true then some (.tup [.u64 (a * b &&& maskF w), .i .i64 (0)]) else
  if (o == 4#8) = true then some (.tup [.u64 (divV o w a b), .i .i64 (divE o w a b)]) else
  if (o == 5#8) = true then some (.tup [.u64 (divV o w a b), .i .i64 (divE o w a b)]) else
  if (o == 6#8) = true then some (.tup [.u64 (divV o w a b), .i .i64 (divE o w a b)]) else
  if (o == 7#8) = true then some (.tup [.u64 (divV o w a b), .i .i64 (divE o w a b)]) else
  if (o == 8#8) = true then some (.tup [.u64 (a &&& b), .i .i64 (0)]) else
  if (o == 9#8) = true then some (.tup [.u64 (a ||| b), .i .i64 (0)]) else
  if (o == 10#8) = true then some (.tup [.u64 (a ^^^ b), .i .i64 (0)]) else
  if (o == 11#8) = true then some (.tup [.u64 (movV o w a (b % BitVec.ofInt 64 w)), .i .i64 (0)]) else
  if (o == 12#8) = true then some (.tup [.u64 (movV o w a (b % BitVec.ofInt 64 w)), .i .i64 (0)]) else
  if (o == 13#8) = true then some (.tup [.u64 (movV o w a (b % BitVec.ofInt 64 w)), .i .i64 (0)]) else
  if (o == 14#8) = true then some (.tup [.u64 (movV o w a (b % BitVec.ofInt 64 w)), .i .i64 (0)]) else
  if (o == 15#8) = true then some (.tup [.u64 (movV o w a (b % BitVec.ofInt 64 w)), .i .i64 (0)]) else
  if (o == 16#8) = true then some (.tup [.u64 (satV o w a b), .i .i64 (0)]) else
  if (o == 17#8) = true then some (.tup [.u64 (satV o w a b), .i .i64 (0)]) else
  if (o == 18#8) = true then some (.tup [.u64 (satV o w a b), .i .i64 (0)]) else
  if (o == 19#8) = true then some (.tup [.u64 (satV o w a b), .i .i64 (0)]) else
  if (o == 20#8) = true then some (.tup [.u64 (if a < b then a else b), .i .i64 (0)]) else
  if (o == 21#8) = true then some (.tup [.u64 (if a < b then b else a), .i .i64 (0)]) else
  if (o == 22#8) = true then some (.tup [.u64 (if sgnF w a < sgnF w b then a else b), .i .i64 (0)]) else
  if (o == 23#8) = true then some (.tup [.u64 (if sgnF w a < sgnF w b then b else a), .i .i64 (0)]) else
  if (o == 24#8) = true then some (.tup [.u64 (avgV a b), .i .i64 (0)]) else
  if (o == 25#8) = true then some (.tup [.u64 (if (w == 16) = true then q15V a b else 0#64), .i .i64 (if (w == 16) = true then 0 else 2)]) else
  some (.tup [.u64 0#64, .i .i64 2])
def twoN (o : BitVec 8) (w : Int) (a b : BitVec 64) : BitVec 64 := ifF (mayF w [a, b]) (twoV o w a b)
def twoR (o : BitVec 8) (w : Int) (a b : BitVec 64) : Int := if mayF w [a, b] = true then twoE o w a b else 2
def twoD (o : BitVec 8) (w : Int) (a b : BitVec 64) : D := .tup [.u64 (twoN o w a b), .i .i64 (twoR o w a b)]
theorem twoT_eq (o : BitVec 8) (w : Int) (a b : BitVec 64) : twoT o w a b = some (.tup [.u64 (twoV o w a b), .i .i64 (twoE o w a b)]) := by
  unfold twoT twoV twoE
  generalize (o == 1#8) = c1
  generalize (o == 2#8) = c2
  generalize (o == 3#8) = c3
  generalize (o == 4#8) = c4
  generalize (o == 5#8) = c5
  generalize (o == 6#8) = c6
  generalize (o == 7#8) = c7
  generalize (o == 8#8) = c8
  generalize (o == 9#8) = c9
  generalize (o == 10#8) = c10
  generalize (o == 11#8) = c11
  generalize (o == 12#8) = c12
  generalize (o == 13#8) = c13
  generalize (o == 14#8) = c14
  generalize (o == 15#8) = c15
  generalize (o == 16#8) = c16
  generalize (o == 17#8) = c17
  generalize (o == 18#8) = c18
  generalize (o == 19#8) = c19
  generalize (o == 20#8) = c20
  generalize (o == 21#8) = c21
  generalize (o == 22#8) = c22
  generalize (o == 23#8) = c23
  generalize (o == 24#8) = c24
  generalize (o == 25#8) = c25
  cases c1 with
  | true => rfl
  | false =>
    cases c2 with
    | true => rfl
    | false =>
      cases c3 with
      | true => rfl
      | false =>
        cases c4 with
        | true => rfl
        | false =>
          cases c5 with
          | true => rfl
          | false =>
            cases c6 with
            | true => rfl
            | false =>
              cases c7 with
              | true => rfl
              | false =>
                cases c8 with
                | true => rfl
                | false =>
                  cases c9 with
                  | true => rfl
                  | false =>
                    cases c10 with
                    | true => rfl
                    | false =>
                      cases c11 with
                      | true => rfl
                      | false =>
                        cases c12 with
                        | true => rfl
                        | false =>
                          cases c13 with
                          | true => rfl
                          | false =>
                            cases c14 with
                            | true => rfl
                            | false =>
                              cases c15 with
                              | true => rfl
                              | false =>
                                cases c16 with
                                | true => rfl
                                | false =>
                                  cases c17 with
                                  | true => rfl
                                  | false =>
                                    cases c18 with
                                    | true => rfl
                                    | false =>
                                      cases c19 with
                                      | true => rfl
                                      | false =>
                                        cases c20 with
                                        | true => rfl
                                        | false =>
                                          cases c21 with
                                          | true => rfl
                                          | false =>
                                            cases c22 with
                                            | true => rfl
                                            | false =>
                                              cases c23 with
                                              | true => rfl
                                              | false =>
                                                cases c24 with
                                                | true => rfl
                                                | false =>
                                                  cases c25 with
                                                  | true => rfl
                                                  | false =>
                                                    rfl
theorem min_u (a b : BitVec 64) : (if b < a then b else a) = if a < b then a else b := by
  by_cases h1 : a < b
  · rw [if_pos h1, if_neg (by rw [BitVec.lt_def] at *; omega)]
  · by_cases h2 : b < a
    · rw [if_neg h1, if_pos h2]
    · rw [if_neg h1, if_neg h2]
      exact BitVec.eq_of_toNat_eq (by rw [BitVec.lt_def] at *; omega)
theorem max_u (a b : BitVec 64) : (if a < b then b else a) = if a < b then b else a := rfl
theorem min_s {w : Int} {a b : BitVec 64} (ha : fitF w a = true) (hb : fitF w b = true) : BitVec.ofInt 64 (if sgnF w b < sgnF w a then sgnF w b else sgnF w a) &&& maskF w = if sgnF w a < sgnF w b then a else b := by
  by_cases h1 : sgnF w a < sgnF w b
  · rw [if_pos h1, if_neg (by omega), num_sgn ha]
  · by_cases h2 : sgnF w b < sgnF w a
    · rw [if_neg h1, if_pos h2, num_sgn hb]
    · have e : sgnF w a = sgnF w b := by omega
      rw [if_neg h1, if_neg h2, e, num_sgn hb]
theorem max_s {w : Int} {a b : BitVec 64} (ha : fitF w a = true) (hb : fitF w b = true) : BitVec.ofInt 64 (if sgnF w a < sgnF w b then sgnF w b else sgnF w a) &&& maskF w = if sgnF w a < sgnF w b then b else a := by
  by_cases h1 : sgnF w a < sgnF w b
  · rw [if_pos h1, if_pos h1, num_sgn hb]
  · rw [if_neg h1, if_neg h1, num_sgn ha]
theorem two_end {o : BitVec 8} {w : Int} {a b : BitVec 64} {x : Option D} (h : mayF w [a, b] = true → x = twoT o w a b) : (if (!mayF w [a, b]) = true then some (D.tup [.u64 0#64, .i .i64 2]) else x) = some (twoD o w a b) := by
  unfold twoD twoN twoR
  cases hm : mayF w [a, b]
  · rfl
  · rw [if_neg (by simp), h hm, twoT_eq]
    rfl
theorem twoP_eq (o : BitVec 8) (w : Int) (a b : BitVec 64) : twoP o w a b = some (twoD o w a b) := by
  unfold twoP
  refine two_end fun hm => ?_
  obtain ⟨ha, hb⟩ := may_fit hm
  have hw := (fitF_nat ha).1
  have h0 := ofW_ne hw
  have e15 : (2 : Int) ^ min (BitVec.ofInt 64 15).toNat 64 = 32768 := by decide
  have t1 : (true = true) = True := eq_true rfl
  have t2 : (false = true) = False := eq_false (by decide)
  simp only [ha, hb, hw, h0, Bool.and_self, t1, t2, if_true, if_false, min_u, min_s ha hb, max_s ha hb, e15]
  unfold twoT avgV q15V
  cases hw16 : (w == 16)
  · rfl
  · have e : w = 16 := by simpa using hw16
    subst e
    simp only [ha, hb, if_true]
end Go.Wh
/-!
Whole numbers: sums and products of a width.
-/
namespace Go.Wh
open Go.Ev Go.RowKit

theorem may_of {w : Int} {a b : BitVec 64} (ha : fitF w a = true) (hb : fitF w b = true) : mayF w [a, b] = true := by
  simp only [fitF, Bool.and_eq_true] at ha hb
  simp only [mayF, List.all_cons, List.all_nil, Bool.and_true, ha, hb, Bool.and_self]
theorem twoN_eq {o : BitVec 8} {w : Int} {a b : BitVec 64} (ha : fitF w a = true) (hb : fitF w b = true) : twoN o w a b = twoV o w a b := by
  simp only [twoN, may_of ha hb, ifF, if_true]
theorem two1 {w : Int} {a b : BitVec 64} (ha : fitF w a = true) (hb : fitF w b = true) : twoN 1#8 w a b = a + b &&& maskF w := (twoN_eq ha hb).trans rfl
theorem two2 {w : Int} {a b : BitVec 64} (ha : fitF w a = true) (hb : fitF w b = true) : twoN 2#8 w a b = a - b &&& maskF w := (twoN_eq ha hb).trans rfl
theorem two3 {w : Int} {a b : BitVec 64} (ha : fitF w a = true) (hb : fitF w b = true) : twoN 3#8 w a b = a * b &&& maskF w := (twoN_eq ha hb).trans rfl
theorem pw_dvd {w : Int} (h : okW w = true) : pw w ∣ 18446744073709551616 := by
  rcases okW_cases h with rfl | rfl | rfl | rfl
  · exact ⟨72057594037927936, by decide⟩
  · exact ⟨281474976710656, by decide⟩
  · exact ⟨4294967296, by decide⟩
  · exact ⟨1, by decide⟩
theorem add_int (x y : BitVec 64) : ((x + y).toNat : Int) = ((x.toNat : Int) + y.toNat) % 18446744073709551616 := by
  rw [BitVec.toNat_add]; omega
theorem mul_int (x y : BitVec 64) : ((x * y).toNat : Int) = ((x.toNat : Int) * y.toNat) % 18446744073709551616 := by
  rw [BitVec.toNat_mul]; simp
theorem sub_int (x y : BitVec 64) : ((x - y).toNat : Int) = ((x.toNat : Int) - y.toNat) % 18446744073709551616 := by
  rw [BitVec.toNat_sub]
  have := x.isLt
  have := y.isLt
  omega
theorem and_add_l {w : Int} (h : okW w = true) (x y : BitVec 64) : (x &&& maskF w) + y &&& maskF w = x + y &&& maskF w := by
  refine eq_nat ?_
  rw [and_nat h, and_nat h, add_int, add_int, and_nat h, Int.emod_emod_of_dvd _ (pw_dvd h), Int.emod_emod_of_dvd _ (pw_dvd h), Int.emod_add_emod]
theorem and_add_r {w : Int} (h : okW w = true) (x y : BitVec 64) : x + (y &&& maskF w) &&& maskF w = x + y &&& maskF w := by
  rw [BitVec.add_comm, and_add_l h, BitVec.add_comm]
theorem and_mul_l {w : Int} (h : okW w = true) (x y : BitVec 64) : (x &&& maskF w) * y &&& maskF w = x * y &&& maskF w := by
  refine eq_nat ?_
  rw [and_nat h, and_nat h, mul_int, mul_int, and_nat h, Int.emod_emod_of_dvd _ (pw_dvd h), Int.emod_emod_of_dvd _ (pw_dvd h), Int.mul_emod, Int.emod_emod, ← Int.mul_emod]
theorem and_mul_r {w : Int} (h : okW w = true) (x y : BitVec 64) : x * (y &&& maskF w) &&& maskF w = x * y &&& maskF w := by
  rw [BitVec.mul_comm, and_mul_l h, BitVec.mul_comm]
theorem and_sub_l {w : Int} (h : okW w = true) (x y : BitVec 64) : (x &&& maskF w) - y &&& maskF w = x - y &&& maskF w := by
  refine eq_nat ?_
  rw [and_nat h, and_nat h, sub_int, sub_int, and_nat h, Int.emod_emod_of_dvd _ (pw_dvd h), Int.emod_emod_of_dvd _ (pw_dvd h), Int.emod_sub_emod]
theorem fit_id {w : Int} {a : BitVec 64} (h : fitF w a = true) : a &&& maskF w = a := by
  simp only [fitF, Bool.and_eq_true, decide_eq_true_eq] at h
  exact and_fit h.1 h.2
def T : Option D := some (.bool true)
def F : Option D := some (.bool false)
def ringG (N : BitVec 8 → Int → BitVec 64 → BitVec 64 → BitVec 64) (w : Int) (a b c : BitVec 64) : Option D :=
  if (!(N 1#8 w a b == N 1#8 w b a)) = false then
    if (!(N 3#8 w a b == N 3#8 w b a)) = false then
      if (!(N 2#8 w (N 1#8 w a b) b == a)) = true then F else
      if (!(N 1#8 w (N 1#8 w a b) c == N 1#8 w a (N 1#8 w b c))) = false then
        if (!(N 3#8 w (N 3#8 w a b) c == N 3#8 w a (N 3#8 w b c))) = true then F else
        if (N 3#8 w c (N 1#8 w a b) == N 1#8 w (N 3#8 w c a) (N 3#8 w c b)) = true then T else F
      else F
    else F
  else F
theorem ring_end {w : Int} {a b c : BitVec 64} (ha : fitF w a = true) (hb : fitF w b = true) (hc : fitF w c = true) : ringG twoN w a b c = T := by
  have h := (fitF_nat ha).1
  have f : ∀ x, fitF w (x &&& maskF w) = true := fit_and h
  unfold ringG
  simp only [two1, two2, two3, ha, hb, hc, f, and_add_l h, and_add_r h, and_mul_l h, and_mul_r h, and_sub_l h]
  have e1 : a + b - b &&& maskF w = a := by rw [BitVec.add_sub_cancel, fit_id ha]
  have e2 : a + b + c = a + (b + c) := BitVec.add_assoc _ _ _
  have e3 : a * b * c = a * (b * c) := BitVec.mul_assoc _ _ _
  have e4 : c * (a + b) = c * a + c * b := BitVec.mul_add
  rw [e1, e2, e3, e4, BitVec.add_comm a b, BitVec.mul_comm a b]
  simp
end Go.Wh
/-!
Whole numbers: quotients and moves fit together.
-/
namespace Go.Wh
open Go.Ev Go.RowKit

def dividesT (N : BitVec 8 → Int → BitVec 64 → BitVec 64 → BitVec 64) (R : BitVec 8 → Int → BitVec 64 → BitVec 64 → Int) (w : Int) (A B M : BitVec 64) : Option D :=
  if (!(B == 0#64) == (R (4#8) w A B == 6)) = false then if (!R (4#8) w A B == R (5#8) w A B) = false then if (R (4#8) w A B == 0) = true then if (!N (1#8) w (N (3#8) w (N (4#8) w A B) B) (N (5#8) w A B) == A) = false then if decide (B ≤ N (BitVec.ofInt 8 5) w A B) = true then some (D.bool false) else if (!(R (7#8) w A B == 6) == (B == 0#64)) = false then if (R (6#8) w A B == 6) = true then if (!B == 0#64) = true then if (!B == M) = false then if (!A == 1#64 <<< (BitVec.ofInt 64 (IntKind.i64.wrap (w - 1))).toNat) = false then if (!N (7#8) w A B == 0#64) = true then some (D.bool false) else if (!R (6#8) w A B == 0) = false then if (N (1#8) w (N (3#8) w (N (6#8) w A B) B) (N (7#8) w A B) == A) = true then some (D.bool true) else some (D.bool false) else some (D.bool true) else some (D.bool false) else some (D.bool false) else if (!R (6#8) w A B == 0) = false then if (N (1#8) w (N (3#8) w (N (6#8) w A B) B) (N (7#8) w A B) == A) = true then some (D.bool true) else some (D.bool false) else some (D.bool true) else if (!R (6#8) w A B == 0) = false then if (N (1#8) w (N (3#8) w (N (6#8) w A B) B) (N (7#8) w A B) == A) = true then some (D.bool true) else some (D.bool false) else some (D.bool true) else some (D.bool false) else some (D.bool false) else if (!(R (7#8) w A B == 6) == (B == 0#64)) = false then if (R (6#8) w A B == 6) = true then if (!B == 0#64) = true then if (!B == M) = false then if (!A == 1#64 <<< (BitVec.ofInt 64 (IntKind.i64.wrap (w - 1))).toNat) = false then if (!N (7#8) w A B == 0#64) = true then some (D.bool false) else if (!R (6#8) w A B == 0) = false then if (N (1#8) w (N (3#8) w (N (6#8) w A B) B) (N (7#8) w A B) == A) = true then some (D.bool true) else some (D.bool false) else some (D.bool true) else some (D.bool false) else some (D.bool false) else if (!R (6#8) w A B == 0) = false then if (N (1#8) w (N (3#8) w (N (6#8) w A B) B) (N (7#8) w A B) == A) = true then some (D.bool true) else some (D.bool false) else some (D.bool true) else if (!R (6#8) w A B == 0) = false then if (N (1#8) w (N (3#8) w (N (6#8) w A B) B) (N (7#8) w A B) == A) = true then some (D.bool true) else some (D.bool false) else some (D.bool true) else some (D.bool false) else some (D.bool false) else some (D.bool false)
def turnsT (N : BitVec 8 → Int → BitVec 64 → BitVec 64 → BitVec 64) (w : Int) (A B : BitVec 64) : Option D :=
  if BitVec.ofInt 64 w = 0#64 then none else if (N (15#8) w (N (14#8) w A B) B == A) = true then if (N (14#8) w A B == N (14#8) w A (B % BitVec.ofInt 64 w)) = true then if (N (3#8) w A (1#64 <<< (B % BitVec.ofInt 64 w).toNat) == N (11#8) w A B) = true then some (D.bool true) else some (D.bool false) else some (D.bool false) else some (D.bool false)

theorem two_divR {o : BitVec 8} {w : Int} {a b : BitVec 64} (ha : fitF w a = true) (hb : fitF w b = true) (ho : o = 4#8 ∨ o = 5#8 ∨ o = 6#8 ∨ o = 7#8) : twoR o w a b = divE o w a b := by
  rcases ho with rfl | rfl | rfl | rfl <;> simp only [twoR, may_of ha hb, if_true] <;> rfl
theorem two_divN {o : BitVec 8} {w : Int} {a b : BitVec 64} (ha : fitF w a = true) (hb : fitF w b = true) (ho : o = 4#8 ∨ o = 5#8 ∨ o = 6#8 ∨ o = 7#8) : twoN o w a b = divV o w a b := by
  rcases ho with rfl | rfl | rfl | rfl <;> exact (twoN_eq ha hb).trans rfl
theorem fit_le {w : Int} {a b : BitVec 64} (hb : fitF w b = true) (h : a.toNat ≤ b.toNat) : fitF w a = true := by
  obtain ⟨hw, h1⟩ := fitF_nat hb
  exact fit_of_nat hw (by omega)
theorem div_u {w : Int} {a b : BitVec 64} (ha : fitF w a = true) (h0 : ¬ b = 0#64) : ((a / b) * b &&& maskF w) + a % b &&& maskF w = a := by
  have hw := (fitF_nat ha).1
  rw [and_add_l hw]
  have e : (a / b) * b + a % b = a := by
    apply BitVec.eq_of_toNat_eq
    have h1 := Nat.div_add_mod a.toNat b.toNat
    have h2 : a.toNat / b.toNat * b.toNat ≤ a.toNat := Nat.div_mul_le_self _ _
    have := a.isLt
    rw [BitVec.toNat_add, BitVec.toNat_mul, BitVec.toNat_udiv, BitVec.toNat_umod]
    rw [Nat.mod_eq_of_lt (by omega : a.toNat / b.toNat * b.toNat < 2 ^ 64)]
    rw [Nat.mul_comm] at h1
    rw [h1, Nat.mod_eq_of_lt this]
  rw [e, fit_id ha]
theorem ofInt_wrap (n : Int) : BitVec.ofInt 64 (IntKind.i64.wrap n) = BitVec.ofInt 64 n := by
  apply BitVec.eq_of_toNat_eq
  rw [BitVec.toNat_ofInt, BitVec.toNat_ofInt, wrap64]
  have e : (((2 ^ 64 : Nat)) : Int) = 18446744073709551616 := by decide
  rw [e]
  split <;> omega
theorem and_mul_l' {w : Int} (h : okW w = true) (x y z : BitVec 64) : (x &&& maskF w) * y + z &&& maskF w = x * y + z &&& maskF w := by
  rw [← and_add_l h, and_mul_l h, and_add_l h]
theorem div_s {w : Int} {a b : BitVec 64} (ha : fitF w a = true) (hb : fitF w b = true) : ((BitVec.ofInt 64 (IntKind.i64.wrap ((sgnF w a).tdiv (sgnF w b))) &&& maskF w) * b &&& maskF w) + (BitVec.ofInt 64 ((sgnF w a).tmod (sgnF w b)) &&& maskF w) &&& maskF w = a := by
  have hw := (fitF_nat ha).1
  rw [and_add_l hw, and_add_r hw, and_mul_l' hw, ofInt_wrap]
  have e : BitVec.ofInt 64 ((sgnF w a).tdiv (sgnF w b)) * b + BitVec.ofInt 64 ((sgnF w a).tmod (sgnF w b)) &&& maskF w = BitVec.ofInt 64 ((sgnF w a).tdiv (sgnF w b)) * BitVec.ofInt 64 (sgnF w b) + BitVec.ofInt 64 ((sgnF w a).tmod (sgnF w b)) &&& maskF w := by
    rw [← and_add_l hw, ← and_mul_r hw]
    conv => rhs; rw [← and_add_l hw, ← and_mul_r hw]
    rw [num_sgn hb, fit_id hb]
  rw [e, ← BitVec.ofInt_mul, ← BitVec.ofInt_add, Int.mul_comm, Int.mul_tdiv_add_tmod, num_sgn ha]

theorem divides_end {w : Int} {A B : BitVec 64} (hA : fitF w A = true) (hB : fitF w B = true) : dividesT twoN twoR w A B (18446744073709551615#64 &&& maskF w) = T := by
  have hw := (fitF_nat hA).1
  unfold dividesT
  have o4 : twoR 4#8 w A B = if B = 0#64 then 6 else 0 := by rw [two_divR hA hB (by simp)]; simp [divE]
  have o5 : twoR 5#8 w A B = if B = 0#64 then 6 else 0 := by rw [two_divR hA hB (by simp)]; simp [divE]
  have o7 : twoR 7#8 w A B = if B = 0#64 then 6 else 0 := by rw [two_divR hA hB (by simp)]; simp [divE]
  have o6 : twoR 6#8 w A B = divE 6#8 w A B := two_divR hA hB (by simp)
  have e5 : BitVec.ofInt 8 5 = 5#8 := rfl
  have n4 := two_divN (o := 4#8) hA hB (by simp)
  have n5 := two_divN (o := 5#8) hA hB (by simp)
  have n6 := two_divN (o := 6#8) hA hB (by simp)
  have n7 := two_divN (o := 7#8) hA hB (by simp)
  by_cases h0 : B = 0#64
  · subst h0
    have d6 : divE 6#8 w A 0#64 = 6 := by simp [divE]
    rw [o4, o5, o7, o6, d6]
    simp [T]
  · have d4 : divV 4#8 w A B = A / B := by simp [divV, h0]
    have d5 : divV 5#8 w A B = A % B := by simp [divV, h0]
    have d7 : divV 7#8 w A B = BitVec.ofInt 64 ((sgnF w A).tmod (sgnF w B)) &&& maskF w := by simp [divV, h0]
    have f4 : fitF w (A / B) = true := fit_le hA (by rw [BitVec.toNat_udiv]; exact Nat.div_le_self _ _)
    have f5 : fitF w (A % B) = true := fit_le hA (by rw [BitVec.toNat_umod]; exact Nat.mod_le _ _)
    have f := fit_and hw
    have lt : ¬ B ≤ A % B := by
      rw [BitVec.le_def, BitVec.toNat_umod]
      have : B.toNat ≠ 0 := fun e => h0 (BitVec.eq_of_toNat_eq (by simpa using e))
      have := Nat.mod_lt A.toNat (by omega : B.toNat > 0)
      omega
    have u : twoN 1#8 w (twoN 3#8 w (twoN 4#8 w A B) B) (twoN 5#8 w A B) = A := by
      rw [n4, n5, d4, d5, two3 f4 hB, two1 (f _) f5, div_u hA h0]
    rw [n5, d5] at u
    have b0 : (B == 0#64) = false := by simpa using h0
    by_cases hx : sgnF w A = -(pw w / 2) ∧ sgnF w B = -1
    · have d6 : divE 6#8 w A B = 6 := by simp [divE, hx]
      have eB : B = 18446744073709551615#64 &&& maskF w := by
        rw [← num_sgn hB, hx.2]; rfl
      have eA : A = 1#64 <<< (BitVec.ofInt 64 (IntKind.i64.wrap (w - 1))).toNat := by
        rw [← num_sgn hA, hx.1]
        rcases okW_cases hw with rfl | rfl | rfl | rfl <;> decide
      have e7 : twoN 7#8 w A B = 0#64 := by
        rw [n7, d7, hx.2, Int.tmod_neg, Int.tmod_one]
        simp
      have bB : (B == 18446744073709551615#64 &&& maskF w) = true := by rw [← eB]; simp
      have bA : (A == 1#64 <<< (BitVec.ofInt 64 (IntKind.i64.wrap (w - 1))).toNat) = true := by rw [← eA]; simp
      simp only [o4, o5, o7, o6, d6, h0, b0, u, e5, n5, d5, lt, e7, bB, bA, if_false, if_true]
      simp [T]
    · have d6 : divE 6#8 w A B = 0 := by simp [divE, h0]; exact fun h1 h2 => hx ⟨h1, h2⟩
      have v6 : divV 6#8 w A B = BitVec.ofInt 64 (IntKind.i64.wrap ((sgnF w A).tdiv (sgnF w B))) &&& maskF w := by
        have : ¬ (sgnF w A = -(pw w / 2) ∧ sgnF w B = -1) := hx
        simp only [divV, h0, this]
        simp
      have s : twoN 1#8 w (twoN 3#8 w (twoN 6#8 w A B) B) (twoN 7#8 w A B) = A := by
        rw [n6, n7, v6, d7, two3 (f _) hB, two1 (f _) (f _), div_s hA hB]
      simp only [o4, o5, o7, o6, d6, h0, b0, u, e5, n5, d5, lt, s, if_false, if_true]
      simp [T]

/-! turns -/
theorem fit_bit {w : Int} {a : BitVec 64} (h : fitF w a = true) {j : Nat} (hj : w ≤ j) : a.getLsbD j = false := by
  obtain ⟨hw, ha⟩ := fitF_nat h
  have h2 : a.toNat < 2 ^ j := by
    have e : pw w ≤ ((2 ^ j : Nat) : Int) := by
      have key : ∀ k : Nat, pw w = ((2 ^ k : Nat) : Int) → w = k → pw w ≤ ((2 ^ j : Nat) : Int) := fun k h1 h2 => by
        rw [h1]
        have : 2 ^ k ≤ 2 ^ j := Nat.pow_le_pow_right (by decide) (by omega)
        omega
      rcases okW_cases hw with rfl | rfl | rfl | rfl
      · exact key 8 rfl rfl
      · exact key 16 rfl rfl
      · exact key 32 rfl rfl
      · exact key 64 rfl rfl
    omega
  rw [BitVec.getLsbD, Nat.testBit_lt_two_pow h2]
theorem mask_bit {w : Int} (h : okW w = true) (j : Nat) : (maskF w).getLsbD j = decide ((j : Int) < w) := by
  have key : ∀ k : Nat, k ≤ 64 → maskF w = 18446744073709551615#64 >>> (64 - k) → w = k → (maskF w).getLsbD j = decide ((j : Int) < w) := fun k h0 h1 h2 => by
    have e : (18446744073709551615#64) = BitVec.allOnes 64 := by decide
    rw [h1, e, BitVec.getLsbD_ushiftRight, BitVec.getLsbD_allOnes, h2]
    rw [Bool.eq_iff_iff, decide_eq_true_eq, decide_eq_true_eq]
    omega
  rcases okW_cases h with rfl | rfl | rfl | rfl
  · exact key 8 (by decide) (by decide) rfl
  · exact key 16 (by decide) (by decide) rfl
  · exact key 32 (by decide) (by decide) rfl
  · exact key 64 (by decide) (by decide) rfl
/-- Turned up by n. -/
def rotF (w : Int) (a : BitVec 64) (n : Nat) : BitVec 64 := (a <<< n ||| a >>> (w.toNat - n)) &&& maskF w
theorem rot_bit {w : Int} {a : BitVec 64} (h : fitF w a = true) {n j : Nat} (hn : (n : Int) < w) (hj : (j : Int) < w) : (rotF w a n).getLsbD j = a.getLsbD ((j + (w.toNat - n)) % w.toNat) := by
  have hw := (fitF_nat h).1
  have h64 : w ≤ 64 := by rcases okW_cases hw with rfl | rfl | rfl | rfl <;> omega
  have h8 : 8 ≤ w := by rcases okW_cases hw with rfl | rfl | rfl | rfl <;> omega
  unfold rotF
  rw [BitVec.getLsbD_and, mask_bit hw, decide_eq_true hj, Bool.and_true, BitVec.getLsbD_or, BitVec.getLsbD_shiftLeft, BitVec.getLsbD_ushiftRight]
  by_cases h1 : j < n
  · have e : (j + (w.toNat - n)) % w.toNat = w.toNat - n + j := by rw [Nat.mod_eq_of_lt (by omega)]; omega
    rw [e]
    simp [h1]
  · have e : (j + (w.toNat - n)) % w.toNat = j - n := by
      have : j + (w.toNat - n) = (j - n) + w.toNat := by omega
      rw [this, Nat.add_mod_right, Nat.mod_eq_of_lt (by omega)]
    rw [e, fit_bit h (j := w.toNat - n + j) (by omega)]
    simp [h1]
    omega
theorem rot_fit {w : Int} (h : okW w = true) (a : BitVec 64) (n : Nat) : fitF w (rotF w a n) = true := fit_and h _
theorem bits_eq {w : Int} {a b : BitVec 64} (ha : fitF w a = true) (hb : fitF w b = true) (h : ∀ j : Nat, (j : Int) < w → a.getLsbD j = b.getLsbD j) : a = b := by
  apply BitVec.eq_of_getLsbD_eq
  intro j _
  rcases (show (j : Int) < w ∨ w ≤ (j : Int) by omega) with hj | hj
  · exact h j hj
  · rw [fit_bit ha hj, fit_bit hb hj]
theorem rot_rot {w : Int} {a : BitVec 64} (h : fitF w a = true) {n : Nat} (hn : (n : Int) < w) : rotF w (rotF w a n) ((w.toNat - n) % w.toNat) = a := by
  have hw := (fitF_nat h).1
  have h8 : 8 ≤ w := by rcases okW_cases hw with rfl | rfl | rfl | rfl <;> omega
  refine bits_eq (rot_fit hw _ _) h fun j hj => ?_
  have hm := Nat.mod_lt (w.toNat - n) (by omega : w.toNat > 0)
  rw [rot_bit (rot_fit hw _ _) (by omega) hj]
  have hm2 := Nat.mod_lt (j + (w.toNat - (w.toNat - n) % w.toNat)) (by omega : w.toNat > 0)
  rw [rot_bit h hn (by omega)]
  congr 1
  rw [Nat.mod_add_mod]
  rcases Nat.eq_zero_or_pos n with rfl | h0
  · have e : (w.toNat - 0) % w.toNat = 0 := by simp
    rw [e, Nat.sub_zero, Nat.add_assoc, Nat.add_mod, Nat.add_mod_right, Nat.mod_self, Nat.add_zero, Nat.mod_mod, Nat.mod_eq_of_lt (by omega)]
  · have e : (w.toNat - n) % w.toNat = w.toNat - n := Nat.mod_eq_of_lt (by omega)
    rw [e]
    have e2 : j + (w.toNat - (w.toNat - n)) + (w.toNat - n) = j + w.toNat := by omega
    rw [e2, Nat.add_mod_right, Nat.mod_eq_of_lt (by omega)]
theorem ofW_nat {w : Int} (h : okW w = true) : (BitVec.ofInt 64 w).toNat = w.toNat := by
  rcases okW_cases h with rfl | rfl | rfl | rfl <;> decide
theorem mov14 {w : Int} {a n : BitVec 64} (hw : okW w = true) (hn : n.toNat < w.toNat) : movV 14#8 w a n = rotF w a n.toNat := by
  have h64 : w ≤ 64 := by rcases okW_cases hw with rfl | rfl | rfl | rfl <;> omega
  have e : (BitVec.ofInt 64 w - n).toNat = w.toNat - n.toNat := by
    rw [BitVec.toNat_sub, ofW_nat hw]
    have := n.isLt
    omega
  have e2 : movV 14#8 w a n = (a <<< n.toNat ||| a >>> (BitVec.ofInt 64 w - n).toNat) &&& maskF w := by simp [movV]
  rw [e2, e]; rfl
theorem mov15 {w : Int} {a n : BitVec 64} (hw : okW w = true) (hn : n.toNat < w.toNat) : movV 15#8 w a n = rotF w a ((w.toNat - n.toNat) % w.toNat) := by
  have h64 : w ≤ 64 := by rcases okW_cases hw with rfl | rfl | rfl | rfl <;> omega
  have h8 : 8 ≤ w := by rcases okW_cases hw with rfl | rfl | rfl | rfl <;> omega
  have e : (BitVec.ofInt 64 w - n).toNat = w.toNat - n.toNat := by
    rw [BitVec.toNat_sub, ofW_nat hw]
    have := n.isLt
    omega
  have hm := Nat.mod_lt (w.toNat - n.toNat) (by omega : w.toNat > 0)
  have e1 : ((BitVec.ofInt 64 w - n) % BitVec.ofInt 64 w).toNat = (w.toNat - n.toNat) % w.toNat := by rw [BitVec.toNat_umod, e, ofW_nat hw]
  have e2 : (BitVec.ofInt 64 w - (BitVec.ofInt 64 w - n) % BitVec.ofInt 64 w).toNat = w.toNat - (w.toNat - n.toNat) % w.toNat := by
    rw [BitVec.toNat_sub, e1, ofW_nat hw]
    omega
  have e3 : movV 15#8 w a n = (a <<< ((BitVec.ofInt 64 w - n) % BitVec.ofInt 64 w).toNat ||| a >>> (BitVec.ofInt 64 w - (BitVec.ofInt 64 w - n) % BitVec.ofInt 64 w).toNat) &&& maskF w := by simp [movV]
  rw [e3, e1, e2]; rfl
theorem modW {w : Int} (hw : okW w = true) (b : BitVec 64) : (b % BitVec.ofInt 64 w).toNat < w.toNat := by
  rw [BitVec.toNat_umod, ofW_nat hw]
  exact Nat.mod_lt _ (by rcases okW_cases hw with rfl | rfl | rfl | rfl <;> decide)
theorem fit_small {w : Int} (hw : okW w = true) {x : BitVec 64} (h : x.toNat < w.toNat) : fitF w x = true := by
  refine fit_of_nat hw ?_
  rcases okW_cases hw with rfl | rfl | rfl | rfl
  · rw [pw8]; simp at h; omega
  · rw [pw16]; simp at h; omega
  · rw [pw32]; simp at h; omega
  · rw [pw64]; simp at h; omega
theorem fit_one {w : Int} (hw : okW w = true) {k : Nat} (h : k < w.toNat) : fitF w (1#64 <<< k) = true := by
  refine fit_of_nat hw ?_
  have h64 : w ≤ 64 := by rcases okW_cases hw with rfl | rfl | rfl | rfl <;> omega
  have key : ∀ m : Nat, pw w = ((2 ^ m : Nat) : Int) → w = m → (((1#64 <<< k).toNat : Nat) : Int) < pw w := fun m h1 h2 => by
    rw [h1, BitVec.toNat_shiftLeft, Nat.shiftLeft_eq]
    have h3 : 2 ^ k < 2 ^ m := Nat.pow_lt_pow_right (by decide) (by omega)
    have h4 : (1#64).toNat = 1 := rfl
    have h5 : 1 * 2 ^ k % 2 ^ 64 ≤ 1 * 2 ^ k := Nat.mod_le _ _
    rw [h4]
    omega
  rcases okW_cases hw with rfl | rfl | rfl | rfl
  · exact key 8 rfl rfl
  · exact key 16 rfl rfl
  · exact key 32 rfl rfl
  · exact key 64 rfl rfl
theorem mul_one_shift (a : BitVec 64) (k : Nat) : a * 1#64 <<< k = a <<< k := by
  apply BitVec.eq_of_toNat_eq
  rw [BitVec.toNat_mul, BitVec.toNat_shiftLeft, BitVec.toNat_shiftLeft, Nat.shiftLeft_eq, Nat.shiftLeft_eq]
  have h4 : (1#64).toNat = 1 := rfl
  rw [h4, Nat.one_mul, Nat.mul_mod, Nat.mod_mod, ← Nat.mul_mod]
theorem turns_end {w : Int} {A B : BitVec 64} (hA : fitF w A = true) (hB : fitF w B = true) : turnsT twoN w A B = T := by
  have hw := (fitF_nat hA).1
  unfold turnsT
  have hk := modW hw B
  have hkk : (B % BitVec.ofInt 64 w) % BitVec.ofInt 64 w = B % BitVec.ofInt 64 w := by
    apply BitVec.eq_of_toNat_eq
    rw [BitVec.toNat_umod, Nat.mod_eq_of_lt (by rw [ofW_nat hw]; exact hk)]
  have fk := fit_small hw hk
  have t14 : twoN 14#8 w A B = rotF w A (B % BitVec.ofInt 64 w).toNat := ((twoN_eq hA hB).trans (show _ = movV 14#8 w A (B % BitVec.ofInt 64 w) from rfl)).trans (mov14 hw hk)
  have t14' : twoN 14#8 w A (B % BitVec.ofInt 64 w) = rotF w A (B % BitVec.ofInt 64 w).toNat := by
    refine ((twoN_eq hA fk).trans (show _ = movV 14#8 w A ((B % BitVec.ofInt 64 w) % BitVec.ofInt 64 w) from rfl)).trans ?_
    rw [hkk, mov14 hw hk]
  have t15 : twoN 15#8 w (rotF w A (B % BitVec.ofInt 64 w).toNat) B = A := by
    refine ((twoN_eq (rot_fit hw _ _) hB).trans (show _ = movV 15#8 w (rotF w A (B % BitVec.ofInt 64 w).toNat) (B % BitVec.ofInt 64 w) from rfl)).trans ?_
    rw [mov15 hw hk, rot_rot hA (by omega)]
  have t11 : twoN 11#8 w A B = A <<< (B % BitVec.ofInt 64 w).toNat &&& maskF w := ((twoN_eq hA hB).trans (show _ = movV 11#8 w A (B % BitVec.ofInt 64 w) from rfl)).trans (by simp [movV])
  have t3 : twoN 3#8 w A (1#64 <<< (B % BitVec.ofInt 64 w).toNat) = A <<< (B % BitVec.ofInt 64 w).toNat &&& maskF w := by
    rw [two3 hA (fit_one hw hk), mul_one_shift]
  rw [if_neg (ofW_ne hw), t14, t14', t15, t11, t3]
  simp [T]
end Go.Wh
