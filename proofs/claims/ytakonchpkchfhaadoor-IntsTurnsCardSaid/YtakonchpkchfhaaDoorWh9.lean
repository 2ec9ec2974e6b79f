/-
  Part of the proof; what its functions and lemmas say stands in the text.
-/
import Derived.Test.YtakonchpkchfhaaDoorWh8
set_option linter.unusedSimpArgs false
set_option linter.unusedVariables false
/-!
Whole numbers: the operators of two.
-/
namespace Go.Wh
open Go.Ev Go.RowKit

def q15V (a b : BitVec 64) : BitVec 64 := heldF 16 (IntKind.i64.wrap (IntKind.i64.wrap (sgnF 16 a * sgnF 16 b) + 16384) / 32768) (-32768) 32767
def twoP (o : BitVec 8) (w : Int) (a b : BitVec 64) : Option D :=
  if (!mayF w [a, b]) = true then some (D.tup [D.u64 0#64, D.i IntKind.i64 2])
  else
    if (o == 1#8) = true then if okW w = true then some (D.tup [D.u64 (a + b &&& maskF w), D.i IntKind.i64 0]) else none
    else
      if (o == 2#8) = true then if okW w = true then some (D.tup [D.u64 (a - b &&& maskF w), D.i IntKind.i64 0]) else none
      else
        if (o == 3#8) = true then
          if okW w = true then some (D.tup [D.u64 (a * b &&& maskF w), D.i IntKind.i64 0]) else none
        else
          if (o == 4#8) = true then
            if (fitF w a && fitF w b) = true then some (D.tup [D.u64 (divV o w a b), D.i IntKind.i64 (divE o w a b)])
            else none
          else
            if (o == 5#8) = true then
              if (fitF w a && fitF w b) = true then some (D.tup [D.u64 (divV o w a b), D.i IntKind.i64 (divE o w a b)])
              else none
            else
              if (o == 6#8) = true then
                if (fitF w a && fitF w b) = true then some (D.tup [D.u64 (divV o w a b), D.i IntKind.i64 (divE o w a b)])
                else none
              else
                if (o == 7#8) = true then
                  if (fitF w a && fitF w b) = true then
                    some (D.tup [D.u64 (divV o w a b), D.i IntKind.i64 (divE o w a b)])
                  else none
                else
                  if (o == 8#8) = true then some (D.tup [D.u64 (a &&& b), D.i IntKind.i64 0])
                  else
                    if (o == 9#8) = true then some (D.tup [D.u64 (a ||| b), D.i IntKind.i64 0])
                    else
                      if (o == 10#8) = true then some (D.tup [D.u64 (a ^^^ b), D.i IntKind.i64 0])
                      else
                        if (o == 11#8) = true then
                          if BitVec.ofInt 64 w = 0#64 then none
                          else
                            if fitF w a = true then
                              some (D.tup [D.u64 (movV o w a (b % BitVec.ofInt 64 w)), D.i IntKind.i64 0])
                            else none
                        else
                          if (o == 12#8) = true then
                            if BitVec.ofInt 64 w = 0#64 then none
                            else
                              if fitF w a = true then
                                some (D.tup [D.u64 (movV o w a (b % BitVec.ofInt 64 w)), D.i IntKind.i64 0])
                              else none
                          else
                            if (o == 13#8) = true then
                              if BitVec.ofInt 64 w = 0#64 then none
                              else
                                if fitF w a = true then
                                  some (D.tup [D.u64 (movV o w a (b % BitVec.ofInt 64 w)), D.i IntKind.i64 0])
                                else none
                            else
                              if (o == 14#8) = true then
                                if BitVec.ofInt 64 w = 0#64 then none
                                else
                                  if fitF w a = true then
                                    some (D.tup [D.u64 (movV o w a (b % BitVec.ofInt 64 w)), D.i IntKind.i64 0])
                                  else none
                              else
                                if (o == 15#8) = true then
                                  if BitVec.ofInt 64 w = 0#64 then none
                                  else
                                    if fitF w a = true then
                                      some (D.tup [D.u64 (movV o w a (b % BitVec.ofInt 64 w)), D.i IntKind.i64 0])
                                    else none
                                else
                                  if (o == 16#8) = true then
                                    if (fitF w a && fitF w b) = true then
                                      some (D.tup [D.u64 (satV o w a b), D.i IntKind.i64 0])
                                    else none
                                  else
                                    if (o == 17#8) = true then
                                      if (fitF w a && fitF w b) = true then
                                        some (D.tup [D.u64 (satV o w a b), D.i IntKind.i64 0])
                                      else none
                                    else
                                      if (o == 18#8) = true then
                                        if (fitF w a && fitF w b) = true then
                                          some (D.tup [D.u64 (satV o w a b), D.i IntKind.i64 0])
                                        else none
                                      else
                                        if (o == 19#8) = true then
                                          if (fitF w a && fitF w b) = true then
                                            some (D.tup [D.u64 (satV o w a b), D.i IntKind.i64 0])
                                          else none
                                        else
                                          if (o == 20#8) = true then
                                            some
                                              (D.tup
                                                [D.u64
                                                    (if true = true then if b < a then b else a
                                                    else if a < b then b else a),
                                                  D.i IntKind.i64 0])
                                          else
                                            if (o == 21#8) = true then
                                              some
                                                (D.tup
                                                  [D.u64
                                                      (if false = true then if b < a then b else a
                                                      else if a < b then b else a),
                                                    D.i IntKind.i64 0])
                                            else
                                              if (o == 22#8) = true then
                                                if fitF w a = true then
                                                  if fitF w b = true then
                                                    if okW w = true then
                                                      some
                                                        (D.tup
                                                          [D.u64
                                                              (BitVec.ofInt 64
                                                                  (if true = true then
                                                                    if sgnF w b < sgnF w a then sgnF w b else sgnF w a
                                                                  else
                                                                    if sgnF w a < sgnF w b then sgnF w b
                                                                    else sgnF w a) &&&
                                                                maskF w),
                                                            D.i IntKind.i64 0])
                                                    else none
                                                  else none
                                                else none
                                              else
                                                if (o == 23#8) = true then
                                                  if fitF w a = true then
                                                    if fitF w b = true then
                                                      if okW w = true then
                                                        some
                                                          (D.tup
                                                            [D.u64
                                                                (BitVec.ofInt 64
                                                                    (if false = true then
                                                                      if sgnF w b < sgnF w a then sgnF w b else sgnF w a
                                                                    else
                                                                      if sgnF w a < sgnF w b then sgnF w b
                                                                      else sgnF w a) &&&
                                                                  maskF w),
                                                              D.i IntKind.i64 0])
                                                      else none
                                                    else none
                                                  else none
                                                else
                                                  if (o == 24#8) = true then
                                                    some
                                                      (D.tup
                                                        [D.u64 ((a &&& b) + (a ^^^ b) >>> 1 + ((a ^^^ b) &&& 1#64)),
                                                          D.i IntKind.i64 0])
                                                  else
                                                    if (o == 25#8) = true then
                                                      if (w == 16) = true then
                                                        if fitF 16 a = true then
                                                          if fitF 16 b = true then
                                                            some
                                                              (D.tup
                                                                [D.u64
                                                                    (heldF 16
                                                                      (IntKind.i64.wrap
                                                                          (IntKind.i64.wrap (sgnF 16 a * sgnF 16 b) +
                                                                            16384) /
                                                                        2 ^
                                                                          min (BitVec.ofInt 64 15).toNat 64)
                                                                      (-32768) 32767),
                                                                  D.i IntKind.i64 0])
                                                          else none
                                                        else none
                                                      else some (D.tup [D.u64 0#64, D.i IntKind.i64 2])
                                                    else some (D.tup [D.u64 0#64, D.i IntKind.i64 2])
def twoV (o : BitVec 8) (w : Int) (a b : BitVec 64) : BitVec 64 :=
  if (o == 1#8) = true then a + b &&& maskF w else
  if (o == 2#8) = true then a - b &&& maskF w else
  if (o == 3#8) = true then a * b &&& maskF w else
  if (o == 4#8) = true then divV o w a b else
  if (o == 5#8) = true then divV o w a b else
  if (o == 6#8) = true then divV o w a b else
  if (o == 7#8) = true then divV o w a b else
  if (o == 8#8) = true then a &&& b else
  if (o == 9#8) = true then a ||| b else
  if (o == 10#8) = true then a ^^^ b else
  if (o == 11#8) = true then movV o w a (b % BitVec.ofInt 64 w) else
  if (o == 12#8) = true then movV o w a (b % BitVec.ofInt 64 w) else
  if (o == 13#8) = true then movV o w a (b % BitVec.ofInt 64 w) else
  if (o == 14#8) = true then movV o w a (b % BitVec.ofInt 64 w) else
  if (o == 15#8) = true then movV o w a (b % BitVec.ofInt 64 w) else
  if (o == 16#8) = true then satV o w a b else
  if (o == 17#8) = true then satV o w a b else
  if (o == 18#8) = true then satV o w a b else
  if (o == 19#8) = true then satV o w a b else
  if (o == 20#8) = true then (if a < b then a else b) else
  if (o == 21#8) = true then (if a < b then b else a) else
  if (o == 22#8) = true then (if sgnF w a < sgnF w b then a else b) else
  if (o == 23#8) = true then (if sgnF w a < sgnF w b then b else a) else
  if (o == 24#8) = true then avgV a b else
  if (o == 25#8) = true then (if (w == 16) = true then q15V a b else 0#64) else
  0#64
def twoE (o : BitVec 8) (w : Int) (a b : BitVec 64) : Int :=
  if (o == 1#8) = true then 0 else
  if (o == 2#8) = true then 0 else
  if (o == 3#8) = true then 0 else
  if (o == 4#8) = true then divE o w a b else
  if (o == 5#8) = true then divE o w a b else
  if (o == 6#8) = true then divE o w a b else
  if (o == 7#8) = true then divE o w a b else
  if (o == 8#8) = true then 0 else
  if (o == 9#8) = true then 0 else
  if (o == 10#8) = true then 0 else
  if (o == 11#8) = true then 0 else
  if (o == 12#8) = true then 0 else
  if (o == 13#8) = true then 0 else
  if (o == 14#8) = true then 0 else
  if (o == 15#8) = true then 0 else
  if (o == 16#8) = true then 0 else
  if (o == 17#8) = true then 0 else
  if (o == 18#8) = true then 0 else
  if (o == 19#8) = true then 0 else
  if (o == 20#8) = true then 0 else
  if (o == 21#8) = true then 0 else
  if (o == 22#8) = true then 0 else
  if (o == 23#8) = true then 0 else
  if (o == 24#8) = true then 0 else
  if (o == 25#8) = true then (if (w == 16) = true then 0 else 2) else
  2
def twoT (o : BitVec 8) (w : Int) (a b : BitVec 64) : Option D :=
  if (o == 1#8) = true then some (.tup [.u64 (a + b &&& maskF w), .i .i64 (0)]) else
  if (o == 2#8) = true then some (.tup [.u64 (a - b &&& maskF w), .i .i64 (0)]) else
  if (o == 3#8) = true then some (.tup [.u64 (a * b &&& maskF w), .i .i64 (0)]) else
  if (o == 4#8) = true then some (.tup [.u64 (divV o w a b), .i .i64 (divE o w a b)]) else
  if (o == 5#8) = true then some (.tup [.u64 (divV o w a b), .i .i64 (divE o w a b)]) else
  if (o == 6#8) = true then some (.tup [.u64 (divV o w a b), .i .i64 (divE o w a b)]) else
  if (o == 7#8) = true then some (.tup [.u64 (divV o w a b), .i .i64 (divE o w a b)]) else
  if (o == 8#8) = true then some (.tup [.u64 (a &&& b), .i .i64 (0)]) else
  if (o == 9#8) = true then some (.tup [.u64 (a ||| b), .i .i64 (0)]) else
  if (o == 10#8) = true then some (.tup [.u64 (a ^^^ b), .i .i64 (0)]) else
  if (o == 11#8) = true then some (.tup [.u64 (movV o w a (b % BitVec.ofInt 64 w)), .i .i64 (0)]) else
  if (o == 12#8) = true then some (.tup [.u64 (movV o w a (b % BitVec.ofInt 64 w)), .i .i64 (0)]) else
  if (o == 13#8) = true then some (.tup [.u64 (movV o w a (b % BitVec.ofInt 64 w)), .i .i64 (0)]) else
  if (o == 14#8) = true then some (.tup [.u64 (movV o w a (b % BitVec.ofInt 64 w)), .i .i64 (0)]) else
  if (o == 15#8) = true then some (.tup [.u64 (movV o w a (b % BitVec.ofInt 64 w)), .i .i64 (0)]) else
  if (o == 16#8) = true then some (.tup [.u64 (satV o w a b), .i .i64 (0)]) else
  if (o == 17#8) = true then some (.tup [.u64 (satV o w a b), .i .i64 (0)]) else
  if (o == 18#8) = true then some (.tup [.u64 (satV o w a b), .i .i64 (0)]) else
  if (o == 19#8) = true then some (.tup [.u64 (satV o w a b), .i .i64 (0)]) else
  if (o == 20#8) = true then some (.tup [.u64 (if a < b then a else b), .i .i64 (0)]) else
  if (o == 21#8) = true then some (.tup [.u64 (if a < b then b else a), .i .i64 (0)]) else
  if (o == 22#8) = true then some (.tup [.u64 (if sgnF w a < sgnF w b then a else b), .i .i64 (0)]) else
  if (o == 23#8) = true then some (.tup [.u64 (if sgnF w a < sgnF w b then b else a), .i .i64 (0)]) else
  if (o == 24#8) = true then some (.tup [.u64 (avgV a b), .i .i64 (0)]) else
  if (o == 25#8) = true then some (.tup [.u64 (if (w == 16) = true then q15V a b else 0#64), .i .i64 (if (w == 16) = true then 0 else 2)]) else
  some (.tup [.u64 0#64, .i .i64 2])
def twoN (o : BitVec 8) (w : Int) (a b : BitVec 64) : BitVec 64 := ifF (mayF w [a, b]) (twoV o w a b)
def twoR (o : BitVec 8) (w : Int) (a b : BitVec 64) : Int := if mayF w [a, b] = true then twoE o w a b else 2
def twoD (o : BitVec 8) (w : Int) (a b : BitVec 64) : D := .tup [.u64 (twoN o w a b), .i .i64 (twoR o w a b)]
theorem twoT_eq (o : BitVec 8) (w : Int) (a b : BitVec 64) : twoT o w a b = some (.tup [.u64 (twoV o w a b), .i .i64 (twoE o w a b)]) := by
  unfold twoT twoV twoE
  generalize (o == 1#8) = c1
  generalize (o == 2#8) = c2
  generalize (o == 3#8) = c3
  generalize (o == 4#8) = c4
  generalize (o == 5#8) = c5
  generalize (o == 6#8) = c6
  generalize (o == 7#8) = c7
  generalize (o == 8#8) = c8
  generalize (o == 9#8) = c9
  generalize (o == 10#8) = c10
  generalize (o == 11#8) = c11
  generalize (o == 12#8) = c12
  generalize (o == 13#8) = c13
  generalize (o == 14#8) = c14
  generalize (o == 15#8) = c15
  generalize (o == 16#8) = c16
  generalize (o == 17#8) = c17
  generalize (o == 18#8) = c18
  generalize (o == 19#8) = c19
  generalize (o == 20#8) = c20
  generalize (o == 21#8) = c21
  generalize (o == 22#8) = c22
  generalize (o == 23#8) = c23
  generalize (o == 24#8) = c24
  generalize (o == 25#8) = c25
  cases c1 with
  | true => rfl
  | false =>
    cases c2 with
    | true => rfl
    | false =>
      cases c3 with
      | true => rfl
      | false =>
        cases c4 with
        | true => rfl
        | false =>
          cases c5 with
          | true => rfl
          | false =>
            cases c6 with
            | true => rfl
            | false =>
              cases c7 with
              | true => rfl
              | false =>
                cases c8 with
                | true => rfl
                | false =>
                  cases c9 with
                  | true => rfl
                  | false =>
                    cases c10 with
                    | true => rfl
                    | false =>
                      cases c11 with
                      | true => rfl
                      | false =>
                        cases c12 with
                        | true => rfl
                        | false =>
                          cases c13 with
                          | true => rfl
                          | false =>
                            cases c14 with
                            | true => rfl
                            | false =>
                              cases c15 with
                              | true => rfl
                              | false =>
                                cases c16 with
                                | true => rfl
                                | false =>
                                  cases c17 with
                                  | true => rfl
                                  | false =>
                                    cases c18 with
                                    | true => rfl
                                    | false =>
                                      cases c19 with
                                      | true => rfl
                                      | false =>
                                        cases c20 with
                                        | true => rfl
                                        | false =>
                                          cases c21 with
                                          | true => rfl
                                          | false =>
                                            cases c22 with
                                            | true => rfl
                                            | false =>
                                              cases c23 with
                                              | true => rfl
                                              | false =>
                                                cases c24 with
                                                | true => rfl
                                                | false =>
                                                  cases c25 with
                                                  | true => rfl
                                                  | false =>
                                                    rfl
theorem min_u (a b : BitVec 64) : (if b < a then b else a) = if a < b then a else b := by
  by_cases h1 : a < b
  · rw [if_pos h1, if_neg (by rw [BitVec.lt_def] at *; omega)]
  · by_cases h2 : b < a
    · rw [if_neg h1, if_pos h2]
    · rw [if_neg h1, if_neg h2]
      exact BitVec.eq_of_toNat_eq (by rw [BitVec.lt_def] at *; omega)
theorem max_u (a b : BitVec 64) : (if a < b then b else a) = if a < b then b else a := rfl
theorem min_s {w : Int} {a b : BitVec 64} (ha : fitF w a = true) (hb : fitF w b = true) : BitVec.ofInt 64 (if sgnF w b < sgnF w a then sgnF w b else sgnF w a) &&& maskF w = if sgnF w a < sgnF w b then a else b := by
  by_cases h1 : sgnF w a < sgnF w b
  · rw [if_pos h1, if_neg (by omega), num_sgn ha]
  · by_cases h2 : sgnF w b < sgnF w a
    · rw [if_neg h1, if_pos h2, num_sgn hb]
    · have e : sgnF w a = sgnF w b := by omega
      rw [if_neg h1, if_neg h2, e, num_sgn hb]
theorem max_s {w : Int} {a b : BitVec 64} (ha : fitF w a = true) (hb : fitF w b = true) : BitVec.ofInt 64 (if sgnF w a < sgnF w b then sgnF w b else sgnF w a) &&& maskF w = if sgnF w a < sgnF w b then b else a := by
  by_cases h1 : sgnF w a < sgnF w b
  · rw [if_pos h1, if_pos h1, num_sgn hb]
  · rw [if_neg h1, if_neg h1, num_sgn ha]
theorem two_end {o : BitVec 8} {w : Int} {a b : BitVec 64} {x : Option D} (h : mayF w [a, b] = true → x = twoT o w a b) : (if (!mayF w [a, b]) = true then some (D.tup [.u64 0#64, .i .i64 2]) else x) = some (twoD o w a b) := by
  unfold twoD twoN twoR
  cases hm : mayF w [a, b]
  · rfl
  · rw [if_neg (by simp), h hm, twoT_eq]
    rfl
theorem twoP_eq (o : BitVec 8) (w : Int) (a b : BitVec 64) : twoP o w a b = some (twoD o w a b) := by
  unfold twoP
  refine two_end fun hm => ?_
  obtain ⟨ha, hb⟩ := may_fit hm
  have hw := (fitF_nat ha).1
  have h0 := ofW_ne hw
  have e15 : (2 : Int) ^ min (BitVec.ofInt 64 15).toNat 64 = 32768 := by decide
  have t1 : (true = true) = True := eq_true rfl
  have t2 : (false = true) = False := eq_false (by decide)
  simp only [ha, hb, hw, h0, Bool.and_self, t1, t2, if_true, if_false, min_u, min_s ha hb, max_s ha hb, e15]
  unfold twoT avgV q15V
  cases hw16 : (w == 16)
  · rfl
  · have e : w = 16 := by simpa using hw16
    subst e
    simp only [ha, hb, if_true]
end Go.Wh
