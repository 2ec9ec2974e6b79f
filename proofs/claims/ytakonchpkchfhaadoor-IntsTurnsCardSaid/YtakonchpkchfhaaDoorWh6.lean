/-
  Part of the proof; what its functions and lemmas say stands in the text.
-/
import Derived.Test.YtakonchpkchfhaaDoorWh5
set_option linter.unusedSimpArgs false
set_option linter.unusedVariables false
/-!
Whole numbers: what the functions of two come to.
-/
namespace Go.Wh
open Go.Ev Go.RowKit

def cry (x y : BitVec 64) : BitVec 64 := BitVec.ofNat 64 ((x.toNat + y.toNat) / 18446744073709551616)
def divP (o : BitVec 8) (w : Int) (a b : BitVec 64) : Option D :=
  if (b == 0#64) = true then some (D.tup [D.u64 0#64, D.i IntKind.i64 6])
  else
    if (o == 4#8) = true then if b = 0#64 then none else some (D.tup [D.u64 (a / b), D.i IntKind.i64 0])
    else
      if (o == 5#8) = true then if b = 0#64 then none else some (D.tup [D.u64 (a % b), D.i IntKind.i64 0])
      else
        if fitF w a = true then
          if fitF w b = true then
            if okW w = true then
              if (o == 6#8) = true then
                if (sgnF w a == -(pw w / 2)) = true then
                  if (sgnF w b == -1) = true then some (D.tup [D.u64 0#64, D.i IntKind.i64 6])
                  else
                    if (o == 6#8) = true then
                      if sgnF w b = 0 then none
                      else
                        if okW w = true then
                          some
                            (D.tup
                              [D.u64 (BitVec.ofInt 64 (IntKind.i64.wrap ((sgnF w a).tdiv (sgnF w b))) &&& maskF w),
                                D.i IntKind.i64 0])
                        else none
                    else
                      if sgnF w b = 0 then none
                      else
                        if okW w = true then
                          some
                            (D.tup [D.u64 (BitVec.ofInt 64 ((sgnF w a).tmod (sgnF w b)) &&& maskF w), D.i IntKind.i64 0])
                        else none
                else
                  if (o == 6#8) = true then
                    if sgnF w b = 0 then none
                    else
                      if okW w = true then
                        some
                          (D.tup
                            [D.u64 (BitVec.ofInt 64 (IntKind.i64.wrap ((sgnF w a).tdiv (sgnF w b))) &&& maskF w),
                              D.i IntKind.i64 0])
                      else none
                  else
                    if sgnF w b = 0 then none
                    else
                      if okW w = true then
                        some (D.tup [D.u64 (BitVec.ofInt 64 ((sgnF w a).tmod (sgnF w b)) &&& maskF w), D.i IntKind.i64 0])
                      else none
              else
                if (o == 6#8) = true then
                  if sgnF w b = 0 then none
                  else
                    if okW w = true then
                      some
                        (D.tup
                          [D.u64 (BitVec.ofInt 64 (IntKind.i64.wrap ((sgnF w a).tdiv (sgnF w b))) &&& maskF w),
                            D.i IntKind.i64 0])
                    else none
                else
                  if sgnF w b = 0 then none
                  else
                    if okW w = true then
                      some (D.tup [D.u64 (BitVec.ofInt 64 ((sgnF w a).tmod (sgnF w b)) &&& maskF w), D.i IntKind.i64 0])
                    else none
            else none
          else none
        else none
def divR (o : BitVec 8) (w : Int) (a b : BitVec 64) : Option D :=
  if fitF w a = true then
    if fitF w b = true then
      if (b == 0#64) = false then
        if (o == 6#8) = true then
          if okW w = true then
            if (sgnF w a == -(pw w / 2)) = true then
              if (sgnF w b == -1) = true then some (D.tup [D.u64 0#64, D.i IntKind.i64 6])
              else
                if (o == 4#8) = true then if b = 0#64 then none else some (D.tup [D.u64 (a / b), D.i IntKind.i64 0])
                else
                  if (o == 5#8) = true then if b = 0#64 then none else some (D.tup [D.u64 (a % b), D.i IntKind.i64 0])
                  else
                    if (o == 6#8) = true then
                      if sgnF w b = 0 then none
                      else
                        some
                          (D.tup
                            [D.u64 (BitVec.ofInt 64 (IntKind.i64.wrap ((sgnF w a).tdiv (sgnF w b))) &&& maskF w),
                              D.i IntKind.i64 0])
                    else
                      if (sgnF w b == -1) = true then some (D.tup [D.u64 0#64, D.i IntKind.i64 0])
                      else
                        if sgnF w b = 0 then none
                        else
                          some
                            (D.tup [D.u64 (BitVec.ofInt 64 ((sgnF w a).tmod (sgnF w b)) &&& maskF w), D.i IntKind.i64 0])
            else
              if (o == 4#8) = true then if b = 0#64 then none else some (D.tup [D.u64 (a / b), D.i IntKind.i64 0])
              else
                if (o == 5#8) = true then if b = 0#64 then none else some (D.tup [D.u64 (a % b), D.i IntKind.i64 0])
                else
                  if (o == 6#8) = true then
                    if sgnF w b = 0 then none
                    else
                      some
                        (D.tup
                          [D.u64 (BitVec.ofInt 64 (IntKind.i64.wrap ((sgnF w a).tdiv (sgnF w b))) &&& maskF w),
                            D.i IntKind.i64 0])
                  else
                    if (sgnF w b == -1) = true then some (D.tup [D.u64 0#64, D.i IntKind.i64 0])
                    else
                      if sgnF w b = 0 then none
                      else
                        some (D.tup [D.u64 (BitVec.ofInt 64 ((sgnF w a).tmod (sgnF w b)) &&& maskF w), D.i IntKind.i64 0])
          else none
        else
          if (o == 4#8) = true then if b = 0#64 then none else some (D.tup [D.u64 (a / b), D.i IntKind.i64 0])
          else
            if (o == 5#8) = true then if b = 0#64 then none else some (D.tup [D.u64 (a % b), D.i IntKind.i64 0])
            else
              if (o == 6#8) = true then
                if sgnF w b = 0 then none
                else
                  some
                    (D.tup
                      [D.u64 (BitVec.ofInt 64 (IntKind.i64.wrap ((sgnF w a).tdiv (sgnF w b))) &&& maskF w),
                        D.i IntKind.i64 0])
              else
                if (sgnF w b == -1) = true then some (D.tup [D.u64 0#64, D.i IntKind.i64 0])
                else
                  if sgnF w b = 0 then none
                  else some (D.tup [D.u64 (BitVec.ofInt 64 ((sgnF w a).tmod (sgnF w b)) &&& maskF w), D.i IntKind.i64 0])
      else some (D.tup [D.u64 0#64, D.i IntKind.i64 6])
    else none
  else none
def movP (o : BitVec 8) (w : Int) (a b : BitVec 64) : Option D :=
  if (o == 11#8) = true then if okW w = true then some (D.u64 (a <<< b.toNat &&& maskF w)) else none
  else
    if (o == 12#8) = true then some (D.u64 (a >>> b.toNat))
    else
      if (o == 13#8) = true then
        if fitF w a = true then
          if okW w = true then some (D.u64 (BitVec.ofInt 64 (sgnF w a / 2 ^ min b.toNat 64) &&& maskF w))
          else none
        else none
      else
        if (o == 15#8) = true then
          if BitVec.ofInt 64 w = 0#64 then none
          else
            if okW w = true then
              some
                (D.u64
                  ((a <<< ((BitVec.ofInt 64 w - b) % BitVec.ofInt 64 w).toNat |||
                      a >>> (BitVec.ofInt 64 w - (BitVec.ofInt 64 w - b) % BitVec.ofInt 64 w).toNat) &&&
                    maskF w))
            else none
        else
          if okW w = true then some (D.u64 ((a <<< b.toNat ||| a >>> (BitVec.ofInt 64 w - b).toNat) &&& maskF w))
          else none
def satP (o : BitVec 8) (w : Int) (a b : BitVec 64) : Option D :=
  if (o == 16#8) = true then
    if decide (BitVec.ofInt 64 0 < cry a b) = false then
      if okW w = true then
        if decide (maskF w < a + b) = true then if okW w = true then some (D.u64 (maskF w)) else none
        else some (D.u64 (a + b))
      else none
    else if okW w = true then some (D.u64 (maskF w)) else none
  else
    if (o == 17#8) = true then some (D.u64 (a - if true = true then if b < a then b else a else if a < b then b else a))
    else
      if fitF w a = true then
        if fitF w b = true then
          if okW w = true then
            if (o == 19#8) = true then
              if decide (sgnF w b < 0) = true then
                if decide (IntKind.i64.wrap (pw w / 2 - 1 + sgnF w b) < sgnF w a) = true then
                  if okW w = true then some (D.u64 (BitVec.ofInt 64 (pw w / 2 - 1) &&& maskF w)) else none
                else
                  if decide (0 < sgnF w b) = true then
                    if decide (sgnF w a < IntKind.i64.wrap (-(pw w / 2) + sgnF w b)) = true then
                      if okW w = true then some (D.u64 (BitVec.ofInt 64 (-(pw w / 2)) &&& maskF w)) else none
                    else
                      if okW w = true then
                        some (D.u64 (BitVec.ofInt 64 (IntKind.i64.wrap (sgnF w a - sgnF w b)) &&& maskF w))
                      else none
                  else
                    if okW w = true then
                      some (D.u64 (BitVec.ofInt 64 (IntKind.i64.wrap (sgnF w a - sgnF w b)) &&& maskF w))
                    else none
              else
                if decide (0 < sgnF w b) = true then
                  if decide (sgnF w a < IntKind.i64.wrap (-(pw w / 2) + sgnF w b)) = true then
                    if okW w = true then some (D.u64 (BitVec.ofInt 64 (-(pw w / 2)) &&& maskF w)) else none
                  else
                    if okW w = true then
                      some (D.u64 (BitVec.ofInt 64 (IntKind.i64.wrap (sgnF w a - sgnF w b)) &&& maskF w))
                    else none
                else
                  if okW w = true then some (D.u64 (BitVec.ofInt 64 (IntKind.i64.wrap (sgnF w a - sgnF w b)) &&& maskF w))
                  else none
            else
              if decide (0 < sgnF w b) = true then
                if decide (IntKind.i64.wrap (pw w / 2 - 1 - sgnF w b) < sgnF w a) = true then
                  if okW w = true then some (D.u64 (BitVec.ofInt 64 (pw w / 2 - 1) &&& maskF w)) else none
                else
                  if decide (sgnF w b < 0) = true then
                    if decide (sgnF w a < IntKind.i64.wrap (-(pw w / 2) - sgnF w b)) = true then
                      if okW w = true then some (D.u64 (BitVec.ofInt 64 (-(pw w / 2)) &&& maskF w)) else none
                    else
                      if okW w = true then
                        some (D.u64 (BitVec.ofInt 64 (IntKind.i64.wrap (sgnF w a + sgnF w b)) &&& maskF w))
                      else none
                  else
                    if okW w = true then
                      some (D.u64 (BitVec.ofInt 64 (IntKind.i64.wrap (sgnF w a + sgnF w b)) &&& maskF w))
                    else none
              else
                if decide (sgnF w b < 0) = true then
                  if decide (sgnF w a < IntKind.i64.wrap (-(pw w / 2) - sgnF w b)) = true then
                    if okW w = true then some (D.u64 (BitVec.ofInt 64 (-(pw w / 2)) &&& maskF w)) else none
                  else
                    if okW w = true then
                      some (D.u64 (BitVec.ofInt 64 (IntKind.i64.wrap (sgnF w a + sgnF w b)) &&& maskF w))
                    else none
                else
                  if okW w = true then some (D.u64 (BitVec.ofInt 64 (IntKind.i64.wrap (sgnF w a + sgnF w b)) &&& maskF w))
                  else none
          else none
        else none
      else none
def satR (o : BitVec 8) (w : Int) (a b : BitVec 64) : Option D :=
  if fitF w a = true then
    if fitF w b = true then
      if (o == 16#8) = true then if decide (maskF w - a < b) = true then some (D.u64 (maskF w)) else some (D.u64 (a + b))
      else
        if (o == 17#8) = true then if decide (a < b) = true then some (D.u64 0#64) else some (D.u64 (a - b))
        else
          if (o == 18#8) = true then
            if decide (0 < sgnF w b) = true then
              if okW w = true then
                if decide (IntKind.i64.wrap (pw w / 2 - 1 - sgnF w b) < sgnF w a) = true then
                  if okW w = true then some (D.u64 (BitVec.ofInt 64 (pw w / 2 - 1) &&& maskF w)) else none
                else
                  if decide (sgnF w b < 0) = true then
                    if okW w = true then
                      if decide (sgnF w a < IntKind.i64.wrap (-(pw w / 2) - sgnF w b)) = true then
                        if okW w = true then some (D.u64 (BitVec.ofInt 64 (-(pw w / 2)) &&& maskF w)) else none
                      else some (D.u64 (BitVec.ofInt 64 (IntKind.i64.wrap (sgnF w a + sgnF w b)) &&& maskF w))
                    else none
                  else some (D.u64 (BitVec.ofInt 64 (IntKind.i64.wrap (sgnF w a + sgnF w b)) &&& maskF w))
              else none
            else
              if decide (sgnF w b < 0) = true then
                if okW w = true then
                  if decide (sgnF w a < IntKind.i64.wrap (-(pw w / 2) - sgnF w b)) = true then
                    if okW w = true then some (D.u64 (BitVec.ofInt 64 (-(pw w / 2)) &&& maskF w)) else none
                  else some (D.u64 (BitVec.ofInt 64 (IntKind.i64.wrap (sgnF w a + sgnF w b)) &&& maskF w))
                else none
              else some (D.u64 (BitVec.ofInt 64 (IntKind.i64.wrap (sgnF w a + sgnF w b)) &&& maskF w))
          else
            if decide (sgnF w b < 0) = true then
              if okW w = true then
                if decide (IntKind.i64.wrap (pw w / 2 - 1 + sgnF w b) < sgnF w a) = true then
                  if okW w = true then some (D.u64 (BitVec.ofInt 64 (pw w / 2 - 1) &&& maskF w)) else none
                else
                  if decide (0 < sgnF w b) = true then
                    if okW w = true then
                      if decide (sgnF w a < IntKind.i64.wrap (-(pw w / 2) + sgnF w b)) = true then
                        if okW w = true then some (D.u64 (BitVec.ofInt 64 (-(pw w / 2)) &&& maskF w)) else none
                      else some (D.u64 (BitVec.ofInt 64 (IntKind.i64.wrap (sgnF w a - sgnF w b)) &&& maskF w))
                    else none
                  else some (D.u64 (BitVec.ofInt 64 (IntKind.i64.wrap (sgnF w a - sgnF w b)) &&& maskF w))
              else none
            else
              if decide (0 < sgnF w b) = true then
                if okW w = true then
                  if decide (sgnF w a < IntKind.i64.wrap (-(pw w / 2) + sgnF w b)) = true then
                    if okW w = true then some (D.u64 (BitVec.ofInt 64 (-(pw w / 2)) &&& maskF w)) else none
                  else some (D.u64 (BitVec.ofInt 64 (IntKind.i64.wrap (sgnF w a - sgnF w b)) &&& maskF w))
                else none
              else some (D.u64 (BitVec.ofInt 64 (IntKind.i64.wrap (sgnF w a - sgnF w b)) &&& maskF w))
    else none
  else none
def minR (o : BitVec 8) (w : Int) (a b : BitVec 64) : Option D :=
  if (o == 22#8) = false then
    if (o == 23#8) = true then
      if fitF w a = true then
        if fitF w b = true then
          if (o == 20#8) = false then
            if (decide (sgnF w a < sgnF w b) == (o == 22#8)) = true then some (D.u64 a) else some (D.u64 b)
          else if (decide (sgnF w a < sgnF w b) == true) = true then some (D.u64 a) else some (D.u64 b)
        else none
      else none
    else
      if (o == 20#8) = false then if (decide (a < b) == (o == 22#8)) = true then some (D.u64 a) else some (D.u64 b)
      else if (decide (a < b) == true) = true then some (D.u64 a) else some (D.u64 b)
  else
    if fitF w a = true then
      if fitF w b = true then
        if (o == 20#8) = false then
          if (decide (sgnF w a < sgnF w b) == (o == 22#8)) = true then some (D.u64 a) else some (D.u64 b)
        else if (decide (sgnF w a < sgnF w b) == true) = true then some (D.u64 a) else some (D.u64 b)
      else none
    else none
def q15R (a b : BitVec 64) : Option D :=
  if fitF 16 a = true then
    if fitF 16 b = true then
      some
        (D.u64
          (BitVec.ofInt 64
              (if true = true then
                if
                    32767 <
                      IntKind.i64.wrap (IntKind.i64.wrap (sgnF 16 a * sgnF 16 b) + 16384) /
                        2 ^ min (BitVec.ofInt 64 15).toNat 64 then
                  32767
                else
                  IntKind.i64.wrap (IntKind.i64.wrap (sgnF 16 a * sgnF 16 b) + 16384) /
                    2 ^ min (BitVec.ofInt 64 15).toNat 64
              else
                if
                    IntKind.i64.wrap (IntKind.i64.wrap (sgnF 16 a * sgnF 16 b) + 16384) /
                        2 ^ min (BitVec.ofInt 64 15).toNat 64 <
                      32767 then
                  32767
                else
                  IntKind.i64.wrap (IntKind.i64.wrap (sgnF 16 a * sgnF 16 b) + 16384) /
                    2 ^ min (BitVec.ofInt 64 15).toNat 64) &&&
            65535#64))
    else none
  else none
end Go.Wh
