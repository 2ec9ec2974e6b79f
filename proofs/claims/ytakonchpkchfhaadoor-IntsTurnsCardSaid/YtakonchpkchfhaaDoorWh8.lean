/-
  Part of the proof; what its functions and lemmas say stands in the text.
-/
import Derived.Test.YtakonchpkchfhaaDoorWh7
set_option linter.unusedSimpArgs false
set_option linter.unusedVariables false
/-!
Whole numbers: moves; the lesser, the greater, the mean.
-/
namespace Go.Wh
open Go.Ev Go.RowKit

def movV (o : BitVec 8) (w : Int) (a n : BitVec 64) : BitVec 64 :=
  if o = 11#8 then a <<< n.toNat &&& maskF w
  else if o = 12#8 then a >>> n.toNat
  else if o = 13#8 then BitVec.ofInt 64 (sgnF w a / 2 ^ min n.toNat 64) &&& maskF w
  else if o = 15#8 then (a <<< ((BitVec.ofInt 64 w - n) % BitVec.ofInt 64 w).toNat ||| a >>> (BitVec.ofInt 64 w - (BitVec.ofInt 64 w - n) % BitVec.ofInt 64 w).toNat) &&& maskF w
  else (a <<< n.toNat ||| a >>> (BitVec.ofInt 64 w - n).toNat) &&& maskF w
theorem ofW_ne {w : Int} (h : okW w = true) : ¬ BitVec.ofInt 64 w = 0#64 := by
  rcases okW_cases h with rfl | rfl | rfl | rfl <;> decide
theorem movP_eq {o : BitVec 8} {w : Int} {a n : BitVec 64} (ha : fitF w a = true) : movP o w a n = some (.u64 (movV o w a n)) := by
  have hw := (fitF_nat ha).1
  have h0 := ofW_ne hw
  by_cases h1 : o = 11#8
  · simp [movP, movV, h1, hw]
  · by_cases h2 : o = 12#8
    · simp [movP, movV, h2]
    · by_cases h3 : o = 13#8
      · simp [movP, movV, h3, hw, ha]
      · by_cases h4 : o = 15#8
        · simp [movP, movV, h4, hw, h0]
        · simp [movP, movV, h1, h2, h3, h4, hw]
def minV (o : BitVec 8) (w : Int) (a b : BitVec 64) : BitVec 64 :=
  if o = 20#8 then (if a < b then a else b) else if o = 21#8 then (if a < b then b else a)
  else if o = 22#8 then (if sgnF w a < sgnF w b then a else b) else (if sgnF w a < sgnF w b then b else a)
theorem minR_eq {o : BitVec 8} {w : Int} {a b : BitVec 64} (ha : fitF w a = true) (hb : fitF w b = true) (ho : o = 20#8 ∨ o = 21#8 ∨ o = 22#8 ∨ o = 23#8) : minR o w a b = some (.u64 (minV o w a b)) := by
  rcases ho with rfl | rfl | rfl | rfl
  · by_cases h : a < b <;> simp [minR, minV, h]
  · by_cases h : a < b <;> simp [minR, minV, h]
  · by_cases h : sgnF w a < sgnF w b <;> simp [minR, minV, h, ha, hb]
  · by_cases h : sgnF w a < sgnF w b <;> simp [minR, minV, h, ha, hb]
def avgV (a b : BitVec 64) : BitVec 64 := (a &&& b) + ((a ^^^ b) >>> 1) + ((a ^^^ b) &&& 1#64)
end Go.Wh
