/-
  Part of the proof; what its functions and lemmas say stands in the text.
-/
import Derived.Test.YtakonchpkchfhaaDoorWh2
set_option linter.unusedSimpArgs false
set_option linter.unusedVariables false
/-!
Whole numbers: comparisons.
-/
namespace Go.Wh
open Go.Ev Go.RowKit

def thanT (o : BitVec 8) (w : Int) (a b : BitVec 64) : Option D :=
  if (o == 32#8) = true then some (D.tup [D.bool (a == b), D.i IntKind.i64 0])
  else if (o == 33#8) = true then some (D.tup [D.bool !a == b, D.i IntKind.i64 0])
  else if (o == 34#8) = true then some (D.tup [D.bool (decide (a < b)), D.i IntKind.i64 0])
  else if (o == 35#8) = true then some (D.tup [D.bool (decide (sgnF w a < sgnF w b)), D.i IntKind.i64 0])
  else if (o == 36#8) = true then some (D.tup [D.bool (decide (b < a)), D.i IntKind.i64 0])
  else if (o == 37#8) = true then some (D.tup [D.bool (decide (sgnF w b < sgnF w a)), D.i IntKind.i64 0])
  else if (o == 38#8) = true then some (D.tup [D.bool (decide (a ≤ b)), D.i IntKind.i64 0])
  else if (o == 39#8) = true then some (D.tup [D.bool (decide (sgnF w a ≤ sgnF w b)), D.i IntKind.i64 0])
  else if (o == 40#8) = true then some (D.tup [D.bool (decide (b ≤ a)), D.i IntKind.i64 0])
  else if (o == 41#8) = true then some (D.tup [D.bool (decide (sgnF w b ≤ sgnF w a)), D.i IntKind.i64 0])
  else some (D.tup [D.bool false, D.i IntKind.i64 2])
/-- Is it a comparison? -/
def thanO (o : BitVec 8) : Bool := o == 32#8 || o == 33#8 || o == 34#8 || o == 35#8 || o == 36#8 || o == 37#8 || o == 38#8 || o == 39#8 || o == 40#8 || o == 41#8
def thanB (o : BitVec 8) (w : Int) (a b : BitVec 64) : Bool :=
  if (o == 32#8) = true then a == b
  else if (o == 33#8) = true then !(a == b)
  else if (o == 34#8) = true then decide (a < b)
  else if (o == 35#8) = true then decide (sgnF w a < sgnF w b)
  else if (o == 36#8) = true then decide (b < a)
  else if (o == 37#8) = true then decide (sgnF w b < sgnF w a)
  else if (o == 38#8) = true then decide (a ≤ b)
  else if (o == 39#8) = true then decide (sgnF w a ≤ sgnF w b)
  else if (o == 40#8) = true then decide (b ≤ a)
  else if (o == 41#8) = true then decide (sgnF w b ≤ sgnF w a)
  else false
theorem thanT_eq (o : BitVec 8) (w : Int) (a b : BitVec 64) : thanT o w a b = some (.tup [.bool (thanB o w a b), .i .i64 (errF (thanO o))]) := by
  unfold thanT thanB thanO
  generalize (o == 32#8) = c0
  generalize (o == 33#8) = c1
  generalize (o == 34#8) = c2
  generalize (o == 35#8) = c3
  generalize (o == 36#8) = c4
  generalize (o == 37#8) = c5
  generalize (o == 38#8) = c6
  generalize (o == 39#8) = c7
  generalize (o == 40#8) = c8
  generalize (o == 41#8) = c9
  cases c0
  · cases c1
    · cases c2
      · cases c3
        · cases c4
          · cases c5
            · cases c6
              · cases c7
                · cases c8
                  · cases c9 <;> rfl
                  · rfl
                · rfl
              · rfl
            · rfl
          · rfl
        · rfl
      · rfl
    · rfl
  · rfl
def thanV (o : BitVec 8) (w : Int) (a b : BitVec 64) : D := .tup [.bool (mayF w [a, b] && thanB o w a b), .i .i64 (errF (mayF w [a, b] && thanO o))]
theorem may_fit {w : Int} {a b : BitVec 64} (h : mayF w [a, b] = true) : fitF w a = true ∧ fitF w b = true := by
  simp only [mayF, List.all_cons, List.all_nil, Bool.and_true, Bool.and_eq_true] at h
  simp only [fitF, h, Bool.and_self, and_self]
theorem may_fit1 {w : Int} {a : BitVec 64} (h : mayF w [a] = true) : fitF w a = true := by
  simp only [mayF, List.all_cons, List.all_nil, Bool.and_true] at h
  exact h
/-- may, as the reference asks it. -/
theorem may_ref {w : Int} {a b : BitVec 64} {x y : Option D} : (if (!okW w) = false then if (!decide (a ≤ maskF w)) = false then if (!decide (b ≤ maskF w)) = true then x else y else x else x) = if (!mayF w [a, b]) = true then x else y := by
  simp only [mayF, List.all_cons, List.all_nil, Bool.and_true]
  generalize okW w = c0
  generalize decide (a ≤ maskF w) = c1
  generalize decide (b ≤ maskF w) = c2
  cases c0 <;> cases c1 <;> cases c2 <;> rfl
end Go.Wh
