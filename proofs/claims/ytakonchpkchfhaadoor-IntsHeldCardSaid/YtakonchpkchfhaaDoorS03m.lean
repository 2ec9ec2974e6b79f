/-
  Part of the proof; what its functions and lemmas say stands in the text.
-/
import Derived.Test.YtakonchpkchfhaaDoorWhB
import Derived.Test.YtakonchpkchfhaaDoorS03B
set_option linter.unusedSimpArgs false
set_option linter.unusedVariables false
/-!
Whole numbers: a comparison, by what is known of it.
-/
namespace Go.L03
open Go.Ev Go.Proofs Go.RowKit Go.Wh

/-- The comparisons with signs, where it is known how they stand. -/
noncomputable def ThanK (G : Int → BitVec 64 → BitVec 64 → Bool) (lt eq gt : Bool) : Ev.Spec := guarded fun
  | [.u8 35#8, .i .i64 w, .u64 a, .u64 b] => some (G w a b, .tup [.bool lt, .any])
  | [.u8 32#8, .i .i64 w, .u64 a, .u64 b] => some (G w a b, .tup [.bool eq, .any])
  | [.u8 37#8, .i .i64 w, .u64 a, .u64 b] => some (G w a b, .tup [.bool gt, .any])
  | [.u8 41#8, .i .i64 w, .u64 a, .u64 b] => some (G w a b, .tup [.bool (eq || gt), .any])
  | _ => none
end Go.L03
