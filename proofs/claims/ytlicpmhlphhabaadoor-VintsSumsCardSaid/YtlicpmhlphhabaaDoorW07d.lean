/-
  Part of the proof; what its functions and lemmas say stands in the text.
-/
import Derived.Test.YtlicpmhlphhabaaDoorW07c
import Derived.Test.YtlicpmhlphhabaaDoorWhD
import Derived.Test.YtlicpmhlphhabaaDoorS07C
set_option linter.unusedSimpArgs false
set_option linter.unusedVariables false
/-!
Vectors of whole numbers: VintsTwo.
-/
namespace Go.L07
open Go.Ev Go.Proofs Go.RowKit Go.Wh

theorem exclB_no {o : BitVec 8} (h : exclB o = false) : (o == 4#8) = false ∧ (o == 5#8) = false ∧ (o == 6#8) = false ∧ (o == 7#8) = false := by
  simp only [exclB, Bool.or_eq_false_iff] at h
  exact ⟨h.1.1.1.1.1.1.1.1, h.1.1.1.1.1.1.1.2, h.1.1.1.1.1.1.2, h.1.1.1.1.1.2⟩
theorem fits2_two : Fits2 twoN twoR := by
  intro o w a b hw ho _
  refine le_of_fit ?_
  unfold twoN ifF
  split
  · rename_i hm
    obtain ⟨ha, hb⟩ := may_fit hm
    obtain ⟨h4, h5, h6, h7⟩ := exclB_no ho
    exact two_fits ha hb h4 h5 h6 h7
  · exact fit_zero hw
theorem t_V13 : Snd 13 (VtwoS twoN twoR) := t_vTwo t_Two
theorem t_V14 : Snd 14 (VtwoS twoN twoR) := t_rvTwo t_rTwo fits2_two
abbrev B2x := BitVec 8 → Int → BitVec 64 → BitVec 64 → BitVec 64 → BitVec 64 → BitVec 64
abbrev E2x := BitVec 8 → Int → BitVec 64 → BitVec 64 → BitVec 64 → BitVec 64 → Int
/-- Over whatever functions. -/
noncomputable def V2G (P Q : B2x) (E : E2x) : Ev.Spec := joined fun | [.u8 o, .i .i64 w, .agg [.u64 a0, .u64 a1], .agg [.u64 b0, .u64 b1]] => some (.tup [vec (P o w a0 a1 b0 b1) (Q o w a0 a1 b0 b1), .i .i64 (E o w a0 a1 b0 b1)]) | _ => none
end Go.L07
