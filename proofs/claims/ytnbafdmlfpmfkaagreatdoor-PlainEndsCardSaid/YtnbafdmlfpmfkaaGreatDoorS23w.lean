/-
  Part of the proof; what its functions and lemmas say stands in the text.
-/
import Derived.Test.YtnbafdmlfpmfkaaGreatDoorS23A
set_option linter.unusedSimpArgs false
set_option linter.unusedVariables false
namespace Go.L23
open Go.Ev Go.Proofs Go.RowKit Go.Wh
noncomputable def worksS : Ev.Spec := joined fun | [] => some (.bool true) | _ => none
theorem t_works : Snd 12 worksS := by
 refine Sound.join t_X12 fun ds d h => ?_
 split at h
 ·cases h
  kernel_rfl
 ·cases h
end Go.L23
