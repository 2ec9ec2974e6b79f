/-
  Part of the proof; what its functions and lemmas say stands in the text.
-/
import Derived.Test.YtieeafjcnomakaaF04C
set_option linter.unusedSimpArgs false
set_option linter.unusedVariables false
/-!
Chapter 04: floats that the document tells.
-/
namespace Go.L04
open Go.Ev Go.Proofs Go.RowKit Go.Wh Go.Fl

noncomputable def worksS : Ev.Spec := joined fun | [] => some (.bool true) | _ => none
theorem s_works : Snd 15 worksS := by
  refine Sound.join (execFn_sound (ann := fun _ => []) (TableOK.cons f_two TableOK.nil) mixed Try.func15 (by kernel_rfl) 50) fun ds d h => ?_
  split at h
  · cases h; kernel_rfl
  · cases h
end Go.L04
