/-
  Part of the proof; what its functions and lemmas say stands in the text.
-/
import Derived.Test.YtakonchpkchfhaaDoorS03r
set_option linter.unusedSimpArgs false
set_option linter.unusedVariables false
/-!
works; width; numbers of a width.
-/
namespace Go.L03
open Go.Ev Go.Proofs Go.RowKit Go.Wh

noncomputable abbrev sDivide : Ev.Spec := ex [(32, worthS), (33, endsS), (28, maskOS)] (fun _ => []) Tryd.f29
theorem in_Divide : Snd 29 sDivide := execFn_sound (TableOK.cons t_worth (TableOK.cons t_ends (TableOK.cons t_mask TableOK.nil))) mixed Tryd.func29 (by kernel_rfl) 50
noncomputable abbrev sTwo : Ev.Spec := ex [(27, mayS), (29, sDivide)] (fun _ => []) Tryd.f13
theorem in_Two : Snd 13 sTwo := execFn_sound (TableOK.cons t_may (TableOK.cons in_Divide TableOK.nil)) mixed Tryd.func13 (by kernel_rfl) 50
noncomputable abbrev sLen : Ev.Spec := ex [] (fun _ => []) Tryd.f52
theorem in_Len : Snd 52 sLen := execFn_sound TableOK.nil mixed Tryd.func52 (by kernel_rfl) 50
noncomputable abbrev sLZ : Ev.Spec := ex [(52, sLen)] (fun _ => []) Tryd.f44
theorem in_LZ : Snd 44 sLZ := execFn_sound (TableOK.cons in_Len TableOK.nil) mixed Tryd.func44 (by kernel_rfl) 50
noncomputable abbrev sOne : Ev.Spec := ex [(27, mayS), (44, sLZ)] (fun _ => []) Tryd.f16
theorem in_One : Snd 16 sOne := execFn_sound (TableOK.cons t_may (TableOK.cons in_LZ TableOK.nil)) mixed Tryd.func16 (by kernel_rfl) 50
noncomputable def worksS : Ev.Spec := joined fun | [] => some (.bool true) | _ => none
theorem t_works : Snd 15 worksS := by
  refine Sound.join (execFn_sound (ann := fun _ => []) (TableOK.cons in_Two (TableOK.cons in_One TableOK.nil)) mixed Tryd.func15 (by kernel_rfl) 50) fun ds d h => ?_
  split at h
  · cases h; kernel_rfl
  · cases h
end Go.L03
