/-
  Part of the proof; what its functions and lemmas say stands in the text.
-/
import Derived.Test.YtlcgkcnknjflpaaDoorS06n
set_option linter.unusedSimpArgs false
set_option linter.unusedVariables false
/-!
Chapter 06: lists: nothing in them.
-/
namespace Go.L06
open Go.Ev Go.Proofs Go.RowKit Go.Rt

noncomputable def WordsN : Ev.Spec := joined fun | [.c (.slice none 0 0), .c (.slice none 0 0)] => some (.bool true) | _ => none
theorem Words33n : Snd 33 WordsN := by
  refine Sound.join (execFn_sound (ann := fun | 4 => [0, 1, 4, 5] | _ => []) TableOK.nil mixed Tryd.func33 (by kernel_rfl) 50) fun ds d h => ?_
  split at h
  · cases h; kernel_rfl
  · cases h

/-- The vector of no lanes, in memory that holds none. -/
noncomputable def OfE : Ev.Spec := joined fun | [.i .i64 _, .c (.slice (some _) 0 0)] => some ofErr | _ => none
open Classical in
theorem Of30e : Snd 30 OfE := by
  intro ds K r hK
  unfold OfE joined at hK
  split at hK
  · rename_i d hF
    dsimp only at hF
    split at hF
    · rename_i w a
      cases hF
      by_cases hw : okW w = true
      · refine execFn_sound (ann := ann30) (TableOK.cons is40 TableOK.nil) mixed Tryd.func30 (by kernel_rfl) 50 |>.join (F := fun ds => if ds = [.i .i64 w, .c (.slice (some a) 0 0)] then some ofErr else none) ?_ _ K r ?_
        · intro ds d h
          split at h
          · rename_i hd
            subst hd; cases h
            rcases okW_cases hw with rfl | rfl | rfl | rfl <;> kernel_rfl
          · cases h
        · simp only [joined, if_true]; exact hK
      · refine execFn_sound (ann := fun _ => []) (TableOK.cons isNo40 TableOK.nil) mixed Tryd.func30 (by kernel_rfl) 50 |>.join (F := fun ds => if ds = [.i .i64 w, .c (.slice (some a) 0 0)] then some ofErr else none) ?_ _ K r ?_
        · intro ds d h
          split at h
          · rename_i hd
            subst hd; cases h
            have nf : ex [(40, isNoS)] (fun _ => []) Tryd.f30 [.i .i64 w, .c (.slice (some a) 0 0)] some = if (!isF w 0#64) = true then some ofErr else none := by kernel_rfl
            refine nf.trans (if_pos ?_)
            rw [isF_zero]; simpa using hw
          · cases h
        · simp only [joined, if_true]; exact hK
    · cases hF
  · cases hK
open Classical in
theorem Of31e : Snd 31 OfE := by
  intro ds K r hK
  unfold OfE joined at hK
  split at hK
  · rename_i d hF
    dsimp only at hF
    split at hF
    · rename_i w a
      cases hF
      by_cases hw : okW w = true
      · refine execFn_sound (ann := ann31) (TableOK.cons width42 TableOK.nil) mixed Tryd.func31 (by kernel_rfl) 50 |>.join (F := fun ds => if ds = [.i .i64 w, .c (.slice (some a) 0 0)] then some ofErr else none) ?_ _ K r ?_
        · intro ds d h
          split at h
          · rename_i hd
            subst hd; cases h
            rcases okW_cases hw with rfl | rfl | rfl | rfl <;> kernel_rfl
          · cases h
        · simp only [joined, if_true]; exact hK
      · refine execFn_sound (ann := fun _ => []) (TableOK.cons width42no TableOK.nil) mixed Tryd.func31 (by kernel_rfl) 50 |>.join (F := fun ds => if ds = [.i .i64 w, .c (.slice (some a) 0 0)] then some ofErr else none) ?_ _ K r ?_
        · intro ds d h
          split at h
          · rename_i hd
            subst hd; cases h
            have nf : ex [(42, width42noS)] (fun _ => []) Tryd.f31 [.i .i64 w, .c (.slice (some a) 0 0)] some = if (!okW w) = true then some ofErr else none := by kernel_rfl
            exact nf.trans (if_pos (by simpa using hw))
          · cases h
        · simp only [joined, if_true]; exact hK
    · cases hF
  · cases hK
end Go.L06
