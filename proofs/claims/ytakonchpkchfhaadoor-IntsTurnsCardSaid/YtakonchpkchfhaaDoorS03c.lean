/-
  Part of the proof; what its functions and lemmas say stands in the text.
-/
import Derived.Test.YtakonchpkchfhaaDoorWh3
import Derived.Test.YtakonchpkchfhaaDoorS03b
set_option linter.unusedSimpArgs false
set_option linter.unusedVariables false
/-!
Whole numbers: comparisons.
-/
namespace Go.L03
open Go.Ev Go.Proofs Go.RowKit Go.Wh

noncomputable def ThanS : Ev.Spec := joined fun | [.u8 o, .i .i64 w, .u64 a, .u64 b] => some (thanV o w a b) | _ => none
theorem nf_Than (o : BitVec 8) (w : Int) (a b : BitVec 64) : ex [(27, mayS), (32, worthS)] (fun _ => []) Tryd.f25 [.u8 o, .i .i64 w, .u64 a, .u64 b] some =
  if (!mayF w [a, b]) = true then some (.tup [.bool false, .i .i64 2]) else if fitF w a = true then if fitF w b = true then thanT o w a b else none else none := by kernel_rfl
theorem than_end (o : BitVec 8) (w : Int) (a b : BitVec 64) : (if (!mayF w [a, b]) = true then some (.tup [.bool false, .i .i64 2]) else if fitF w a = true then if fitF w b = true then thanT o w a b else none else none) = some (thanV o w a b) := by
  unfold thanV
  cases hm : mayF w [a, b]
  · rfl
  · obtain ⟨h1, h2⟩ := may_fit hm
    simp only [h1, h2, thanT_eq, Bool.not_true, Bool.false_eq_true, if_false, if_true, Bool.true_and]
theorem t_Than : Snd 25 ThanS := by
  refine Sound.join (execFn_sound (ann := fun _ => []) (TableOK.cons t_may (TableOK.cons t_worth TableOK.nil)) mixed Tryd.func25 (by kernel_rfl) 50) fun ds d h => ?_
  split at h
  · rename_i o w a b
    cases h
    exact (nf_Than o w a b).trans (than_end o w a b)
  · cases h
theorem nf_rThan (o : BitVec 8) (w : Int) (a b : BitVec 64) : ex [(35, widthS), (36, fitsS), (48, worthS)] (fun _ => []) Tryd.f26 [.u8 o, .i .i64 w, .u64 a, .u64 b] some =
  if (!okW w) = false then if (!decide (a ≤ maskF w)) = false then if (!decide (b ≤ maskF w)) = true then some (.tup [.bool false, .i .i64 2]) else if fitF w a = true then if fitF w b = true then thanT o w a b else none else none
    else some (.tup [.bool false, .i .i64 2]) else some (.tup [.bool false, .i .i64 2]) := by kernel_rfl
theorem t_rThan : Snd 26 ThanS := by
  refine Sound.join (execFn_sound (ann := fun _ => []) (TableOK.cons t_Width (TableOK.cons t_Fits (TableOK.cons t_Worth TableOK.nil))) mixed Tryd.func26 (by kernel_rfl) 50) fun ds d h => ?_
  split at h
  · rename_i o w a b
    cases h
    exact (nf_rThan o w a b).trans (may_ref.trans (than_end o w a b))
  · cases h
end Go.L03
