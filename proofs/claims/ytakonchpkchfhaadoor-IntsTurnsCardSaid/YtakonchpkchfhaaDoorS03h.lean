/-
  Part of the proof; what its functions and lemmas say stands in the text.
-/
import Derived.Test.YtakonchpkchfhaaDoorWh9
import Derived.Test.YtakonchpkchfhaaDoorS03g
set_option linter.unusedSimpArgs false
set_option linter.unusedVariables false
/-!
Whole numbers: the operators of two.
-/
namespace Go.L03
open Go.Ev Go.Proofs Go.RowKit Go.Wh

/-- Over whatever functions: what a caller does hangs on no more. -/
noncomputable def TwoG (N : BitVec 8 → Int → BitVec 64 → BitVec 64 → BitVec 64) (R : BitVec 8 → Int → BitVec 64 → BitVec 64 → Int) : Ev.Spec := joined fun | [.u8 o, .i .i64 w, .u64 a, .u64 b] => some (.tup [.u64 (N o w a b), .i .i64 (R o w a b)]) | _ => none
noncomputable def TwoS : Ev.Spec := TwoG twoN twoR
theorem nf_Two (o : BitVec 8) (w : Int) (a b : BitVec 64) : ex [(27, mayS), (28, maskOS), (29, DivS), (30, MovS), (31, SatS), (32, worthS), (33, endsS), (34, heldS)] (fun _ => []) Tryd.f13 [.u8 o, .i .i64 w, .u64 a, .u64 b] some = twoP o w a b := by kernel_rfl
theorem t_Two : Snd 13 TwoS := by
  refine Sound.join (execFn_sound (ann := fun _ => []) (TableOK.cons t_may (TableOK.cons t_mask (TableOK.cons t_divide (TableOK.cons t_move (TableOK.cons t_saturate (TableOK.cons t_worth (TableOK.cons t_ends (TableOK.cons t_held TableOK.nil)))))))) mixed Tryd.func13 (by kernel_rfl) 50) fun ds d h => ?_
  split at h
  · rename_i o w a b
    cases h
    exact (nf_Two o w a b).trans (twoP_eq o w a b)
  · cases h
noncomputable def two1G (N : BitVec 8 → Int → BitVec 64 → BitVec 64 → BitVec 64) : Ev.Spec := joined fun | [.u8 o, .i .i64 w, .u64 a, .u64 b] => some (.u64 (N o w a b)) | _ => none
noncomputable def two1S : Ev.Spec := two1G twoN
theorem t_two1 : Snd 20 two1S := by
  refine Sound.join (execFn_sound (ann := fun _ => []) (TableOK.cons t_Two TableOK.nil) mixed Tryd.func20 (by kernel_rfl) 50) fun ds d h => ?_
  split at h
  · cases h; kernel_rfl
  · cases h
noncomputable def widG (W : BitVec 8 → Int) : Ev.Spec := joined fun | [.u8 n] => some (.i .i64 (W n)) | _ => none
noncomputable def ofG (O : Int → BitVec 64 → BitVec 64) : Ev.Spec := joined fun | [.i .i64 w, .u64 a] => some (.u64 (O w a)) | _ => none
noncomputable def ThanG (C : BitVec 8 → Int → BitVec 64 → BitVec 64 → Bool) : Ev.Spec := joined fun | [.u8 o, .i .i64 w, .u64 a, .u64 b] => some (.tup [.bool (C o w a b), .any]) | _ => none
noncomputable def OneG (U : BitVec 8 → Int → BitVec 64 → BitVec 64) : Ev.Spec := joined fun | [.u8 o, .i .i64 w, .u64 a] => some (.tup [.u64 (U o w a), .any]) | _ => none
end Go.L03
