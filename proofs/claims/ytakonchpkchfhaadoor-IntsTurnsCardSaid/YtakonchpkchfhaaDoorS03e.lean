/-
  Part of the proof; what its functions and lemmas say stands in the text.
-/
import Derived.Test.YtakonchpkchfhaaDoorWh5
import Derived.Test.YtakonchpkchfhaaDoorS03d
set_option linter.unusedSimpArgs false
set_option linter.unusedVariables false
/-!
Whole numbers: a width, a number of it.
-/
namespace Go.L03
open Go.Ev Go.Proofs Go.RowKit Go.Wh

def widF (n : BitVec 8) : Int := IntKind.i64.wrap (8 * 2 ^ min (BitVec.setWidth 64 (n % BitVec.ofInt 8 4)).toNat IntKind.i64.bits)
theorem okW_wid (n : BitVec 8) : okW (widF n) = true := by
  revert n; decide +kernel
noncomputable def widS : Ev.Spec := joined fun | [.u8 n] => some (.i .i64 (widF n)) | _ => none
theorem t_wid : Snd 18 widS := by
  refine Sound.join (execFn_sound (ann := fun _ => []) TableOK.nil mixed Tryd.func18 (by kernel_rfl) 50) fun ds d h => ?_
  split at h
  · cases h; kernel_rfl
  · cases h
noncomputable def ofS : Ev.Spec := joined fun | [.i .i64 w, .u64 a] => some (.u64 (a &&& maskF w)) | _ => none
theorem t_of : Snd 19 ofS := by
  refine Sound.join (execFn_sound (ann := fun _ => []) TableOK.nil mixed Tryd.func19 (by kernel_rfl) 50) fun ds d h => ?_
  split at h
  · cases h; kernel_rfl
  · cases h
end Go.L03
