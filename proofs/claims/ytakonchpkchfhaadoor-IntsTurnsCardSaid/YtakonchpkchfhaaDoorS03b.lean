/-
  Part of the proof; what its functions and lemmas say stands in the text.
-/
import Derived.Test.YtakonchpkchfhaaDoorWh2
import Derived.Test.YtakonchpkchfhaaDoorS03a
set_option linter.unusedSimpArgs false
set_option linter.unusedVariables false
/-!
Whole numbers: worths, bounds.
-/
namespace Go.L03
open Go.Ev Go.Proofs Go.RowKit Go.Wh

noncomputable def worthS : Ev.Spec := guarded fun | [.i .i64 t, .u64 a] => some (fitF t a, .i .i64 (sgnF t a)) | _ => none
theorem w_8 (a : BitVec 64) : ex [] (fun _ => []) Tryd.f32 [.i .i64 8, .u64 a] some = some (.i .i64 (sOfU .i64 (a <<< 56) / 2 ^ 56)) := by kernel_rfl
theorem w_16 (a : BitVec 64) : ex [] (fun _ => []) Tryd.f32 [.i .i64 16, .u64 a] some = some (.i .i64 (sOfU .i64 (a <<< 48) / 2 ^ 48)) := by kernel_rfl
theorem w_32 (a : BitVec 64) : ex [] (fun _ => []) Tryd.f32 [.i .i64 32, .u64 a] some = some (.i .i64 (sOfU .i64 (a <<< 32) / 2 ^ 32)) := by kernel_rfl
theorem w_64 (a : BitVec 64) : ex [] (fun _ => []) Tryd.f32 [.i .i64 64, .u64 a] some = some (.i .i64 (sOfU .i64 (a <<< 0) / 2 ^ 0)) := by kernel_rfl
theorem t_worth : Snd 32 worthS := by
  refine Sound.guard (execFn_sound (ann := fun _ => []) TableOK.nil mixed Tryd.func32 (by kernel_rfl) 50) fun ds d h => ?_
  split at h
  · rename_i t a
    simp only [Option.some.injEq, Prod.mk.injEq] at h
    obtain ⟨h, rfl⟩ := h
    obtain ⟨hw, ha⟩ := fitF_nat h
    rcases okW_cases hw with rfl | rfl | rfl | rfl
    · exact (w_8 a).trans (by rw [worth8 ha])
    · exact (w_16 a).trans (by rw [worth16 ha])
    · exact (w_32 a).trans (by rw [worth32 ha])
    · exact (w_64 a).trans (by rw [worth64 a])
  · cases h
theorem nf_Worth (t : Int) (a : BitVec 64) : ex [(37, maskS)] (fun _ => []) Tryd.f48 [.i .i64 t, .u64 a] some = if decide (a ≤ maskF t / BitVec.ofInt 64 2) = true then some (.i .i64 (sOfU .i64 a)) else some (.i .i64 (IntKind.i64.wrap (IntKind.i64.wrap (0 - sOfU .i64 (maskF t - a)) - 1))) := by kernel_rfl
theorem t_Worth : Snd 48 worthS := by
  refine Sound.guard (execFn_sound (ann := fun _ => []) (TableOK.cons t_Most TableOK.nil) mixed Tryd.func48 (by kernel_rfl) 50) fun ds d h => ?_
  split at h
  · rename_i t a
    simp only [Option.some.injEq, Prod.mk.injEq] at h
    obtain ⟨h, rfl⟩ := h
    have e := refWorth h
    refine (nf_Worth t a).trans ?_
    rw [← e]
    split <;> rfl
  · cases h

/-! bounds -/
noncomputable def endsS : Ev.Spec := guarded fun | [.i .i64 t] => some (okW t, .tup [.i .i64 (-(pw t / 2)), .i .i64 (pw t / 2 - 1)]) | _ => none
theorem t_ends : Snd 33 endsS := by
  refine Sound.guard (execFn_sound (ann := fun _ => []) TableOK.nil mixed Tryd.func33 (by kernel_rfl) 50) fun ds d h => ?_
  split at h
  · rename_i t
    simp only [Option.some.injEq, Prod.mk.injEq] at h
    obtain ⟨h, rfl⟩ := h
    rcases okW_cases h with rfl | rfl | rfl | rfl <;> kernel_rfl
  · cases h
noncomputable def leastS : Ev.Spec := guarded fun | [.i .i64 t] => some (okW t, .i .i64 (-(pw t / 2))) | _ => none
theorem t_least : Snd 49 leastS := by
  refine Sound.guard (execFn_sound (ann := fun _ => []) (TableOK.cons t_Most TableOK.nil) mixed Tryd.func49 (by kernel_rfl) 50) fun ds d h => ?_
  split at h
  · rename_i t
    simp only [Option.some.injEq, Prod.mk.injEq] at h
    obtain ⟨h, rfl⟩ := h
    rcases okW_cases h with rfl | rfl | rfl | rfl <;> kernel_rfl
  · cases h
noncomputable def greatestS : Ev.Spec := guarded fun | [.i .i64 t] => some (okW t, .i .i64 (pw t / 2 - 1)) | _ => none
theorem t_greatest : Snd 50 greatestS := by
  refine Sound.guard (execFn_sound (ann := fun _ => []) (TableOK.cons t_Most TableOK.nil) mixed Tryd.func50 (by kernel_rfl) 50) fun ds d h => ?_
  split at h
  · rename_i t
    simp only [Option.some.injEq, Prod.mk.injEq] at h
    obtain ⟨h, rfl⟩ := h
    rcases okW_cases h with rfl | rfl | rfl | rfl <;> kernel_rfl
  · cases h
noncomputable def numS : Ev.Spec := joined fun | [.i .i64 t, .i .i64 n] => some (.u64 (BitVec.ofInt 64 n &&& maskF t)) | _ => none
theorem t_Number : Snd 47 numS := by
  refine Sound.join (execFn_sound (ann := fun _ => []) (TableOK.cons t_Most TableOK.nil) mixed Tryd.func47 (by kernel_rfl) 50) fun ds d h => ?_
  split at h
  · cases h; kernel_rfl
  · cases h
end Go.L03
