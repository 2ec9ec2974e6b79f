/-
  Part of the proof; what its functions and lemmas say stands in the text.
-/
import Derived.Test.YtakonchpkchfhaaDoorWh8
import Derived.Test.YtakonchpkchfhaaDoorS03f
set_option linter.unusedSimpArgs false
set_option linter.unusedVariables false
/-!
Whole numbers: quotients, moves, what is held.
-/
namespace Go.L03
open Go.Ev Go.Proofs Go.RowKit Go.Wh

noncomputable def DivS : Ev.Spec := guarded fun | [.u8 o, .i .i64 w, .u64 a, .u64 b] => some (fitF w a && fitF w b, divD o w a b) | _ => none
theorem nf_div (o : BitVec 8) (w : Int) (a b : BitVec 64) : ex [(32, worthS), (33, endsS), (28, maskOS)] (fun _ => []) Tryd.f29 [.u8 o, .i .i64 w, .u64 a, .u64 b] some = divP o w a b := by kernel_rfl
theorem t_divide : Snd 29 DivS := by
  refine Sound.guard (execFn_sound (ann := fun _ => []) (TableOK.cons t_worth (TableOK.cons t_ends (TableOK.cons t_mask TableOK.nil))) mixed Tryd.func29 (by kernel_rfl) 50) fun ds d h => ?_
  split at h
  · rename_i o w a b
    simp only [Option.some.injEq, Prod.mk.injEq, Bool.and_eq_true] at h
    obtain ⟨⟨h1, h2⟩, rfl⟩ := h
    exact (nf_div o w a b).trans (divP_eq h1 h2)
  · cases h
noncomputable def MovS : Ev.Spec := guarded fun | [.u8 o, .i .i64 w, .u64 a, .u64 n] => some (fitF w a, .u64 (movV o w a n)) | _ => none
theorem nf_mov (o : BitVec 8) (w : Int) (a n : BitVec 64) : ex [(32, worthS), (28, maskOS)] (fun _ => []) Tryd.f30 [.u8 o, .i .i64 w, .u64 a, .u64 n] some = movP o w a n := by kernel_rfl
theorem t_move : Snd 30 MovS := by
  refine Sound.guard (execFn_sound (ann := fun _ => []) (TableOK.cons t_worth (TableOK.cons t_mask TableOK.nil)) mixed Tryd.func30 (by kernel_rfl) 50) fun ds d h => ?_
  split at h
  · rename_i o w a n
    simp only [Option.some.injEq, Prod.mk.injEq] at h
    obtain ⟨h1, rfl⟩ := h
    exact (nf_mov o w a n).trans (movP_eq h1)
  · cases h
noncomputable def SatS : Ev.Spec := guarded fun | [.u8 o, .i .i64 w, .u64 a, .u64 b] => some (fitF w a && fitF w b, .u64 (satV o w a b)) | _ => none
theorem nf_sat (o : BitVec 8) (w : Int) (a b : BitVec 64) : ex [(32, worthS), (33, endsS), (28, maskOS), (51, add64S)] (fun _ => []) Tryd.f31 [.u8 o, .i .i64 w, .u64 a, .u64 b] some = satP o w a b := by kernel_rfl
theorem t_saturate : Snd 31 SatS := by
  refine Sound.guard (execFn_sound (ann := fun _ => []) (TableOK.cons t_worth (TableOK.cons t_ends (TableOK.cons t_mask (TableOK.cons t_Add64 TableOK.nil)))) mixed Tryd.func31 (by kernel_rfl) 50) fun ds d h => ?_
  split at h
  · rename_i o w a b
    simp only [Option.some.injEq, Prod.mk.injEq, Bool.and_eq_true] at h
    obtain ⟨⟨h1, h2⟩, rfl⟩ := h
    exact (nf_sat o w a b).trans (satP_eq h1 h2)
  · cases h
end Go.L03
