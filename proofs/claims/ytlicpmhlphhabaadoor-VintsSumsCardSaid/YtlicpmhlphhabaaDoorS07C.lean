/-
  Part of the proof; what its functions and lemmas say stands in the text.
-/
import Derived.Test.YtlicpmhlphhabaaDoorWhC
import Derived.Test.YtlicpmhlphhabaaDoorS07j
set_option linter.unusedSimpArgs false
set_option linter.unusedVariables false
/-!
Whole numbers: the reference's operators of two, in parts.
-/
namespace Go.L07
open Go.Ev Go.Proofs Go.RowKit Go.Wh

theorem nf_rdiv (o : BitVec 8) (w : Int) (a b : BitVec 64) : ex [(69, worthS), (90, leastS), (75, numS)] (fun _ => []) Tryd.f77 [.u8 o, .i .i64 w, .u64 a, .u64 b] some = divR o w a b := by kernel_rfl
theorem t_rdivided : Snd 77 DivS := by
  refine Sound.guard (execFn_sound (ann := fun _ => []) (TableOK.cons t_Worth (TableOK.cons t_least (TableOK.cons t_Number TableOK.nil))) mixed Tryd.func77 (by kernel_rfl) 50) fun ds d h => ?_
  split at h
  · rename_i o w a b
    simp only [Option.some.injEq, Prod.mk.injEq, Bool.and_eq_true] at h
    obtain ⟨⟨h1, h2⟩, rfl⟩ := h
    exact (nf_rdiv o w a b).trans (divR_eq h1 h2)
  · cases h
noncomputable def rheldS : Ev.Spec := guarded fun | [.u8 o, .i .i64 w, .u64 a, .u64 b] => some (fitF w a && fitF w b && decide (o = 16#8 ∨ o = 17#8 ∨ o = 18#8 ∨ o = 19#8), .u64 (satV o w a b)) | _ => none
theorem nf_rheld (o : BitVec 8) (w : Int) (a b : BitVec 64) : ex [(69, worthS), (90, leastS), (91, greatestS), (75, numS), (68, maskS)] (fun _ => []) Tryd.f80 [.u8 o, .i .i64 w, .u64 a, .u64 b] some = satR o w a b := by kernel_rfl
theorem t_rheld : Snd 80 rheldS := by
  refine Sound.guard (execFn_sound (ann := fun _ => []) (TableOK.cons t_Worth (TableOK.cons t_least (TableOK.cons t_greatest (TableOK.cons t_Number (TableOK.cons t_Most TableOK.nil))))) mixed Tryd.func80 (by kernel_rfl) 50) fun ds d h => ?_
  split at h
  · rename_i o w a b
    simp only [Option.some.injEq, Prod.mk.injEq, Bool.and_eq_true, decide_eq_true_eq] at h
    obtain ⟨⟨⟨h1, h2⟩, h3⟩, rfl⟩ := h
    exact (nf_rheld o w a b).trans (satR_eq h1 h2 h3)
  · cases h
noncomputable def roneS : Ev.Spec := guarded fun | [.u8 o, .i .i64 w, .u64 a, .u64 b] => some (fitF w a && fitF w b && decide (o = 20#8 ∨ o = 21#8 ∨ o = 22#8 ∨ o = 23#8), .u64 (minV o w a b)) | _ => none
theorem nf_rone (o : BitVec 8) (w : Int) (a b : BitVec 64) : ex [(69, worthS)] (fun _ => []) Tryd.f81 [.u8 o, .i .i64 w, .u64 a, .u64 b] some = minR o w a b := by kernel_rfl
theorem t_roneOf : Snd 81 roneS := by
  refine Sound.guard (execFn_sound (ann := fun _ => []) (TableOK.cons t_Worth TableOK.nil) mixed Tryd.func81 (by kernel_rfl) 50) fun ds d h => ?_
  split at h
  · rename_i o w a b
    simp only [Option.some.injEq, Prod.mk.injEq, Bool.and_eq_true, decide_eq_true_eq] at h
    obtain ⟨⟨⟨h1, h2⟩, h3⟩, rfl⟩ := h
    exact (nf_rone o w a b).trans (minR_eq h1 h2 h3)
  · cases h
noncomputable def q15S : Ev.Spec := guarded fun | [.u64 a, .u64 b] => some (fitF 16 a && fitF 16 b, .u64 (q15V a b)) | _ => none
theorem nf_q15 (a b : BitVec 64) : ex [(69, worthS), (75, numS)] (fun _ => []) Tryd.f82 [.u64 a, .u64 b] some = q15R a b := by kernel_rfl
theorem t_rq15 : Snd 82 q15S := by
  refine Sound.guard (execFn_sound (ann := fun _ => []) (TableOK.cons t_Worth (TableOK.cons t_Number TableOK.nil)) mixed Tryd.func82 (by kernel_rfl) 50) fun ds d h => ?_
  split at h
  · rename_i a b
    simp only [Option.some.injEq, Prod.mk.injEq, Bool.and_eq_true] at h
    obtain ⟨⟨h1, h2⟩, rfl⟩ := h
    exact (nf_q15 a b).trans (q15R_eq h1 h2)
  · cases h
end Go.L07
/-!
Whole numbers: the reference's operators of two.
-/
namespace Go.L07
open Go.Ev Go.Proofs Go.RowKit Go.Wh

theorem nf_rTwo (o : BitVec 8) (w : Int) (a b : BitVec 64) : ex [(44, widthS), (76, fitsS), (68, maskS), (77, DivS), (78, bitsS), (79, movedS), (80, rheldS), (81, roneS), (82, q15S)] (fun _ => []) Tryd.f45 [.u8 o, .i .i64 w, .u64 a, .u64 b] some = twoRf o w a b := by kernel_rfl
theorem t_rTwo : Snd 45 TwoS := by
  refine Sound.join (execFn_sound (ann := fun _ => []) (TableOK.cons t_Width (TableOK.cons t_Fits (TableOK.cons t_Most (TableOK.cons t_rdivided (TableOK.cons t_rbits (TableOK.cons t_rmoved (TableOK.cons t_rheld (TableOK.cons t_roneOf (TableOK.cons t_rq15 TableOK.nil))))))))) mixed Tryd.func45 (by kernel_rfl) 50) fun ds d h => ?_
  split at h
  · rename_i o w a b
    cases h
    exact (nf_rTwo o w a b).trans (twoRf_eq o w a b)
  · cases h
end Go.L07
