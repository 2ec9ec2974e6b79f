/-
  Part of the proof; what its functions and lemmas say stands in the text.
-/
import Derived.Test.YtakonchpkchfhaaDoorWhC
import Derived.Test.YtakonchpkchfhaaDoorS03k
set_option linter.unusedSimpArgs false
set_option linter.unusedVariables false
/-!
Whole numbers: the reference's operators of two.
-/
namespace Go.L03
open Go.Ev Go.Proofs Go.RowKit Go.Wh

theorem nf_rTwo (o : BitVec 8) (w : Int) (a b : BitVec 64) : ex [(35, widthS), (36, fitsS), (37, maskS), (38, DivS), (39, bitsS), (40, movedS), (41, rheldS), (42, roneS), (43, q15S)] (fun _ => []) Tryd.f14 [.u8 o, .i .i64 w, .u64 a, .u64 b] some = twoRf o w a b := by kernel_rfl
theorem t_rTwo : Snd 14 TwoS := by
  refine Sound.join (execFn_sound (ann := fun _ => []) (TableOK.cons t_Width (TableOK.cons t_Fits (TableOK.cons t_Most (TableOK.cons t_rdivided (TableOK.cons t_rbits (TableOK.cons t_rmoved (TableOK.cons t_rheld (TableOK.cons t_roneOf (TableOK.cons t_rq15 TableOK.nil))))))))) mixed Tryd.func14 (by kernel_rfl) 50) fun ds d h => ?_
  split at h
  · rename_i o w a b
    cases h
    exact (nf_rTwo o w a b).trans (twoRf_eq o w a b)
  · cases h
end Go.L03
