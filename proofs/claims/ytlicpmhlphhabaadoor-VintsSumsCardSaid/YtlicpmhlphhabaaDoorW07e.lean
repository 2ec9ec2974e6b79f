/-
  Part of the proof; what its functions and lemmas say stands in the text.
-/
import Derived.Test.YtlicpmhlphhabaaDoorW07d
set_option linter.unusedSimpArgs false
set_option linter.unusedVariables false
/-!
Vectors of whole numbers: whether no lane is 0; the lanes' highest bits; works.
-/
namespace Go.L07
open Go.Ev Go.Proofs Go.RowKit Go.Wh

def noZero (l : List (BitVec 64)) : Bool := l.all fun x => !(x == 0#64)
def chainZ : List (BitVec 64) → Option D
  | [] => some (.tup [.bool true, .i .i64 0])
  | x :: l => if (x == 0#64) = true then some (.tup [.bool false, .i .i64 0]) else chainZ l
theorem chainZ_eq : ∀ l : List (BitVec 64), chainZ l = some (.tup [.bool (noZero l), .i .i64 0])
  | [] => rfl
  | x :: l => by
    simp only [chainZ, chainZ_eq l, noZero, List.all_cons]
    by_cases h : x = 0#64
    · subst h; rfl
    · have e : (x == 0#64) = false := by simp [h]
      simp only [e, Bool.false_eq_true, if_false, Bool.not_false, Bool.true_and]
def hiBits (w : Int) : Nat → BitVec 64 → List (BitVec 64) → BitVec 64
  | _, n, [] => n
  | i, n, x :: l => hiBits w (i + 1) (n ||| (x >>> (BitVec.ofInt 64 (IntKind.i64.wrap (w - 1))).toNat) <<< (BitVec.ofInt 64 (i : Int)).toNat) l
noncomputable def AllS : Ev.Spec := joined fun | [.i .i64 w, .agg [.u64 a0, .u64 a1]] => some (.tup [.bool (okW w && noZero (listF a0 a1 w)), .i .i64 (errF (okW w))]) | _ => none
noncomputable def MaskS : Ev.Spec := joined fun | [.i .i64 w, .agg [.u64 a0, .u64 a1]] => some (.tup [.u64 (ifF (okW w) (hiBits w 0 0#64 (listF a0 a1 w))), .i .i64 (errF (okW w))]) | _ => none
def annA : Nat → List Nat := fun | 5 => [19, 20, 21] | _ => []
def annM : Nat → List Nat := fun | 6 => [0, 8, 20, 21, 22] | _ => []
theorem vAll_8 (a0 a1 : BitVec 64) : ex [(41, left allF)] annA Tryd.f28 [.i .i64 8, vec a0 a1] some = chainZ (listF a0 a1 8) := by kernel_rfl
theorem vMask_8 (a0 a1 : BitVec 64) : ex [(41, left allF)] annM Tryd.f30 [.i .i64 8, vec a0 a1] some = some (.tup [.u64 (hiBits 8 0 0#64 (listF a0 a1 8)), .i .i64 0]) := by kernel_rfl
theorem vAll_16 (a0 a1 : BitVec 64) : ex [(41, left allF)] annA Tryd.f28 [.i .i64 16, vec a0 a1] some = chainZ (listF a0 a1 16) := by kernel_rfl
theorem vMask_16 (a0 a1 : BitVec 64) : ex [(41, left allF)] annM Tryd.f30 [.i .i64 16, vec a0 a1] some = some (.tup [.u64 (hiBits 16 0 0#64 (listF a0 a1 16)), .i .i64 0]) := by kernel_rfl
theorem vAll_32 (a0 a1 : BitVec 64) : ex [(41, left allF)] annA Tryd.f28 [.i .i64 32, vec a0 a1] some = chainZ (listF a0 a1 32) := by kernel_rfl
theorem vMask_32 (a0 a1 : BitVec 64) : ex [(41, left allF)] annM Tryd.f30 [.i .i64 32, vec a0 a1] some = some (.tup [.u64 (hiBits 32 0 0#64 (listF a0 a1 32)), .i .i64 0]) := by kernel_rfl
theorem vAll_64 (a0 a1 : BitVec 64) : ex [(41, left allF)] annA Tryd.f28 [.i .i64 64, vec a0 a1] some = chainZ (listF a0 a1 64) := by kernel_rfl
theorem vMask_64 (a0 a1 : BitVec 64) : ex [(41, left allF)] annM Tryd.f30 [.i .i64 64, vec a0 a1] some = some (.tup [.u64 (hiBits 64 0 0#64 (listF a0 a1 64)), .i .i64 0]) := by kernel_rfl
theorem vAll_no (w : Int) (a0 a1 : BitVec 64) : ex [(41, right allF)] (fun _ => []) Tryd.f28 [.i .i64 w, vec a0 a1] some = if (!okW w) = true then some (.tup [.bool false, .i .i64 2]) else none := by kernel_rfl
theorem vMask_no (w : Int) (a0 a1 : BitVec 64) : ex [(41, right allF)] (fun _ => []) Tryd.f30 [.i .i64 w, vec a0 a1] some = if (!okW w) = true then some (.tup [.u64 0#64, .i .i64 2]) else none := by kernel_rfl
theorem t_vAll : Snd 28 AllS := by
  refine Sound.of_pt fun ds d hd => ?_
  split at hd
  · rename_i w a0 a1
    cases hd
    cases hw : okW w
    · refine (execFn_sound (ann := fun _ => []) (TableOK.cons All28.right TableOK.nil) mixed Tryd.func28 (by kernel_rfl) 50).pt ((vAll_no w a0 a1).trans ?_)
      rw [hw]; rfl
    · have S := execFn_sound (P := Tryd.prog) (G := G0) (ann := annA) (TableOK.cons All28.left TableOK.nil) mixed Tryd.func28 (by kernel_rfl) 50
      rcases okW_cases hw with rfl | rfl | rfl | rfl
      · exact S.pt ((vAll_8 a0 a1).trans (chainZ_eq _))
      · exact S.pt ((vAll_16 a0 a1).trans (chainZ_eq _))
      · exact S.pt ((vAll_32 a0 a1).trans (chainZ_eq _))
      · exact S.pt ((vAll_64 a0 a1).trans (chainZ_eq _))
  · cases hd
theorem t_vMask : Snd 30 MaskS := by
  refine Sound.of_pt fun ds d hd => ?_
  split at hd
  · rename_i w a0 a1
    cases hd
    cases hw : okW w
    · refine (execFn_sound (ann := fun _ => []) (TableOK.cons All28.right TableOK.nil) mixed Tryd.func30 (by kernel_rfl) 50).pt ((vMask_no w a0 a1).trans ?_)
      rw [hw]; rfl
    · have S := execFn_sound (P := Tryd.prog) (G := G0) (ann := annM) (TableOK.cons All28.left TableOK.nil) mixed Tryd.func30 (by kernel_rfl) 50
      rcases okW_cases hw with rfl | rfl | rfl | rfl
      · exact S.pt (vMask_8 a0 a1)
      · exact S.pt (vMask_16 a0 a1)
      · exact S.pt (vMask_32 a0 a1)
      · exact S.pt (vMask_64 a0 a1)
  · cases hd
theorem t_works : Snd 15 worksS := by
  refine Sound.join (execFn_sound (ann := fun _ => []) (TableOK.cons Spl23 (TableOK.cons t_V13 (TableOK.cons t_vMask TableOK.nil))) mixed Tryd.func15 (by kernel_rfl) 50) fun ds d h => ?_
  split at h
  · cases h; kernel_rfl
  · cases h
/-! what may be handed in -/
section
variable {H : Type} {enc : TypeId × Value → H} {W : World} {base b0 : Nat} {spare : Nat → Bool} {held : Bool} {r : Reach} {own : Option Nat} {v : Value} {d : DataW H} {p : List MemPlace}
theorem a_vec (hv : Value.okWide Tryd.prog W r b0 25 v) (h : DataW.Trod enc Tryd.prog W base spare held 25 v d p) : ∃ x y : BitVec 64, lies own W (vec x y) v :=
  arg_vec Tryd.underlying25 (by kernel_rfl) (by kernel_rfl) Tryd.underlying23 Tryd.underlying23 hv h
end
end Go.L07
