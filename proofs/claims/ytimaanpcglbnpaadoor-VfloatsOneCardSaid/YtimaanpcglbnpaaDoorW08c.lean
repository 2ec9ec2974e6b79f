/-
  Part of the proof; what its functions and lemmas say stands in the text.
-/
import Derived.Test.YtimaanpcglbnpaaDoorW08b
import Derived.Test.YtimaanpcglbnpaaDoorF08C
import Derived.Test.YtimaanpcglbnpaaDoorFl22
set_option linter.unusedSimpArgs false
set_option linter.unusedVariables false
/-!
Vectors of floats: works; helpers of the laws.
-/
namespace Go.L08
open Go.L08F (WV CV CE twoG thanG f_two f_rtwo f_than f_rthan)
open Go.Ev Go.Proofs Go.RowKit Go.Wh Go.Fl

abbrev B2x := BitVec 8 → Int → BitVec 64 → BitVec 64 → BitVec 64 → BitVec 64 → BitVec 64
abbrev E2x := BitVec 8 → Int → BitVec 64 → BitVec 64 → BitVec 64 → BitVec 64 → Int
noncomputable def V2G (P Q : B2x) (E : E2x) : Ev.Spec := joined fun | [.u8 o, .i .i64 w, .agg [.u64 a0, .u64 a1], .agg [.u64 b0, .u64 b1]] => some (.tup [vec (P o w a0 a1 b0 b1) (Q o w a0 a1 b0 b1), .i .i64 (E o w a0 a1 b0 b1)]) | _ => none
def okV (N : WV) (R : CE) (o : BitVec 8) (w : Int) (a0 a1 b0 b1 : BitVec 64) : Bool := okEach w (rT R o w a0 a1 b0 b1) (lT N o w a0 a1 b0 b1)
def pV (N : WV) (R : CE) : B2x := fun o w a0 a1 b0 b1 => ifF (okV N R o w a0 a1 b0 b1) (vecF w (lT N o w a0 a1 b0 b1)).1
def qV (N : WV) (R : CE) : B2x := fun o w a0 a1 b0 b1 => ifF (okV N R o w a0 a1 b0 b1) (vecF w (lT N o w a0 a1 b0 b1)).2
def eV (N : WV) (R : CE) : E2x := fun o w a0 a1 b0 b1 => errF (okV N R o w a0 a1 b0 b1)
theorem V2_of {f : Nat} {N : WV} {R : CE} (h : Snd f (VtwoS N R)) : Snd f (V2G (pV N R) (qV N R) (eV N R)) := h
theorem good_two : Good2 ftwV ftwE := ⟨fun o w a b hw => tw_fits hw o a b, tw_err⟩
theorem v_two : Snd 9 (V2G (pV ftwV ftwE) (qV ftwV ftwE) (eV ftwV ftwE)) := V2_of (t_vTwo f_two)
theorem v_rtwo : Snd 10 (V2G (pV ftwV ftwE) (qV ftwV ftwE) (eV ftwV ftwE)) := V2_of (t_rvTwo f_rtwo good_two)
theorem v_than : Snd 12 (V2G (pV (thV fthV fthE) fthE) (qV (thV fthV fthE) fthE) (eV (thV fthV fthE) fthE)) := V2_of (t_vTh f_than)
theorem v_rthan : Snd 13 (V2G (pV (thV fthV fthE) fthE) (qV (thV fthV fthE) fthE) (eV (thV fthV fthE) fthE)) := V2_of (t_rvTh f_rthan th_err)
noncomputable def wkS : Ev.Spec := joined fun | [] => some (.bool true) | _ => none
theorem t_wk : Snd 11 wkS := by
  refine Sound.join (execFn_sound (ann := fun _ => []) (TableOK.cons Spl23 (TableOK.cons (t_vTwo f_two) TableOK.nil)) mixed Tryd.func11 (by kernel_rfl) 50) fun ds d h => ?_
  split at h
  · cases h; kernel_rfl
  · cases h
section
variable {H : Type} {enc : TypeId × Value → H} {W : World} {base b0 : Nat} {spare : Nat → Bool} {held : Bool} {r : Reach} {own : Option Nat} {v : Value} {d : DataW H} {p : List MemPlace}
set_option maxRecDepth 100000 in
theorem a_vec (hv : Value.okWide Tryd.prog W r b0 25 v) (h : DataW.Trod enc Tryd.prog W base spare held 25 v d p) : ∃ x y : BitVec 64, lies own W (vec x y) v :=
  arg_vec Tryd.underlying25 (by kernel_rfl) (by kernel_rfl) Tryd.underlying23 Tryd.underlying23 hv h
end
end Go.L08
