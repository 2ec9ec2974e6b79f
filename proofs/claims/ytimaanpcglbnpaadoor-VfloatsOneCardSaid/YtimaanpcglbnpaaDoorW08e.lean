/-
  Part of the proof; what its functions and lemmas say stands in the text.
-/
import Derived.Test.YtimaanpcglbnpaaDoorW08b
import Derived.Test.YtimaanpcglbnpaaDoorF08x
import Derived.Test.YtimaanpcglbnpaaDoorFl22
set_option linter.unusedSimpArgs false
set_option linter.unusedVariables false
/-!
Vectors of floats: operators of one.
-/
namespace Go.L08
open Go.L08F (onV onE onV1 onOp sqW sqN sqR wayO f_one f_rone oneG)
open Go.Ev Go.Proofs Go.RowKit Go.Wh Go.Fl

theorem in_on {w : Int} (o : BitVec 8) {a : BitVec 64} (ha : inF w a = true) : inF w (onV1 o w a) = true := by
  have hw := wOK_in ha
  unfold onV1
  split
  · exact in_and _ ha
  · split
    · exact in_xor ha
    · split
      · unfold sqW
        split
        · exact (na_no hw).1
        · split
          · exact (na_no hw).1
          · exact in_bs hw _
      · split
        · exact rnW_in _ ha
        · exact in_zero hw
theorem good_one : Good1 onV onE := ⟨fun o w a hw => by
  unfold onV
  split
  · rename_i ha
    exact in_le (in_on o ha)
  · exact in_le (in_zero hw), fun o w a => by
  unfold onE
  split
  · exact .inl rfl
  · exact .inr rfl⟩
abbrev B2y := BitVec 8 → Int → BitVec 64 → BitVec 64 → BitVec 64
abbrev E2y := BitVec 8 → Int → BitVec 64 → BitVec 64 → Int
noncomputable def V1G (P Q : B2y) (E : E2y) : Ev.Spec := joined fun | [.u8 o, .i .i64 w, .agg [.u64 a0, .u64 a1]] => some (.tup [vec (P o w a0 a1) (Q o w a0 a1), .i .i64 (E o w a0 a1)]) | _ => none
def okU (U : B1) (Q : E1) (o : BitVec 8) (w : Int) (a0 a1 : BitVec 64) : Bool := okEach w (rO Q o w a0 a1) (lO U o w a0 a1)
def pU : B2y := fun o w a0 a1 => ifF (okU onV onE o w a0 a1) (vecF w (lO onV o w a0 a1)).1
def qU : B2y := fun o w a0 a1 => ifF (okU onV onE o w a0 a1) (vecF w (lO onV o w a0 a1)).2
def eU : E2y := fun o w a0 a1 => errF (okU onV onE o w a0 a1)
theorem h_one : Snd 55 (onH onV onE) := f_one
theorem h_rone : Snd 56 (onH onV onE) := f_rone
theorem v_one : Snd 24 (V1G pU qU eU) := t_vOne h_one
theorem v_rone : Snd 25 (V1G pU qU eU) := t_rvOne h_rone good_one
end Go.L08
