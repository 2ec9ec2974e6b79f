/-
  Part of the proof; what its functions and lemmas say stands in the text.
-/
import Derived.Test.YtakonchpkchfhaaDoorWh6
import Derived.Test.YtakonchpkchfhaaDoorS03e
import Derived.Laws.Externs
set_option linter.unusedSimpArgs false
set_option linter.unusedVariables false
/-!
Sums that carry.
-/
namespace Go.L03
open Go.Ev Go.Proofs Go.RowKit Go.Wh

noncomputable def add64S : Ev.Spec := joined fun | [.u64 x, .u64 y, .u64 0#64] => some (.tup [.u64 (x + y), .u64 (cry x y)]) | _ => none
theorem t_Add64 : Snd 51 add64S := by
  refine Sound.of_pt fun ds d h => ?_
  split at h
  · rename_i x y
    cases h
    intro w args hG hl
    simp only [lie, lies] at hl
    obtain ⟨v0, a0, rfl, rfl, v1, a1, rfl, rfl, v2, a2, rfl, rfl, rfl⟩ := hl
    have hx := x.isLt
    have hy := y.isLt
    have e := run_add64 (P := Tryd.prog) (x.toNat : Int) (y.toNat : Int) ((0#64).toNat : Int) (by omega) (by omega) (by simp) (by simp) w
    have z : ((0#64).toNat : Int) = 0 := rfl
    refine .inl ⟨.tuple #[.int .u64 (((x.toNat : Int) + y.toNat + ((0#64).toNat : Int)) % 18446744073709551616), .int .u64 (((x.toNat : Int) + y.toNat + ((0#64).toNat : Int)) / 18446744073709551616)], w, ?_, Below.refl _ _, ?_⟩
    · rw [run_callFunc_extern Tryd.func51 (by kernel_rfl) (by kernel_rfl) (by kernel_rfl) (e := add64Entry) (by kernel_rfl), e]
      rfl
    · simp only [lies, lie]
      refine ⟨_, rfl, _, _, rfl, ?_, _, _, rfl, ?_, rfl⟩
      · rw [z, BitVec.toNat_add]
        congr 1
      · rw [z, cry, BitVec.toNat_ofNat]
        congr 1
        omega
  · cases h
end Go.L03
