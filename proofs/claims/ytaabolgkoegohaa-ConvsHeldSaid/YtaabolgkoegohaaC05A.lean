/-
  Part of the proof; what its functions and lemmas say stands in the text.
-/
import Derived.Test.YtaabolgkoegohaaEvE
import Derived.Test.YtaabolgkoegohaaProg
set_option linter.unusedSimpArgs false
set_option linter.unusedVariables false
/-!
Chapter 05: what stands for all.
-/
namespace Go.L05
open Go.Ev Go.Proofs Go.RowKit

def G0 : List (Nat × SV) := []
theorem mixed : Try.prog.follows .mixedOrders = true := by kernel_rfl
noncomputable abbrev ex (l : List (Nat × Ev.Spec)) (ann : Nat → List Nat) (f : Func) : Ev.Spec := execFn Try.prog G0 (tabOf l) ann f 50
abbrev Snd (f : Nat) (s : Ev.Spec) : Prop := Sound Try.prog G0 f s
/-! the library's floats -/
theorem x_of64 : Snd 25 of64S := of64_ok ⟨⟨Try.f25, Try.func25, by kernel_rfl, by kernel_rfl, by kernel_rfl, by kernel_rfl⟩⟩
theorem x_of32 : Snd 28 of32S := of32_ok ⟨⟨Try.f28, Try.func28, by kernel_rfl, by kernel_rfl, by kernel_rfl, by kernel_rfl⟩⟩
theorem x_to32 : Snd 39 to32S := to32_ok ⟨⟨Try.f39, Try.func39, by kernel_rfl, by kernel_rfl, by kernel_rfl, by kernel_rfl⟩⟩
theorem x_to64 : Snd 40 to64S := to64_ok ⟨⟨Try.f40, Try.func40, by kernel_rfl, by kernel_rfl, by kernel_rfl, by kernel_rfl⟩⟩
end Go.L05
