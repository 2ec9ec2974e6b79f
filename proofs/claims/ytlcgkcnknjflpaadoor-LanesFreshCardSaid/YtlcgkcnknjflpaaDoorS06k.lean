/-
  Part of the proof; what its functions and lemmas say stands in the text.
-/
import Derived.Test.YtlcgkcnknjflpaaDoorS06j
set_option linter.unusedSimpArgs false
set_option linter.unusedVariables false
/-!
Chapter 06: all lanes; the vector of lanes; splat by the reference.
-/
namespace Go.L06
open Go.Ev Go.Proofs Go.RowKit Go.Rt

theorem width42no : Snd 42 (guarded fun | [.i .i64 t] => some (!okW t, .bool false) | _ => none) := width42.restrict fun ds K r h => by
  unfold guarded at h
  dsimp only at h
  split at h
  · rename_i b d hd
    split at hd
    · cases hd
      split at h
      · rename_i t hb
        have : okW t = false := by simpa using hb
        simp only [widthS, joined, this]
        exact h
      · cases h
    · cases hd
  · cases h
abbrev nilS : D := .c (.slice none 0 0)
def allF : List D → Option (Bool × D × D)
  | [.agg [.u64 x, .u64 y], .i .i64 w] => some (okW w, .tup [.sl64 (listF x y w), .i .i64 0], .tup [nilS, .i .i64 2])
  | _ => none
def ann28 : Nat → List Nat := fun | 5 => [1, 2, 6, 15, 16] | _ => []
theorem all28_8 (x y : BitVec 64) : ex [(40, isS), (41, getS)] ann28 Tryd.f28 [vec x y, .i .i64 8] some = some (.tup [.sl64 (listF x y 8), .i .i64 0]) := by kernel_rfl
theorem all28_16 (x y : BitVec 64) : ex [(40, isS), (41, getS)] ann28 Tryd.f28 [vec x y, .i .i64 16] some = some (.tup [.sl64 (listF x y 16), .i .i64 0]) := by kernel_rfl
theorem all28_32 (x y : BitVec 64) : ex [(40, isS), (41, getS)] ann28 Tryd.f28 [vec x y, .i .i64 32] some = some (.tup [.sl64 (listF x y 32), .i .i64 0]) := by kernel_rfl
theorem all28_64 (x y : BitVec 64) : ex [(40, isS), (41, getS)] ann28 Tryd.f28 [vec x y, .i .i64 64] some = some (.tup [.sl64 (listF x y 64), .i .i64 0]) := by kernel_rfl
theorem All28 : Snd 28 (two allF) := by
  refine Sound.both ?_ ?_
  · refine Sound.guard (execFn_sound (ann := ann28) (TableOK.cons is40 (TableOK.cons get41 TableOK.nil)) mixed Tryd.func28 (by kernel_rfl) 50) fun ds d h => ?_
    unfold allF at h
    split at h
    · rename_i b d' e' hF
      split at hF
      · rename_i x y w
        cases hF
        simp only [Option.some.injEq, Prod.mk.injEq] at h
        obtain ⟨h, rfl⟩ := h
        rcases okW_cases h with rfl | rfl | rfl | rfl
        · exact all28_8 x y
        · exact all28_16 x y
        · exact all28_32 x y
        · exact all28_64 x y
      · cases hF
    · cases h
  · refine Sound.guard (execFn_sound (ann := ann28) (TableOK.cons isNo40 TableOK.nil) mixed Tryd.func28 (by kernel_rfl) 50) fun ds d h => ?_
    unfold allF at h
    split at h
    · rename_i b d' e' hF
      split at hF
      · rename_i x y w
        cases hF
        simp only [Option.some.injEq, Prod.mk.injEq] at h
        obtain ⟨h, rfl⟩ := h
        have nf : ex [(40, isNoS)] ann28 Tryd.f28 [vec x y, .i .i64 w] some = if (!isF w 0#64) = true then some (.tup [nilS, .i .i64 2]) else none := by kernel_rfl
        refine nf.trans ?_
        rw [isF_zero, if_pos h]
      · cases hF
    · cases h
theorem All29 : Snd 29 (two allF) := by
  refine Sound.both ?_ ?_
  · refine Sound.guard (execFn_sound (ann := fun _ => []) (TableOK.cons width42 (TableOK.cons list35 TableOK.nil)) mixed Tryd.func29 (by kernel_rfl) 50) fun ds d h => ?_
    unfold allF at h
    split at h
    · rename_i b d' e' hF
      split at hF
      · rename_i x y w
        cases hF
        simp only [Option.some.injEq, Prod.mk.injEq] at h
        obtain ⟨h, rfl⟩ := h
        rcases okW_cases h with rfl | rfl | rfl | rfl <;> kernel_rfl
      · cases hF
    · cases h
  · refine Sound.guard (execFn_sound (ann := fun _ => []) (TableOK.cons width42no TableOK.nil) mixed Tryd.func29 (by kernel_rfl) 50) fun ds d h => ?_
    unfold allF at h
    split at h
    · rename_i b d' e' hF
      split at hF
      · rename_i x y w
        cases hF
        simp only [Option.some.injEq, Prod.mk.injEq] at h
        obtain ⟨h, rfl⟩ := h
        have nf : ex [(42, guarded fun | [.i .i64 t] => some (!okW t, .bool false) | _ => none)] (fun _ => []) Tryd.f29 [vec x y, .i .i64 w] some = if (!okW w) = true then some (.tup [nilS, .i .i64 2]) else none := by kernel_rfl
        refine nf.trans ?_
        rw [if_pos h]
      · cases hF
    · cases h
end Go.L06
