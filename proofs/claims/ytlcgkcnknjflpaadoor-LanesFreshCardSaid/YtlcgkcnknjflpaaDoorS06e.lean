/-
  Part of the proof; what its functions and lemmas say stands in the text.
-/
import Derived.Test.YtlcgkcnknjflpaaDoorS06d
set_option linter.unusedSimpArgs false
set_option linter.unusedVariables false
/-!
Chapter 06: splat; works.
-/
namespace Go.L06
open Go.Ev Go.Proofs Go.RowKit Go.Rt

theorem Snd.restrict {f : Nat} {s s' : Ev.Spec} (hs : Snd f s) (h : ∀ ds K r, s' ds K = some r → s ds K = some r) : Snd f s' := fun ds K r hK => hs ds K r (h ds K r hK)

noncomputable def isNoS : Ev.Spec := guarded fun | [.i .i64 t, .u64 x] => some (!isF t x, .bool false) | _ => none
theorem isNo40 : Snd 40 isNoS := is40.restrict fun ds K r h => by
  unfold isNoS guarded at h
  simp only [] at h
  split at h
  · rename_i b d hd
    split at hd
    · cases hd
      split at h
      · rename_i t x hb
        have : isF t x = false := by simpa using hb
        simp only [isS, joined, this]
        exact h
      · cases h
    · cases hd
  · cases h

def dbl (x : BitVec 64) (k : Nat) : BitVec 64 := x ||| x <<< k
/-- One number in all lanes. -/
def splW (t : Int) (x : BitVec 64) : BitVec 64 :=
  if t = 8 then dbl (dbl (dbl x 8) 16) 32 else if t = 16 then dbl (dbl x 16) 32 else if t = 32 then dbl x 32 else x
noncomputable def SplS : Ev.Spec := joined fun | [.i .i64 t, .u64 x] => some (.tup [vec (ifF (isF t x) (splW t x)) (ifF (isF t x) (splW t x)), .i .i64 (errF (isF t x))]) | _ => none
def ann23 : Nat → List Nat := fun | 3 => [0, 1, 4] | _ => []
theorem spl23no (t : Int) (x : BitVec 64) : ex [(40, isNoS)] ann23 Tryd.f23 [.i .i64 t, .u64 x] some = if (!isF t x) = true then some (.tup [vec 0#64 0#64, .i .i64 2]) else none := by kernel_rfl
abbrev Spl23at (t : Int) : Prop := ∀ x, ex [(40, isS)] ann23 Tryd.f23 [.i .i64 t, .u64 x] some = if (!isF t x) = true then some (.tup [vec 0#64 0#64, .i .i64 2]) else some (.tup [vec (splW t x) (splW t x), .i .i64 0])
theorem spl23_8 : Spl23at 8 := fun x => by kernel_rfl
theorem spl23_16 : Spl23at 16 := fun x => by kernel_rfl
theorem spl23_32 : Spl23at 32 := fun x => by kernel_rfl
theorem spl23_64 : Spl23at 64 := fun x => by kernel_rfl
theorem Spl23 : Snd 23 SplS := by
  intro ds K r hK
  by_cases hok : ∃ t x, ds = [.i .i64 t, .u64 x] ∧ isF t x = true
  · have hS : Snd 23 (guarded fun
      | [.i .i64 t, .u64 x] => some (isF t x, .tup [vec (splW t x) (splW t x), .i .i64 0])
      | _ => none) := by
      refine Sound.guard (execFn_sound (ann := ann23) (TableOK.cons is40 TableOK.nil) mixed Tryd.func23 (by kernel_rfl) 50) fun ds d h => ?_
      split at h
      · rename_i t x
        simp only [Option.some.injEq, Prod.mk.injEq] at h
        obtain ⟨h, rfl⟩ := h
        have hw : okW t = true := by
          unfold isF at h
          rw [Bool.and_eq_true] at h
          exact h.1
        have key : Spl23at t := by
          rcases okW_cases hw with rfl | rfl | rfl | rfl
          · exact spl23_8
          · exact spl23_16
          · exact spl23_32
          · exact spl23_64
        refine (key x).trans ?_
        rw [h]; rfl
      · cases h
    obtain ⟨t, x, rfl, h⟩ := hok
    refine hS _ K r ?_
    simp only [SplS, joined, h] at hK
    simp only [guarded, h]
    exact hK
  · have hS : Snd 23 (guarded fun
      | [.i .i64 t, .u64 x] => some (!isF t x, .tup [vec 0#64 0#64, .i .i64 2])
      | _ => none) := by
      refine Sound.guard (execFn_sound (ann := ann23) (TableOK.cons isNo40 TableOK.nil) mixed Tryd.func23 (by kernel_rfl) 50) fun ds d h => ?_
      split at h
      · rename_i t x
        simp only [Option.some.injEq, Prod.mk.injEq] at h
        obtain ⟨h, rfl⟩ := h
        refine (spl23no t x).trans ?_
        rw [h]; rfl
      · cases h
    refine hS _ K r ?_
    simp only [SplS, joined] at hK
    simp only [guarded]
    split at hK
    · rename_i d hd
      split at hd
      · rename_i t x
        have h : isF t x = false := by
          rw [← Bool.not_eq_true]
          intro h; exact hok ⟨t, x, rfl, h⟩
        cases hd
        rw [h] at hK
        simp only [h]
        exact hK
      · cases hd
    · cases hK

noncomputable def worksS : Ev.Spec := joined fun | [] => some (.bool true) | _ => none
theorem works17 : Snd 17 worksS := by
  refine Sound.join (execFn_sound (ann := fun _ => []) (TableOK.cons Get13 (TableOK.cons Spl23 TableOK.nil)) mixed Tryd.func17 (by kernel_rfl) 50) fun ds d h => ?_
  split at h
  · cases h
    kernel_rfl
  · cases h
end Go.L06
