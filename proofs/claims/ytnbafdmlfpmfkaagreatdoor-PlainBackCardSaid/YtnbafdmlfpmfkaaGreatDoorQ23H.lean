/-
  Part of the proof; what its functions and lemmas say stands in the text.
-/
import Derived.Test.YtnbafdmlfpmfkaaGreatDoorR23
import Derived.Test.YtnbafdmlfpmfkaaGreatDoorS23A
set_option linter.unusedSimpArgs false
set_option linter.unusedVariables false
/-!
Layer 23: functions, run as they stand.
-/
set_option maxRecDepth 100000
namespace Go.L23
open Go.Ev Go.Proofs Go.RowKit Go.Wh

/-! jacquard/plain.mask -/
noncomputable def X27 : Ev.Spec := execFn Tryz.prog G0 (tabOf []) (fun _ => []) Tryz.f27 400
theorem t_X27 : Snd 27 X27 := execFn_sound (ann := fun _ => []) TableOK.nil mixed Tryz.func27 (by kernel_rfl) 400
/-! internal/stringslite.HasSuffix -/
noncomputable def X74 : Ev.Spec := execFn Tryz.prog G0 (tabOf []) (fun _ => []) Tryz.f74 400
theorem t_X74 : Snd 74 X74 := execFn_sound (ann := fun _ => []) TableOK.nil mixed Tryz.func74 (by kernel_rfl) 400
/-! strings.HasSuffix -/
noncomputable def X28 : Ev.Spec := execFn Tryz.prog G0 (tabOf [(74, X74)]) (fun _ => []) Tryz.f28 400
theorem t_X28 : Snd 28 X28 := execFn_sound (ann := fun _ => []) (TableOK.cons t_X74 TableOK.nil) mixed Tryz.func28 (by kernel_rfl) 400
def ann33 : Nat → List Nat := fun | 2 => [0, 4] | _ => []
/-! jacquard/jacquardref23.parts -/
noncomputable def X33 : Ev.Spec := execFn Tryz.prog G0 (tabOf []) ann33 Tryz.f33 400
theorem t_X33 : Snd 33 X33 := execFn_sound (ann := ann33) TableOK.nil mixed Tryz.func33 (by kernel_rfl) 400
def ann34 : Nat → List Nat := fun | 2 => [0, 1, 5] | _ => []
/-! jacquard/jacquardref23.has -/
noncomputable def X34 : Ev.Spec := execFn Tryz.prog G0 (tabOf []) ann34 Tryz.f34 400
theorem t_X34 : Snd 34 X34 := execFn_sound (ann := ann34) TableOK.nil mixed Tryz.func34 (by kernel_rfl) 400
/-! jacquard/jacquardref23.begins -/
noncomputable def X60 : Ev.Spec := execFn Tryz.prog G0 (tabOf []) (fun _ => []) Tryz.f60 400
theorem t_X60 : Snd 60 X60 := execFn_sound (ann := fun _ => []) TableOK.nil mixed Tryz.func60 (by kernel_rfl) 400
/-! jacquard/jacquardref23.half128 -/
noncomputable def X36 : Ev.Spec := execFn Tryz.prog G0 (tabOf [(60, X60)]) (fun _ => []) Tryz.f36 400
theorem t_X36 : Snd 36 X36 := execFn_sound (ann := fun _ => []) (TableOK.cons t_X60 TableOK.nil) mixed Tryz.func36 (by kernel_rfl) 400
/-! jacquard/jacquardref23.ends -/
noncomputable def X37 : Ev.Spec := execFn Tryz.prog G0 (tabOf []) (fun _ => []) Tryz.f37 400
theorem t_X37 : Snd 37 X37 := execFn_sound (ann := fun _ => []) TableOK.nil mixed Tryz.func37 (by kernel_rfl) 400
/-! jacquard/jacquardref23.vector -/
noncomputable def X38 : Ev.Spec := execFn Tryz.prog G0 (tabOf [(25, X25)]) (fun _ => []) Tryz.f38 400
theorem t_X38 : Snd 38 X38 := execFn_sound (ann := fun _ => []) (TableOK.cons t_X25 TableOK.nil) mixed Tryz.func38 (by kernel_rfl) 400
/-! jacquard/jacquardref23.number -/
noncomputable def X43 : Ev.Spec := execFn Tryz.prog G0 (tabOf []) (fun _ => []) Tryz.f43 400
theorem t_X43 : Snd 43 X43 := execFn_sound (ann := fun _ => []) TableOK.nil mixed Tryz.func43 (by kernel_rfl) 400
/-! jacquard/jacquardref23.lowest -/
noncomputable def X40 : Ev.Spec := execFn Tryz.prog G0 (tabOf [(86, maskS)]) (fun _ => []) Tryz.f40 400
theorem t_X40 : Snd 40 X40 := execFn_sound (ann := fun _ => []) (TableOK.cons t_Most TableOK.nil) mixed Tryz.func40 (by kernel_rfl) 400
end Go.L23
/-!
Layer 23: is a value one of its type?
-/
set_option maxRecDepth 100000
namespace Go.L23
open Go.Ev Go.Proofs Go.RowKit Go.Wh

/-- Is a value one of its type? -/
def hasF (t : BitVec 8) (x y : BitVec 64) : Bool :=
  if t = 127#8 ∨ t = 125#8 then decide (x ≤ 4294967295#64) && y == 0#64
  else if t = 126#8 ∨ t = 124#8 then y == 0#64
  else if t = 112#8 ∨ t = 111#8 then decide (x ≤ 4294967296#64) && y == 0#64
  else t == 123#8
noncomputable def hasS : Ev.Spec := joined fun | [.agg [.u8 t, .u64 x, .u64 y]] => some (.bool (hasF t x y)) | _ => none
theorem low32 (x : BitVec 64) : (x == BitVec.setWidth 64 (BitVec.setWidth 32 x)) = decide (x ≤ 4294967295#64) := by
  rw [Bool.eq_iff_iff]
  simp only [beq_iff_eq, decide_eq_true_eq, BitVec.le_def, BitVec.toNat_ofNat]
  constructor
  · intro h
    have := congrArg BitVec.toNat h
    simp only [BitVec.toNat_setWidth] at this
    omega
  · intro h
    apply BitVec.eq_of_toNat_eq
    simp only [BitVec.toNat_setWidth]
    omega
theorem has_nf (t : BitVec 8) (x y : BitVec 64) : ex [] (fun _ => []) Tryz.f14 [.agg [.u8 t, .u64 x, .u64 y]] some =
  if (t == 123#8) = true then some (D.bool true)
  else if (t == 127#8) = true then some (D.bool (t == t && (x == BitVec.setWidth 64 (BitVec.setWidth 32 x) && y == 0#64)))
  else if (t == 125#8) = true then some (D.bool (t == t && (x == BitVec.setWidth 64 (BitVec.setWidth 32 x) && y == 0#64)))
  else if (t == 126#8) = true then some (D.bool (y == 0#64))
  else if (t == 124#8) = true then some (D.bool (y == 0#64))
  else if (t == 112#8) = true then (if (y == 0#64) = true then some (D.bool (decide (x ≤ 4294967296#64))) else some (D.bool false))
  else if (t == 111#8) = true then (if (y == 0#64) = true then some (D.bool (decide (x ≤ 4294967296#64))) else some (D.bool false))
  else some (D.bool false) := by kernel_rfl
theorem rhas_nf (t : BitVec 8) (x y : BitVec 64) : ex [] (fun _ => []) Tryz.f72 [.agg [.u8 t, .u64 x, .u64 y]] some =
  if (t == 127#8) = true then (if decide (x ≤ 4294967295#64) = true then some (D.bool (y == 0#64)) else some (D.bool false))
  else if (t == 125#8) = true then (if decide (x ≤ 4294967295#64) = true then some (D.bool (y == 0#64)) else some (D.bool false))
  else if (t == 126#8) = true then some (D.bool (y == 0#64))
  else if (t == 124#8) = true then some (D.bool (y == 0#64))
  else if (t == 112#8) = true then (if decide (x ≤ 4294967296#64) = true then some (D.bool (y == 0#64)) else some (D.bool false))
  else if (t == 111#8) = true then (if decide (x ≤ 4294967296#64) = true then some (D.bool (y == 0#64)) else some (D.bool false))
  else some (D.bool (t == 123#8)) := by kernel_rfl
theorem t_Has : Snd 14 hasS := by
  refine Sound.join (execFn_sound (ann := fun _ => []) TableOK.nil mixed Tryz.func14 (by kernel_rfl) 50) fun ds d h => ?_
  split at h
  · rename_i t x y
    cases h
    refine (has_nf t x y).trans ?_
    rw [low32]
    unfold hasF
    simp only [beq_self_eq_true, Bool.true_and, beq_iff_eq]
    by_cases h1 : t = 123#8
    · subst h1; rfl
    by_cases h2 : t = 127#8
    · subst h2; rfl
    by_cases h3 : t = 125#8
    · subst h3; rfl
    by_cases h4 : t = 126#8
    · subst h4; rfl
    by_cases h5 : t = 124#8
    · subst h5; rfl
    by_cases h6 : t = 112#8
    · subst h6
      show (if y = 0#64 then _ else _) = some (D.bool (decide (x ≤ 4294967296#64) && y == 0#64))
      by_cases hy : y = 0#64 <;> simp [hy]
    by_cases h7 : t = 111#8
    · subst h7
      show (if y = 0#64 then _ else _) = some (D.bool (decide (x ≤ 4294967296#64) && y == 0#64))
      by_cases hy : y = 0#64 <;> simp [hy]
    simp [h1, h2, h3, h4, h5, h6, h7]
  · cases h
theorem t_rHas : Snd 72 hasS := by
  refine Sound.join (execFn_sound (ann := fun _ => []) TableOK.nil mixed Tryz.func72 (by kernel_rfl) 50) fun ds d h => ?_
  split at h
  · rename_i t x y
    cases h
    refine (rhas_nf t x y).trans ?_
    unfold hasF
    simp only [beq_iff_eq]
    by_cases h2 : t = 127#8
    · subst h2; cases hx : decide (x ≤ 4294967295#64) <;> simp
    by_cases h3 : t = 125#8
    · subst h3; cases hx : decide (x ≤ 4294967295#64) <;> simp
    by_cases h4 : t = 126#8
    · subst h4; rfl
    by_cases h5 : t = 124#8
    · subst h5; rfl
    by_cases h6 : t = 112#8
    · subst h6; cases hx : decide (x ≤ 4294967296#64) <;> simp
    by_cases h7 : t = 111#8
    · subst h7; cases hx : decide (x ≤ 4294967296#64) <;> simp
    simp [h2, h3, h4, h5, h6, h7]
  · cases h
end Go.L23
