/-
  Part of the proof; what its functions and lemmas say stands in the text.
-/
import Derived.Test.YtimaanpcglbnpaaDoorWhA
import Derived.Test.YtimaanpcglbnpaaDoorProg
set_option linter.unusedSimpArgs false
set_option linter.unusedVariables false
/-!
Whole numbers: what the functions answer.
-/
namespace Go.L08
open Go.Ev Go.Proofs Go.RowKit Go.Wh

def G0 : List (Nat × SV) := [(1, .ai .i64 [8, 16, 32, 64]), (2, .ai .u8 [0, 1, 56, 2, 57, 49, 28, 3, 61, 58, 42, 50, 38, 29, 17, 4, 62, 47, 59, 36, 45, 43, 51, 22, 53, 39, 33, 30, 24, 18, 12, 5, 63, 55, 48, 27, 60, 41, 37, 16, 46, 35, 44, 21, 52, 32, 23, 11, 54, 26, 40, 15, 34, 20, 31, 10, 25, 14, 19, 9, 13, 8, 7, 6])]
theorem mixed : Tryd.prog.follows .mixedOrders = true := by kernel_rfl
noncomputable abbrev ex (l : List (Nat × Ev.Spec)) (ann : Nat → List Nat) (f : Func) : Ev.Spec := execFn Tryd.prog G0 (tabOf l) ann f 50
abbrev Snd (f : Nat) (s : Ev.Spec) : Prop := Sound Tryd.prog G0 f s
abbrev Tok (l : List (Nat × Ev.Spec)) : Prop := TableOK Tryd.prog G0 (tabOf l)
abbrev vec (x y : BitVec 64) : D := .agg [.u64 x, .u64 y]

/-! masks -/
noncomputable def maskS : Ev.Spec := joined fun | [.i .i64 t] => some (.u64 (maskF t)) | _ => none
theorem t_Most : Snd 38 maskS := by
  refine Sound.join (execFn_sound (ann := fun _ => []) TableOK.nil mixed Tryd.func38 (by kernel_rfl) 50) fun ds d h => ?_
  split at h
  · rename_i t
    cases h
    kernel_rfl
  · cases h
noncomputable def maskOS : Ev.Spec := guarded fun | [.i .i64 t] => some (okW t, .u64 (maskF t)) | _ => none
theorem t_mask : Snd 121 maskOS := by
  refine Sound.guard (execFn_sound (ann := fun _ => []) TableOK.nil mixed Tryd.func121 (by kernel_rfl) 50) fun ds d h => ?_
  split at h
  · rename_i t
    simp only [Option.some.injEq, Prod.mk.injEq] at h
    obtain ⟨h, rfl⟩ := h
    rcases okW_cases h with rfl | rfl | rfl | rfl <;> kernel_rfl
  · cases h

/-! widths -/
noncomputable def widthS : Ev.Spec := joined fun | [.i .i64 t] => some (.bool (okW t)) | _ => none
/-! what fits -/
noncomputable def mayS : Ev.Spec := joined fun
  | [.i .i64 t, .sl64 [x]] => some (.bool (mayF t [x]))
  | [.i .i64 t, .sl64 [x, y]] => some (.bool (mayF t [x, y]))
  | [.i .i64 t, .c (.slice none 0 0)] => some (.bool (okW t))
  | _ => none
def ann50 : Nat → List Nat := fun | 8 => [0, 5, 21, 22, 23] | 3 => [0, 1, 5, 10, 11] | _ => []
theorem t_may : Snd 116 mayS := by
  refine Sound.join (execFn_sound (ann := ann50) (TableOK.cons t_mask TableOK.nil) mixed Tryd.func116 (by kernel_rfl) 50) fun ds d h => ?_
  split at h
  · rename_i t x
    cases h
    by_cases hw : okW t = true
    · have e := fit_eq hw
      have nf : ∀ t, okW t = true → ex [(121, maskOS)] ann50 Tryd.f116 [.i .i64 t, .sl64 [x]] some = some (D.bool (x &&& ~~~maskF t == 0#64)) := by
        intro t ht
        rcases okW_cases ht with rfl | rfl | rfl | rfl <;> kernel_rfl
      refine (nf t hw).trans ?_
      simp only [mayF, hw, List.all_cons, List.all_nil, Bool.and_true, Bool.true_and, ← e]
    · have nf : ex [(121, maskOS)] ann50 Tryd.f116 [.i .i64 t, .sl64 [x]] some = if (8 == t) = false then
          if (16 == t) = false then
            if (32 == t) = false then if (64 == t) = true then (if okW t = true then some (D.bool (x &&& ~~~maskF t == 0#64)) else none) else some (D.bool false)
            else (if okW t = true then some (D.bool (x &&& ~~~maskF t == 0#64)) else none)
          else (if okW t = true then some (D.bool (x &&& ~~~maskF t == 0#64)) else none)
        else (if okW t = true then some (D.bool (x &&& ~~~maskF t == 0#64)) else none) := by kernel_rfl
      refine nf.trans ?_
      obtain ⟨h1, h2, h3, h4⟩ := okW_no hw
      rw [if_pos h1, if_pos h2, if_pos h3, if_neg h4]
      simp only [mayF, hw, Bool.false_and]
  · rename_i t x y
    cases h
    by_cases hw : okW t = true
    · have e := fit_eq hw
      have nf : ∀ t, okW t = true → ex [(121, maskOS)] ann50 Tryd.f116 [.i .i64 t, .sl64 [x, y]] some = if (x &&& ~~~maskF t == 0#64) = true then some (D.bool (y &&& ~~~maskF t == 0#64)) else some (D.bool false) := by
        intro t ht
        rcases okW_cases ht with rfl | rfl | rfl | rfl <;> kernel_rfl
      refine (nf t hw).trans ?_
      simp only [mayF, hw, List.all_cons, List.all_nil, Bool.and_true, Bool.true_and, ← e]
      split
      · rename_i h1; rw [h1, Bool.true_and]
      · rename_i h1; rw [Bool.not_eq_true] at h1; rw [h1, Bool.false_and]
    · have nf : ex [(121, maskOS)] ann50 Tryd.f116 [.i .i64 t, .sl64 [x, y]] some = if (8 == t) = false then
          if (16 == t) = false then
            if (32 == t) = false then if (64 == t) = true then (if okW t = true then (if (x &&& ~~~maskF t == 0#64) = true then (if okW t = true then some (D.bool (y &&& ~~~maskF t == 0#64)) else none) else some (D.bool false)) else none) else some (D.bool false)
            else (if okW t = true then (if (x &&& ~~~maskF t == 0#64) = true then (if okW t = true then some (D.bool (y &&& ~~~maskF t == 0#64)) else none) else some (D.bool false)) else none)
          else (if okW t = true then (if (x &&& ~~~maskF t == 0#64) = true then (if okW t = true then some (D.bool (y &&& ~~~maskF t == 0#64)) else none) else some (D.bool false)) else none)
        else (if okW t = true then (if (x &&& ~~~maskF t == 0#64) = true then (if okW t = true then some (D.bool (y &&& ~~~maskF t == 0#64)) else none) else some (D.bool false)) else none) := by kernel_rfl
      refine nf.trans ?_
      obtain ⟨h1, h2, h3, h4⟩ := okW_no hw
      rw [if_pos h1, if_pos h2, if_pos h3, if_neg h4]
      simp only [mayF, hw, Bool.false_and]
  · rename_i t
    cases h
    have nf : ex [(121, maskOS)] ann50 Tryd.f116 [.i .i64 t, .c (.slice none 0 0)] some = if (8 == t) = false then
        if (16 == t) = false then if (32 == t) = false then some (.bool (64 == t)) else some (.bool true) else some (.bool true) else some (.bool true) := by kernel_rfl
    refine nf.trans ?_
    have hb : ∀ k : Int, (k == t) = decide (t = k) := fun k => by rw [Bool.eq_iff_iff, beq_iff_eq, decide_eq_true_eq]; exact ⟨Eq.symm, Eq.symm⟩
    have e : okW t = (decide (t = 8) || (decide (t = 16) || (decide (t = 32) || decide (t = 64)))) := by simp [okW, Bool.decide_or]
    rw [e, hb 8, hb 16, hb 32, hb 64]
    generalize decide (t = 8) = c0
    generalize decide (t = 16) = c1
    generalize decide (t = 32) = c2
    cases c0 <;> cases c1 <;> cases c2 <;> rfl
  · cases h
noncomputable def fitsS : Ev.Spec := joined fun | [.i .i64 t, .u64 x] => some (.bool (decide (x ≤ maskF t))) | _ => none
theorem t_Fits : Snd 77 fitsS := by
  refine Sound.join (execFn_sound (ann := fun _ => []) (TableOK.cons t_Most TableOK.nil) mixed Tryd.func77 (by kernel_rfl) 50) fun ds d h => ?_
  split at h
  · cases h
    kernel_rfl
  · cases h
end Go.L08
/-!
Whole numbers: worths, bounds.
-/
namespace Go.L08
open Go.Ev Go.Proofs Go.RowKit Go.Wh

noncomputable def worthS : Ev.Spec := guarded fun | [.i .i64 t, .u64 a] => some (fitF t a, .i .i64 (sgnF t a)) | _ => none
theorem w_8 (a : BitVec 64) : ex [] (fun _ => []) Tryd.f120 [.i .i64 8, .u64 a] some = some (.i .i64 (sOfU .i64 (a <<< 56) / 2 ^ 56)) := by kernel_rfl
theorem w_16 (a : BitVec 64) : ex [] (fun _ => []) Tryd.f120 [.i .i64 16, .u64 a] some = some (.i .i64 (sOfU .i64 (a <<< 48) / 2 ^ 48)) := by kernel_rfl
theorem w_32 (a : BitVec 64) : ex [] (fun _ => []) Tryd.f120 [.i .i64 32, .u64 a] some = some (.i .i64 (sOfU .i64 (a <<< 32) / 2 ^ 32)) := by kernel_rfl
theorem w_64 (a : BitVec 64) : ex [] (fun _ => []) Tryd.f120 [.i .i64 64, .u64 a] some = some (.i .i64 (sOfU .i64 (a <<< 0) / 2 ^ 0)) := by kernel_rfl
theorem t_worth : Snd 120 worthS := by
  refine Sound.guard (execFn_sound (ann := fun _ => []) TableOK.nil mixed Tryd.func120 (by kernel_rfl) 50) fun ds d h => ?_
  split at h
  · rename_i t a
    simp only [Option.some.injEq, Prod.mk.injEq] at h
    obtain ⟨h, rfl⟩ := h
    obtain ⟨hw, ha⟩ := fitF_nat h
    rcases okW_cases hw with rfl | rfl | rfl | rfl
    · exact (w_8 a).trans (by rw [worth8 ha])
    · exact (w_16 a).trans (by rw [worth16 ha])
    · exact (w_32 a).trans (by rw [worth32 ha])
    · exact (w_64 a).trans (by rw [worth64 a])
  · cases h
theorem nf_Worth (t : Int) (a : BitVec 64) : ex [(38, maskS)] (fun _ => []) Tryd.f83 [.i .i64 t, .u64 a] some = if decide (a ≤ maskF t / BitVec.ofInt 64 2) = true then some (.i .i64 (sOfU .i64 a)) else some (.i .i64 (IntKind.i64.wrap (IntKind.i64.wrap (0 - sOfU .i64 (maskF t - a)) - 1))) := by kernel_rfl
theorem t_Worth : Snd 83 worthS := by
  refine Sound.guard (execFn_sound (ann := fun _ => []) (TableOK.cons t_Most TableOK.nil) mixed Tryd.func83 (by kernel_rfl) 50) fun ds d h => ?_
  split at h
  · rename_i t a
    simp only [Option.some.injEq, Prod.mk.injEq] at h
    obtain ⟨h, rfl⟩ := h
    have e := refWorth h
    refine (nf_Worth t a).trans ?_
    rw [← e]
    split <;> rfl
  · cases h

/-! bounds -/
noncomputable def endsS : Ev.Spec := guarded fun | [.i .i64 t] => some (okW t, .tup [.i .i64 (-(pw t / 2)), .i .i64 (pw t / 2 - 1)]) | _ => none
noncomputable def leastS : Ev.Spec := guarded fun | [.i .i64 t] => some (okW t, .i .i64 (-(pw t / 2))) | _ => none
noncomputable def greatestS : Ev.Spec := guarded fun | [.i .i64 t] => some (okW t, .i .i64 (pw t / 2 - 1)) | _ => none
noncomputable def numS : Ev.Spec := joined fun | [.i .i64 t, .i .i64 n] => some (.u64 (BitVec.ofInt 64 n &&& maskF t)) | _ => none
end Go.L08
/-!
Whole numbers: comparisons.
-/
namespace Go.L08
open Go.Ev Go.Proofs Go.RowKit Go.Wh

noncomputable def ThanS : Ev.Spec := joined fun | [.u8 o, .i .i64 w, .u64 a, .u64 b] => some (thanV o w a b) | _ => none
theorem than_end (o : BitVec 8) (w : Int) (a b : BitVec 64) : (if (!mayF w [a, b]) = true then some (.tup [.bool false, .i .i64 2]) else if fitF w a = true then if fitF w b = true then thanT o w a b else none else none) = some (thanV o w a b) := by
  unfold thanV
  cases hm : mayF w [a, b]
  · rfl
  · obtain ⟨h1, h2⟩ := may_fit hm
    simp only [h1, h2, thanT_eq, Bool.not_true, Bool.false_eq_true, if_false, if_true, Bool.true_and]
end Go.L08
