/-
  Part of the proof; what its functions and lemmas say stands in the text.
-/
import Derived.Test.YtnbafdmlfpmfkaaGreatDoorWh1
import Derived.Test.YtnbafdmlfpmfkaaGreatDoorS23A
import Derived.Test.YtnbafdmlfpmfkaaGreatDoorWhB
set_option linter.unusedSimpArgs false
set_option linter.unusedVariables false
namespace Go.L23
open Go.Ev Go.Proofs Go.RowKit Go.Wh
noncomputable def maskS : Ev.Spec := joined fun | [.i .i64 t] => some (.u64 (maskF t)) | _ => none
noncomputable def maskOS : Ev.Spec := guarded fun | [.i .i64 t] => some (okW t, .u64 (maskF t)) | _ => none
theorem t_mask : Snd 77 maskOS := by
 refine Sound.guard (execFn_sound (ann := fun _ => []) TableOK.nil mixed Tryz.func77 (by kernel_rfl) 50) fun ds d h => ?_
 split at h
 ·rename_i t
  simp only [Option.some.injEq, Prod.mk.injEq] at h
  obtain ⟨h, rfl⟩ := h
  rcases okW_cases h with rfl | rfl | rfl | rfl <;> kernel_rfl
 ·cases h
noncomputable def mayS : Ev.Spec := joined fun
 | [.i .i64 t, .sl64 [x]] => some (.bool (mayF t [x]))
 | [.i .i64 t, .sl64 [x, y]] => some (.bool (mayF t [x, y]))
 | [.i .i64 t, .c (.slice none 0 0)] => some (.bool (okW t))
 | _ => none
def ann50 : Nat → List Nat := fun | 8 => [0, 5, 21, 22, 23] | 3 => [0, 1, 5, 10, 11] | _ => []
theorem t_may : Snd 75 mayS := by
 refine Sound.join (execFn_sound (ann := ann50) (TableOK.cons t_mask TableOK.nil) mixed Tryz.func75 (by kernel_rfl) 50) fun ds d h => ?_
 split at h
 ·rename_i t x
  cases h
  by_cases hw : okW t = true
  ·have e := fit_eq hw
   have nf : ∀ t, okW t = true → ex [(77, maskOS)] ann50 Tryz.f75 [.i .i64 t, .sl64 [x]] some = some (D.bool (x &&& ~~~maskF t == 0#64)) := by
    intro t ht
    rcases okW_cases ht with rfl | rfl | rfl | rfl <;> kernel_rfl
   refine (nf t hw).trans ?_
   simp only [mayF, hw, List.all_cons, List.all_nil, Bool.and_true, Bool.true_and, ← e]
  ·have nf : ex [(77, maskOS)] ann50 Tryz.f75 [.i .i64 t, .sl64 [x]] some = if (8 == t) = false then
       if (16 == t) = false then
        if (32 == t) = false then if (64 == t) = true then (if okW t = true then some (D.bool (x &&& ~~~maskF t == 0#64)) else none) else some (D.bool false)
        else (if okW t = true then some (D.bool (x &&& ~~~maskF t == 0#64)) else none)
       else (if okW t = true then some (D.bool (x &&& ~~~maskF t == 0#64)) else none)
    else (if okW t = true then some (D.bool (x &&& ~~~maskF t == 0#64)) else none) := by kernel_rfl
   refine nf.trans ?_
   obtain ⟨h1, h2, h3, h4⟩ := okW_no hw
   rw [if_pos h1, if_pos h2, if_pos h3, if_neg h4]
   simp only [mayF, hw, Bool.false_and]
 ·rename_i t x y
  cases h
  by_cases hw : okW t = true
  ·have e := fit_eq hw
   have nf : ∀ t, okW t = true → ex [(77, maskOS)] ann50 Tryz.f75 [.i .i64 t, .sl64 [x, y]] some = if (x &&& ~~~maskF t == 0#64) = true then some (D.bool (y &&& ~~~maskF t == 0#64)) else some (D.bool false) := by
    intro t ht
    rcases okW_cases ht with rfl | rfl | rfl | rfl <;> kernel_rfl
   refine (nf t hw).trans ?_
   simp only [mayF, hw, List.all_cons, List.all_nil, Bool.and_true, Bool.true_and, ← e]
   split
   ·rename_i h1; rw [h1, Bool.true_and]
   ·rename_i h1; rw [Bool.not_eq_true] at h1; rw [h1, Bool.false_and]
  ·have nf : ex [(77, maskOS)] ann50 Tryz.f75 [.i .i64 t, .sl64 [x, y]] some = if (8 == t) = false then
       if (16 == t) = false then
        if (32 == t) = false then if (64 == t) = true then (if okW t = true then (if (x &&& ~~~maskF t == 0#64) = true then (if okW t = true then some (D.bool (y &&& ~~~maskF t == 0#64)) else none) else some (D.bool false)) else none) else some (D.bool false)
        else (if okW t = true then (if (x &&& ~~~maskF t == 0#64) = true then (if okW t = true then some (D.bool (y &&& ~~~maskF t == 0#64)) else none) else some (D.bool false)) else none)
       else (if okW t = true then (if (x &&& ~~~maskF t == 0#64) = true then (if okW t = true then some (D.bool (y &&& ~~~maskF t == 0#64)) else none) else some (D.bool false)) else none)
    else (if okW t = true then (if (x &&& ~~~maskF t == 0#64) = true then (if okW t = true then some (D.bool (y &&& ~~~maskF t == 0#64)) else none) else some (D.bool false)) else none) := by kernel_rfl
   refine nf.trans ?_
   obtain ⟨h1, h2, h3, h4⟩ := okW_no hw
   rw [if_pos h1, if_pos h2, if_pos h3, if_neg h4]
   simp only [mayF, hw, Bool.false_and]
 ·rename_i t
  cases h
  have nf : ex [(77, maskOS)] ann50 Tryz.f75 [.i .i64 t, .c (.slice none 0 0)] some = if (8 == t) = false then
    if (16 == t) = false then if (32 == t) = false then some (.bool (64 == t)) else some (.bool true) else some (.bool true) else some (.bool true) := by kernel_rfl
  refine nf.trans ?_
  have hb : ∀ k : Int, (k == t) = decide (t = k) := fun k => by rw [Bool.eq_iff_iff, beq_iff_eq, decide_eq_true_eq]; exact ⟨Eq.symm, Eq.symm⟩
  have e : okW t = (decide (t = 8) || (decide (t = 16) || (decide (t = 32) || decide (t = 64)))) := by simp [okW, Bool.decide_or]
  rw [e, hb 8, hb 16, hb 32, hb 64]
  generalize decide (t = 8) = c0
  generalize decide (t = 16) = c1
  generalize decide (t = 32) = c2
  cases c0 <;> cases c1 <;> cases c2 <;> rfl
 ·cases h
end Go.L23
namespace Go.L23
open Go.Ev Go.Proofs Go.RowKit Go.Wh
noncomputable def worthS : Ev.Spec := guarded fun | [.i .i64 t, .u64 a] => some (fitF t a, .i .i64 (sgnF t a)) | _ => none
theorem w_8 (a : BitVec 64) : ex [] (fun _ => []) Tryz.f76 [.i .i64 8, .u64 a] some = some (.i .i64 (sOfU .i64 (a <<< 56) / 2 ^ 56)) := by kernel_rfl
theorem w_16 (a : BitVec 64) : ex [] (fun _ => []) Tryz.f76 [.i .i64 16, .u64 a] some = some (.i .i64 (sOfU .i64 (a <<< 48) / 2 ^ 48)) := by kernel_rfl
theorem w_32 (a : BitVec 64) : ex [] (fun _ => []) Tryz.f76 [.i .i64 32, .u64 a] some = some (.i .i64 (sOfU .i64 (a <<< 32) / 2 ^ 32)) := by kernel_rfl
theorem w_64 (a : BitVec 64) : ex [] (fun _ => []) Tryz.f76 [.i .i64 64, .u64 a] some = some (.i .i64 (sOfU .i64 (a <<< 0) / 2 ^ 0)) := by kernel_rfl
theorem t_worth : Snd 76 worthS := by
 refine Sound.guard (execFn_sound (ann := fun _ => []) TableOK.nil mixed Tryz.func76 (by kernel_rfl) 50) fun ds d h => ?_
 split at h
 ·rename_i t a
  simp only [Option.some.injEq, Prod.mk.injEq] at h
  obtain ⟨h, rfl⟩ := h
  obtain ⟨hw, ha⟩ := fitF_nat h
  rcases okW_cases hw with rfl | rfl | rfl | rfl
  ·exact (w_8 a).trans (by rw [worth8 ha])
  ·exact (w_16 a).trans (by rw [worth16 ha])
  ·exact (w_32 a).trans (by rw [worth32 ha])
  ·exact (w_64 a).trans (by rw [worth64 a])
 ·cases h
noncomputable def endsS : Ev.Spec := guarded fun | [.i .i64 t] => some (okW t, .tup [.i .i64 (-(pw t / 2)), .i .i64 (pw t / 2 - 1)]) | _ => none
theorem t_ends : Snd 230 endsS := by
 refine Sound.guard (execFn_sound (ann := fun _ => []) TableOK.nil mixed Tryz.func230 (by kernel_rfl) 50) fun ds d h => ?_
 split at h
 ·rename_i t
  simp only [Option.some.injEq, Prod.mk.injEq] at h
  obtain ⟨h, rfl⟩ := h
  rcases okW_cases h with rfl | rfl | rfl | rfl <;> kernel_rfl
 ·cases h
end Go.L23
namespace Go.L23
open Go.Ev Go.Proofs Go.RowKit Go.Wh
noncomputable def ThanS : Ev.Spec := joined fun | [.u8 o, .i .i64 w, .u64 a, .u64 b] => some (thanV o w a b) | _ => none
theorem nf_Than (o : BitVec 8) (w : Int) (a b : BitVec 64) : ex [(75, mayS), (76, worthS)] (fun _ => []) Tryz.f130 [.u8 o, .i .i64 w, .u64 a, .u64 b] some =
 if (!mayF w [a, b]) = true then some (.tup [.bool false, .i .i64 2]) else if fitF w a = true then if fitF w b = true then thanT o w a b else none else none := by kernel_rfl
theorem than_end (o : BitVec 8) (w : Int) (a b : BitVec 64) : (if (!mayF w [a, b]) = true then some (.tup [.bool false, .i .i64 2]) else if fitF w a = true then if fitF w b = true then thanT o w a b else none else none) = some (thanV o w a b) := by
 unfold thanV
 cases hm : mayF w [a, b]
 ·rfl
 ·obtain ⟨h1, h2⟩ := may_fit hm
  simp only [h1, h2, thanT_eq, Bool.not_true, Bool.false_eq_true, if_false, if_true, Bool.true_and]
theorem t_Than : Snd 130 ThanS := by
 refine Sound.join (execFn_sound (ann := fun _ => []) (TableOK.cons t_may (TableOK.cons t_worth TableOK.nil)) mixed Tryz.func130 (by kernel_rfl) 50) fun ds d h => ?_
 split at h
 ·rename_i o w a b
  cases h
  exact (nf_Than o w a b).trans (than_end o w a b)
 ·cases h
end Go.L23
namespace Go.L23
open Go.Ev Go.Proofs Go.RowKit Go.Wh
noncomputable def ExtS : Ev.Spec := joined fun | [.i .i64 f, .i .i64 t, .bool s, .u64 a] => some (extV f t s a) | _ => none
theorem nf_Ext (f t : Int) (s : Bool) (a : BitVec 64) : ex [(75, mayS), (76, worthS), (77, maskOS)] (fun _ => []) Tryz.f29 [.i .i64 f, .i .i64 t, .bool s, .u64 a] some =
 if (!mayF f [a]) = false then if (!okW t) = false then if decide (t < f) = true then argErr else
  if s = true then if fitF f a = true then if okW t = true then some (.tup [.u64 (BitVec.ofInt 64 (sgnF f a) &&& maskF t), .i .i64 0]) else none else none else some (.tup [.u64 a, .i .i64 0]) else argErr else argErr := by kernel_rfl
theorem t_Extend : Snd 29 ExtS := by
 refine Sound.join (execFn_sound (ann := fun _ => []) (TableOK.cons t_may (TableOK.cons t_worth (TableOK.cons t_mask TableOK.nil))) mixed Tryz.func29 (by kernel_rfl) 50) fun ds d h => ?_
 split at h
 ·rename_i f t s a
  cases h
  refine (nf_Ext f t s a).trans (ext_end f t s a fun h => ?_)
  simp only [okE, Bool.and_eq_true] at h
  simp only [h, if_true, extF]
  cases s <;> rfl
 ·cases h
noncomputable def heldS : Ev.Spec := guarded fun | [.i .i64 t, .i .i64 n, .i .i64 l, .i .i64 h] => some (okW t, .u64 (heldF t n l h)) | _ => none
theorem nf_held (t n l h : Int) : ex [(77, maskOS)] (fun _ => []) Tryz.f231 [.i .i64 t, .i .i64 n, .i .i64 l, .i .i64 h] some = if okW t = true then some (.u64 (BitVec.ofInt 64 (if h < (if n < l then l else n) then h else (if n < l then l else n)) &&& maskF t)) else none := by kernel_rfl
theorem t_held : Snd 231 heldS := by
 refine Sound.guard (execFn_sound (ann := fun _ => []) (TableOK.cons t_mask TableOK.nil) mixed Tryz.func231 (by kernel_rfl) 50) fun ds d h => ?_
 split at h
 ·rename_i t n l h'
  simp only [Option.some.injEq, Prod.mk.injEq] at h
  obtain ⟨hw, rfl⟩ := h
  refine (nf_held t n l h').trans ?_
  rw [if_pos hw, held_lt]
  rfl
 ·cases h
noncomputable def NarS : Ev.Spec := joined fun | [.i .i64 f, .i .i64 t, .bool s, .u64 a] => some (narV f t s a) | _ => none
theorem nf_Nar (f t : Int) (s : Bool) (a : BitVec 64) : ex [(75, mayS), (76, worthS), (77, maskOS), (230, endsS), (231, heldS)] (fun _ => []) Tryz.f265 [.i .i64 f, .i .i64 t, .bool s, .u64 a] some =
 if (!mayF f [a]) = false then if (!okW t) = false then if decide (f ≤ t) = true then argErr else
  if okW t = true then if (!s) = true then if okW t = true then if fitF f a = true then if okW t = true then some (D.tup [.u64 (heldF t (sgnF f a) 0 (sOfU .i64 (maskF t))), .i .i64 0]) else none else none else none
  else if fitF f a = true then if okW t = true then some (D.tup [.u64 (heldF t (sgnF f a) (-(pw t / 2)) (pw t / 2 - 1)), .i .i64 0]) else none else none else none else argErr else argErr := by kernel_rfl
theorem t_Narrow : Snd 265 NarS := by
 refine Sound.join (execFn_sound (ann := fun _ => []) (TableOK.cons t_may (TableOK.cons t_worth (TableOK.cons t_mask (TableOK.cons t_ends (TableOK.cons t_held TableOK.nil))))) mixed Tryz.func265 (by kernel_rfl) 50) fun ds d h => ?_
 split at h
 ·rename_i f t s a
  cases h
  refine (nf_Nar f t s a).trans (nar_end f t s a fun h => ?_)
  obtain ⟨h1, h2, h3⟩ := lt64 h
  rw [← nar_prog h]
  simp only [h1, h3, if_true]
 ·cases h
end Go.L23
