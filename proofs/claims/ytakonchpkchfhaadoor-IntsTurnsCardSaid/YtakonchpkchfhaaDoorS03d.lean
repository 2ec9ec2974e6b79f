/-
  Part of the proof; what its functions and lemmas say stands in the text.
-/
import Derived.Test.YtakonchpkchfhaaDoorWh4
import Derived.Test.YtakonchpkchfhaaDoorS03w
set_option linter.unusedSimpArgs false
set_option linter.unusedVariables false
/-!
Whole numbers: widened, narrowed.
-/
namespace Go.L03
open Go.Ev Go.Proofs Go.RowKit Go.Wh

noncomputable def ExtS : Ev.Spec := joined fun | [.i .i64 f, .i .i64 t, .bool s, .u64 a] => some (extV f t s a) | _ => none
theorem nf_Ext (f t : Int) (s : Bool) (a : BitVec 64) : ex [(27, mayS), (32, worthS), (28, maskOS)] (fun _ => []) Tryd.f21 [.i .i64 f, .i .i64 t, .bool s, .u64 a] some =
  if (!mayF f [a]) = false then if (!okW t) = false then if decide (t < f) = true then argErr else
    if s = true then if fitF f a = true then if okW t = true then some (.tup [.u64 (BitVec.ofInt 64 (sgnF f a) &&& maskF t), .i .i64 0]) else none else none else some (.tup [.u64 a, .i .i64 0]) else argErr else argErr := by kernel_rfl
theorem t_Extend : Snd 21 ExtS := by
  refine Sound.join (execFn_sound (ann := fun _ => []) (TableOK.cons t_may (TableOK.cons t_worth (TableOK.cons t_mask TableOK.nil))) mixed Tryd.func21 (by kernel_rfl) 50) fun ds d h => ?_
  split at h
  · rename_i f t s a
    cases h
    refine (nf_Ext f t s a).trans (ext_end f t s a fun h => ?_)
    simp only [okE, Bool.and_eq_true] at h
    simp only [h, if_true, extF]
    cases s <;> rfl
  · cases h
theorem nf_rExt (f t : Int) (s : Bool) (a : BitVec 64) : ex [(35, widthS), (36, fitsS), (48, worthS), (47, numS)] (fun _ => []) Tryd.f22 [.i .i64 f, .i .i64 t, .bool s, .u64 a] some =
  if (!okW f) = false then if (!okW t) = false then if decide (t < f) = false then if (!decide (a ≤ maskF f)) = true then argErr else
    if s = true then if fitF f a = true then some (.tup [.u64 (BitVec.ofInt 64 (sgnF f a) &&& maskF t), .i .i64 0]) else none else some (.tup [.u64 a, .i .i64 0]) else argErr else argErr else argErr := by kernel_rfl
theorem t_rExtend : Snd 22 ExtS := by
  refine Sound.join (execFn_sound (ann := fun _ => []) (TableOK.cons t_Width (TableOK.cons t_Fits (TableOK.cons t_Worth (TableOK.cons t_Number TableOK.nil)))) mixed Tryd.func22 (by kernel_rfl) 50) fun ds d h => ?_
  split at h
  · rename_i f t s a
    cases h
    refine (nf_rExt f t s a).trans (ext_end' f t s a fun h => ?_)
    simp only [okE, Bool.and_eq_true] at h
    simp only [h, if_true, extF]
    cases s <;> rfl
  · cases h
noncomputable def heldS : Ev.Spec := guarded fun | [.i .i64 t, .i .i64 n, .i .i64 l, .i .i64 h] => some (okW t, .u64 (heldF t n l h)) | _ => none
theorem nf_held (t n l h : Int) : ex [(28, maskOS)] (fun _ => []) Tryd.f34 [.i .i64 t, .i .i64 n, .i .i64 l, .i .i64 h] some = if okW t = true then some (.u64 (BitVec.ofInt 64 (if h < (if n < l then l else n) then h else (if n < l then l else n)) &&& maskF t)) else none := by kernel_rfl
theorem t_held : Snd 34 heldS := by
  refine Sound.guard (execFn_sound (ann := fun _ => []) (TableOK.cons t_mask TableOK.nil) mixed Tryd.func34 (by kernel_rfl) 50) fun ds d h => ?_
  split at h
  · rename_i t n l h'
    simp only [Option.some.injEq, Prod.mk.injEq] at h
    obtain ⟨hw, rfl⟩ := h
    refine (nf_held t n l h').trans ?_
    rw [if_pos hw, held_lt]
    rfl
  · cases h
noncomputable def NarS : Ev.Spec := joined fun | [.i .i64 f, .i .i64 t, .bool s, .u64 a] => some (narV f t s a) | _ => none
theorem nf_Nar (f t : Int) (s : Bool) (a : BitVec 64) : ex [(27, mayS), (32, worthS), (28, maskOS), (33, endsS), (34, heldS)] (fun _ => []) Tryd.f23 [.i .i64 f, .i .i64 t, .bool s, .u64 a] some =
  if (!mayF f [a]) = false then if (!okW t) = false then if decide (f ≤ t) = true then argErr else
    if okW t = true then if (!s) = true then if okW t = true then if fitF f a = true then if okW t = true then some (D.tup [.u64 (heldF t (sgnF f a) 0 (sOfU .i64 (maskF t))), .i .i64 0]) else none else none else none
    else if fitF f a = true then if okW t = true then some (D.tup [.u64 (heldF t (sgnF f a) (-(pw t / 2)) (pw t / 2 - 1)), .i .i64 0]) else none else none else none else argErr else argErr := by kernel_rfl
theorem t_Narrow : Snd 23 NarS := by
  refine Sound.join (execFn_sound (ann := fun _ => []) (TableOK.cons t_may (TableOK.cons t_worth (TableOK.cons t_mask (TableOK.cons t_ends (TableOK.cons t_held TableOK.nil))))) mixed Tryd.func23 (by kernel_rfl) 50) fun ds d h => ?_
  split at h
  · rename_i f t s a
    cases h
    refine (nf_Nar f t s a).trans (nar_end f t s a fun h => ?_)
    obtain ⟨h1, h2, h3⟩ := lt64 h
    rw [← nar_prog h]
    simp only [h1, h3, if_true]
  · cases h
theorem nf_rNar (f t : Int) (s : Bool) (a : BitVec 64) : ex [(35, widthS), (36, fitsS), (48, worthS), (47, numS), (37, maskS), (49, leastS), (50, greatestS)] (fun _ => []) Tryd.f24 [.i .i64 f, .i .i64 t, .bool s, .u64 a] some =
  if (!okW f) = false then if (!okW t) = false then if decide (f ≤ t) = false then if (!decide (a ≤ maskF f)) = true then argErr else
    if fitF f a = true then if s = true then if okW t = true then if okW t = true then some (D.tup [.u64 (BitVec.ofInt 64 (mxF (-(pw t / 2)) (mnF (pw t / 2 - 1) (sgnF f a))) &&& maskF t), .i .i64 0]) else none else none
    else some (D.tup [.u64 (BitVec.ofInt 64 (mxF 0 (mnF (sOfU .i64 (maskF t)) (sgnF f a)))), .i .i64 0]) else none else argErr else argErr else argErr := by kernel_rfl
theorem t_rNarrow : Snd 24 NarS := by
  refine Sound.join (execFn_sound (ann := fun _ => []) (TableOK.cons t_Width (TableOK.cons t_Fits (TableOK.cons t_Worth (TableOK.cons t_Number (TableOK.cons t_Most (TableOK.cons t_least (TableOK.cons t_greatest TableOK.nil))))))) mixed Tryd.func24 (by kernel_rfl) 50) fun ds d h => ?_
  split at h
  · rename_i f t s a
    cases h
    refine (nf_rNar f t s a).trans (nar_end' f t s a fun h => ?_)
    obtain ⟨h1, h2, h3⟩ := lt64 h
    rw [← nar_ref h]
    simp only [h1, h3, if_true]
  · cases h
end Go.L03
