/-
  Part of the proof; what its functions and lemmas say stands in the text.
-/
import Derived.Test.YtlicpmhlphhabaaDoorWhA
import Derived.Test.YtlicpmhlphhabaaDoorS07r
import Derived.Test.YtlicpmhlphhabaaDoorWhB
import Derived.Laws.Externs
set_option linter.unusedSimpArgs false
set_option linter.unusedVariables false
/-!
Whole numbers: widened, narrowed.
-/
namespace Go.L07
open Go.Ev Go.Proofs Go.RowKit Go.Wh

noncomputable def ExtS : Ev.Spec := joined fun | [.i .i64 f, .i .i64 t, .bool s, .u64 a] => some (extV f t s a) | _ => none
theorem nf_Ext (f t : Int) (s : Bool) (a : BitVec 64) : ex [(50, mayS), (55, worthS), (51, maskOS)] (fun _ => []) Tryd.f62 [.i .i64 f, .i .i64 t, .bool s, .u64 a] some =
  if (!mayF f [a]) = false then if (!okW t) = false then if decide (t < f) = true then argErr else
    if s = true then if fitF f a = true then if okW t = true then some (.tup [.u64 (BitVec.ofInt 64 (sgnF f a) &&& maskF t), .i .i64 0]) else none else none else some (.tup [.u64 a, .i .i64 0]) else argErr else argErr := by kernel_rfl
theorem t_Extend : Snd 62 ExtS := by
  refine Sound.join (execFn_sound (ann := fun _ => []) (TableOK.cons t_may (TableOK.cons t_worth (TableOK.cons t_mask TableOK.nil))) mixed Tryd.func62 (by kernel_rfl) 50) fun ds d h => ?_
  split at h
  · rename_i f t s a
    cases h
    refine (nf_Ext f t s a).trans (ext_end f t s a fun h => ?_)
    simp only [okE, Bool.and_eq_true] at h
    simp only [h, if_true, extF]
    cases s <;> rfl
  · cases h
theorem nf_rExt (f t : Int) (s : Bool) (a : BitVec 64) : ex [(44, widthS), (76, fitsS), (69, worthS), (75, numS)] (fun _ => []) Tryd.f74 [.i .i64 f, .i .i64 t, .bool s, .u64 a] some =
  if (!okW f) = false then if (!okW t) = false then if decide (t < f) = false then if (!decide (a ≤ maskF f)) = true then argErr else
    if s = true then if fitF f a = true then some (.tup [.u64 (BitVec.ofInt 64 (sgnF f a) &&& maskF t), .i .i64 0]) else none else some (.tup [.u64 a, .i .i64 0]) else argErr else argErr else argErr := by kernel_rfl
theorem t_rExtend : Snd 74 ExtS := by
  refine Sound.join (execFn_sound (ann := fun _ => []) (TableOK.cons t_Width (TableOK.cons t_Fits (TableOK.cons t_Worth (TableOK.cons t_Number TableOK.nil)))) mixed Tryd.func74 (by kernel_rfl) 50) fun ds d h => ?_
  split at h
  · rename_i f t s a
    cases h
    refine (nf_rExt f t s a).trans (ext_end' f t s a fun h => ?_)
    simp only [okE, Bool.and_eq_true] at h
    simp only [h, if_true, extF]
    cases s <;> rfl
  · cases h
noncomputable def heldS : Ev.Spec := guarded fun | [.i .i64 t, .i .i64 n, .i .i64 l, .i .i64 h] => some (okW t, .u64 (heldF t n l h)) | _ => none
theorem nf_held (t n l h : Int) : ex [(51, maskOS)] (fun _ => []) Tryd.f57 [.i .i64 t, .i .i64 n, .i .i64 l, .i .i64 h] some = if okW t = true then some (.u64 (BitVec.ofInt 64 (if h < (if n < l then l else n) then h else (if n < l then l else n)) &&& maskF t)) else none := by kernel_rfl
theorem t_held : Snd 57 heldS := by
  refine Sound.guard (execFn_sound (ann := fun _ => []) (TableOK.cons t_mask TableOK.nil) mixed Tryd.func57 (by kernel_rfl) 50) fun ds d h => ?_
  split at h
  · rename_i t n l h'
    simp only [Option.some.injEq, Prod.mk.injEq] at h
    obtain ⟨hw, rfl⟩ := h
    refine (nf_held t n l h').trans ?_
    rw [if_pos hw, held_lt]
    rfl
  · cases h
noncomputable def NarS : Ev.Spec := joined fun | [.i .i64 f, .i .i64 t, .bool s, .u64 a] => some (narV f t s a) | _ => none
theorem nf_Nar (f t : Int) (s : Bool) (a : BitVec 64) : ex [(50, mayS), (55, worthS), (51, maskOS), (56, endsS), (57, heldS)] (fun _ => []) Tryd.f70 [.i .i64 f, .i .i64 t, .bool s, .u64 a] some =
  if (!mayF f [a]) = false then if (!okW t) = false then if decide (f ≤ t) = true then argErr else
    if okW t = true then if (!s) = true then if okW t = true then if fitF f a = true then if okW t = true then some (D.tup [.u64 (heldF t (sgnF f a) 0 (sOfU .i64 (maskF t))), .i .i64 0]) else none else none else none
    else if fitF f a = true then if okW t = true then some (D.tup [.u64 (heldF t (sgnF f a) (-(pw t / 2)) (pw t / 2 - 1)), .i .i64 0]) else none else none else none else argErr else argErr := by kernel_rfl
theorem t_Narrow : Snd 70 NarS := by
  refine Sound.join (execFn_sound (ann := fun _ => []) (TableOK.cons t_may (TableOK.cons t_worth (TableOK.cons t_mask (TableOK.cons t_ends (TableOK.cons t_held TableOK.nil))))) mixed Tryd.func70 (by kernel_rfl) 50) fun ds d h => ?_
  split at h
  · rename_i f t s a
    cases h
    refine (nf_Nar f t s a).trans (nar_end f t s a fun h => ?_)
    obtain ⟨h1, h2, h3⟩ := lt64 h
    rw [← nar_prog h]
    simp only [h1, h3, if_true]
  · cases h
theorem nf_rNar (f t : Int) (s : Bool) (a : BitVec 64) : ex [(44, widthS), (76, fitsS), (69, worthS), (75, numS), (68, maskS), (90, leastS), (91, greatestS)] (fun _ => []) Tryd.f71 [.i .i64 f, .i .i64 t, .bool s, .u64 a] some =
  if (!okW f) = false then if (!okW t) = false then if decide (f ≤ t) = false then if (!decide (a ≤ maskF f)) = true then argErr else
    if fitF f a = true then if s = true then if okW t = true then if okW t = true then some (D.tup [.u64 (BitVec.ofInt 64 (mxF (-(pw t / 2)) (mnF (pw t / 2 - 1) (sgnF f a))) &&& maskF t), .i .i64 0]) else none else none
    else some (D.tup [.u64 (BitVec.ofInt 64 (mxF 0 (mnF (sOfU .i64 (maskF t)) (sgnF f a)))), .i .i64 0]) else none else argErr else argErr else argErr := by kernel_rfl
theorem t_rNarrow : Snd 71 NarS := by
  refine Sound.join (execFn_sound (ann := fun _ => []) (TableOK.cons t_Width (TableOK.cons t_Fits (TableOK.cons t_Worth (TableOK.cons t_Number (TableOK.cons t_Most (TableOK.cons t_least (TableOK.cons t_greatest TableOK.nil))))))) mixed Tryd.func71 (by kernel_rfl) 50) fun ds d h => ?_
  split at h
  · rename_i f t s a
    cases h
    refine (nf_rNar f t s a).trans (nar_end' f t s a fun h => ?_)
    obtain ⟨h1, h2, h3⟩ := lt64 h
    rw [← nar_ref h]
    simp only [h1, h3, if_true]
  · cases h
end Go.L07
/-!
Whole numbers: a width, a number of it.
-/
namespace Go.L07
open Go.Ev Go.Proofs Go.RowKit Go.Wh

def widF (n : BitVec 8) : Int := IntKind.i64.wrap (8 * 2 ^ min (BitVec.setWidth 64 (n % BitVec.ofInt 8 4)).toNat IntKind.i64.bits)
theorem okW_wid (n : BitVec 8) : okW (widF n) = true := by
  revert n; decide +kernel
noncomputable def widS : Ev.Spec := joined fun | [.u8 n] => some (.i .i64 (widF n)) | _ => none
noncomputable def ofS : Ev.Spec := joined fun | [.i .i64 w, .u64 a] => some (.u64 (a &&& maskF w)) | _ => none
end Go.L07
/-!
Sums that carry.
-/
namespace Go.L07
open Go.Ev Go.Proofs Go.RowKit Go.Wh

noncomputable def add64S : Ev.Spec := joined fun | [.u64 x, .u64 y, .u64 0#64] => some (.tup [.u64 (x + y), .u64 (cry x y)]) | _ => none
theorem t_Add64 : Snd 85 add64S := by
  refine Sound.of_pt fun ds d h => ?_
  split at h
  · rename_i x y
    cases h
    intro w args hG hl
    simp only [lie, lies] at hl
    obtain ⟨v0, a0, rfl, rfl, v1, a1, rfl, rfl, v2, a2, rfl, rfl, rfl⟩ := hl
    have hx := x.isLt
    have hy := y.isLt
    have e := run_add64 (P := Tryd.prog) (x.toNat : Int) (y.toNat : Int) ((0#64).toNat : Int) (by omega) (by omega) (by simp) (by simp) w
    have z : ((0#64).toNat : Int) = 0 := rfl
    refine .inl ⟨.tuple #[.int .u64 (((x.toNat : Int) + y.toNat + ((0#64).toNat : Int)) % 18446744073709551616), .int .u64 (((x.toNat : Int) + y.toNat + ((0#64).toNat : Int)) / 18446744073709551616)], w, ?_, Below.refl _ _, ?_⟩
    · rw [run_callFunc_extern Tryd.func85 (by kernel_rfl) (by kernel_rfl) (by kernel_rfl) (e := add64Entry) (by kernel_rfl), e]
      rfl
    · simp only [lies, lie]
      refine ⟨_, rfl, _, _, rfl, ?_, _, _, rfl, ?_, rfl⟩
      · rw [z, BitVec.toNat_add]
        congr 1
      · rw [z, cry, BitVec.toNat_ofNat]
        congr 1
        omega
  · cases h
end Go.L07
/-!
Whole numbers: quotients, moves, what is held.
-/
namespace Go.L07
open Go.Ev Go.Proofs Go.RowKit Go.Wh

noncomputable def DivS : Ev.Spec := guarded fun | [.u8 o, .i .i64 w, .u64 a, .u64 b] => some (fitF w a && fitF w b, divD o w a b) | _ => none
theorem nf_div (o : BitVec 8) (w : Int) (a b : BitVec 64) : ex [(55, worthS), (56, endsS), (51, maskOS)] (fun _ => []) Tryd.f52 [.u8 o, .i .i64 w, .u64 a, .u64 b] some = divP o w a b := by kernel_rfl
theorem t_divide : Snd 52 DivS := by
  refine Sound.guard (execFn_sound (ann := fun _ => []) (TableOK.cons t_worth (TableOK.cons t_ends (TableOK.cons t_mask TableOK.nil))) mixed Tryd.func52 (by kernel_rfl) 50) fun ds d h => ?_
  split at h
  · rename_i o w a b
    simp only [Option.some.injEq, Prod.mk.injEq, Bool.and_eq_true] at h
    obtain ⟨⟨h1, h2⟩, rfl⟩ := h
    exact (nf_div o w a b).trans (divP_eq h1 h2)
  · cases h
noncomputable def MovS : Ev.Spec := guarded fun | [.u8 o, .i .i64 w, .u64 a, .u64 n] => some (fitF w a, .u64 (movV o w a n)) | _ => none
theorem nf_mov (o : BitVec 8) (w : Int) (a n : BitVec 64) : ex [(55, worthS), (51, maskOS)] (fun _ => []) Tryd.f53 [.u8 o, .i .i64 w, .u64 a, .u64 n] some = movP o w a n := by kernel_rfl
theorem t_move : Snd 53 MovS := by
  refine Sound.guard (execFn_sound (ann := fun _ => []) (TableOK.cons t_worth (TableOK.cons t_mask TableOK.nil)) mixed Tryd.func53 (by kernel_rfl) 50) fun ds d h => ?_
  split at h
  · rename_i o w a n
    simp only [Option.some.injEq, Prod.mk.injEq] at h
    obtain ⟨h1, rfl⟩ := h
    exact (nf_mov o w a n).trans (movP_eq h1)
  · cases h
noncomputable def SatS : Ev.Spec := guarded fun | [.u8 o, .i .i64 w, .u64 a, .u64 b] => some (fitF w a && fitF w b, .u64 (satV o w a b)) | _ => none
theorem nf_sat (o : BitVec 8) (w : Int) (a b : BitVec 64) : ex [(55, worthS), (56, endsS), (51, maskOS), (85, add64S)] (fun _ => []) Tryd.f54 [.u8 o, .i .i64 w, .u64 a, .u64 b] some = satP o w a b := by kernel_rfl
theorem t_saturate : Snd 54 SatS := by
  refine Sound.guard (execFn_sound (ann := fun _ => []) (TableOK.cons t_worth (TableOK.cons t_ends (TableOK.cons t_mask (TableOK.cons t_Add64 TableOK.nil)))) mixed Tryd.func54 (by kernel_rfl) 50) fun ds d h => ?_
  split at h
  · rename_i o w a b
    simp only [Option.some.injEq, Prod.mk.injEq, Bool.and_eq_true] at h
    obtain ⟨⟨h1, h2⟩, rfl⟩ := h
    exact (nf_sat o w a b).trans (satP_eq h1 h2)
  · cases h
end Go.L07
/-!
Whole numbers: the operators of two.
-/
namespace Go.L07
open Go.Ev Go.Proofs Go.RowKit Go.Wh

/-- Over whatever functions: what a caller does hangs on no more. -/
noncomputable def TwoG (N : BitVec 8 → Int → BitVec 64 → BitVec 64 → BitVec 64) (R : BitVec 8 → Int → BitVec 64 → BitVec 64 → Int) : Ev.Spec := joined fun | [.u8 o, .i .i64 w, .u64 a, .u64 b] => some (.tup [.u64 (N o w a b), .i .i64 (R o w a b)]) | _ => none
noncomputable def TwoS : Ev.Spec := TwoG twoN twoR
theorem nf_Two (o : BitVec 8) (w : Int) (a b : BitVec 64) : ex [(50, mayS), (51, maskOS), (52, DivS), (53, MovS), (54, SatS), (55, worthS), (56, endsS), (57, heldS)] (fun _ => []) Tryd.f18 [.u8 o, .i .i64 w, .u64 a, .u64 b] some = twoP o w a b := by kernel_rfl
theorem t_Two : Snd 18 TwoS := by
  refine Sound.join (execFn_sound (ann := fun _ => []) (TableOK.cons t_may (TableOK.cons t_mask (TableOK.cons t_divide (TableOK.cons t_move (TableOK.cons t_saturate (TableOK.cons t_worth (TableOK.cons t_ends (TableOK.cons t_held TableOK.nil)))))))) mixed Tryd.func18 (by kernel_rfl) 50) fun ds d h => ?_
  split at h
  · rename_i o w a b
    cases h
    exact (nf_Two o w a b).trans (twoP_eq o w a b)
  · cases h
noncomputable def two1G (N : BitVec 8 → Int → BitVec 64 → BitVec 64 → BitVec 64) : Ev.Spec := joined fun | [.u8 o, .i .i64 w, .u64 a, .u64 b] => some (.u64 (N o w a b)) | _ => none
noncomputable def two1S : Ev.Spec := two1G twoN
noncomputable def widG (W : BitVec 8 → Int) : Ev.Spec := joined fun | [.u8 n] => some (.i .i64 (W n)) | _ => none
noncomputable def ofG (O : Int → BitVec 64 → BitVec 64) : Ev.Spec := joined fun | [.i .i64 w, .u64 a] => some (.u64 (O w a)) | _ => none
noncomputable def ThanG (C : BitVec 8 → Int → BitVec 64 → BitVec 64 → Bool) : Ev.Spec := joined fun | [.u8 o, .i .i64 w, .u64 a, .u64 b] => some (.tup [.bool (C o w a b), .any]) | _ => none
noncomputable def OneG (U : BitVec 8 → Int → BitVec 64 → BitVec 64) : Ev.Spec := joined fun | [.u8 o, .i .i64 w, .u64 a] => some (.tup [.u64 (U o w a), .any]) | _ => none
end Go.L07
