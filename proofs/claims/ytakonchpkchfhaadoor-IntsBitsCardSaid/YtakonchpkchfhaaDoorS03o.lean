/-
  Part of the proof; what its functions and lemmas say stands in the text.
-/
import Derived.Test.YtakonchpkchfhaaDoorWhD
import Derived.Test.YtakonchpkchfhaaDoorS03n
set_option linter.unusedSimpArgs false
set_option linter.unusedVariables false
/-!
Whole numbers: the operators of one.
-/
namespace Go.L03
open Go.Ev Go.Proofs Go.RowKit Go.Wh

set_option maxRecDepth 100000 in
theorem nf_len (a : BitVec 64) : ex [] (fun _ => []) Tryd.f52 [.u64 a] some = lenT a := by kernel_rfl
theorem t_len : Snd 52 (intS fun a => (lenF a.toNat : Nat)) := by
  refine Sound.join (execFn_sound (ann := fun _ => []) TableOK.nil mixed Tryd.func52 (by kernel_rfl) 50) fun ds d h => ?_
  split at h
  · rename_i a
    cases h
    exact (nf_len a).trans (lenT_eq a)
  · cases h
theorem nf_lz (f : BitVec 64 → Int) (a : BitVec 64) : ex [(52, intS f)] (fun _ => []) Tryd.f44 [.u64 a] some = some (.i .i64 (IntKind.i64.wrap (64 - f a))) := by kernel_rfl
theorem t_lz : Snd 44 (intS fun a => 64 - (lenF a.toNat : Nat)) := by
  refine Sound.join (execFn_sound (ann := fun _ => []) (TableOK.cons t_len TableOK.nil) mixed Tryd.func44 (by kernel_rfl) 50) fun ds d h => ?_
  split at h
  · rename_i a
    cases h
    refine (nf_lz _ a).trans ?_
    have := len_le64 a
    rw [wrap_in (by omega) (by omega)]
  · cases h
theorem nf_ones (a : BitVec 64) : ex [] (fun _ => []) Tryd.f46 [.u64 a] some = some (.i .i64 (IntKind.i64.wrap ((BitVec.ofInt 64 (sOfU .i64 (onesF a)) &&& BitVec.ofInt 64 127).toNat : Nat))) := by kernel_rfl
theorem t_ones : Snd 46 (intS fun a => (popN 64 a.toNat : Nat)) := by
  refine Sound.join (execFn_sound (ann := fun _ => []) TableOK.nil mixed Tryd.func46 (by kernel_rfl) 50) fun ds d h => ?_
  split at h
  · rename_i a
    cases h
    refine (nf_ones a).trans ?_
    have hl : (onesF a &&& BitVec.ofInt 64 127).toNat < 128 := by
      rw [BitVec.toNat_and]
      exact Nat.lt_of_le_of_lt Nat.and_le_right (by decide)
    show _ = some (D.i .i64 ((popN 64 a.toNat : Nat) : Int))
    rw [sOfU64, BitVec.ofInt_toInt, ← ones_eq a, wrap_in (by omega) (by omega)]
  · cases h
/-- Over whatever functions. -/
noncomputable def OneH (U : BitVec 8 → Int → BitVec 64 → BitVec 64) (R : BitVec 8 → Int → BitVec 64 → Int) : Ev.Spec := joined fun | [.u8 o, .i .i64 w, .u64 a] => some (.tup [.u64 (U o w a), .i .i64 (R o w a)]) | _ => none
noncomputable def OneS : Ev.Spec := OneH oneN oneR
theorem nf_One (l t p : BitVec 64 → Int) (o : BitVec 8) (w : Int) (a : BitVec 64) : ex [(27, mayS), (28, maskOS), (32, worthS), (44, intS l), (45, intS t), (46, intS p)] (fun _ => []) Tryd.f16 [.u8 o, .i .i64 w, .u64 a] some =
  if (!mayF w [a]) = true then some (.tup [.u64 0#64, .i .i64 2]) else oneP l t p o w a := by kernel_rfl
theorem t_One : Snd 16 OneS := by
  refine Sound.join (execFn_sound (ann := fun _ => []) (TableOK.cons t_may (TableOK.cons t_mask (TableOK.cons t_worth (TableOK.cons t_lz (TableOK.cons t_tz (TableOK.cons t_ones TableOK.nil)))))) mixed Tryd.func16 (by kernel_rfl) 50) fun ds d h => ?_
  split at h
  · rename_i o w a
    cases h
    exact (nf_One _ _ _ o w a).trans (one_end fun hm => oneP_eq hm)
  · cases h
end Go.L03
