/-
  Part of the proof; what its functions and lemmas say stands in the text.
-/
import Derived.Test.YtlicpmhlphhabaaDoorWhD
import Derived.Test.YtlicpmhlphhabaaDoorS07B
import Derived.WalkKit
import Derived.Laws.Bits64b
import Derived.Lib.TrailingZeros
set_option linter.unusedSimpArgs false
set_option linter.unusedVariables false
/-!
Whole numbers: zeros and ones, counted by the library.
-/
namespace Go.L07
open Go.Ev Go.Proofs Go.RowKit Go.Wh

set_option maxHeartbeats 1000000 in
theorem tz_core (x k idx : Nat) (w : World) (hx0 : ((x : Int) == 0) = false)
    (key : IntKind.u64.wrap (bits BinOp.and IntKind.u64 (x : Int) (IntKind.u64.wrap (-(x : Int))) * 285870213051353865) / 288230376151711744 = (idx : Int))
    (hi : idx < 64) (hk : k < 64) (hcell : w.cell? ⟨1, idx, none⟩ = some (.int .u8 k)) :
    Calls Tryd.prog 87 #[.int .u64 x] w fun e w' => e = .returned (.int .i64 k) ∧ w' = w := by
  go_enter Tryd.func87, Tryd.ntmps87
  go_wp2_with (simp only [key])
  go_ret
  exact ⟨rfl, rfl⟩
theorem tz_zero (w : World) : Calls Tryd.prog 87 #[.int .u64 0] w fun e w' => e = .returned (.int .i64 64) ∧ w' = w := by
  go_enter Tryd.func87, Tryd.ntmps87
  go_wp2
  go_ret
  exact ⟨rfl, rfl⟩
theorem tz_key (x a : Nat) (hx : x < 18446744073709551616) (hx0 : x ≠ 0) (hlow : x &&& (18446744073709551616 - x) = a) :
    IntKind.u64.wrap (bits BinOp.and IntKind.u64 (x : Int) (IntKind.u64.wrap (-(x : Int))) * 285870213051353865) / 288230376151711744 = ((a * 285870213051353865 % 18446744073709551616 / 288230376151711744 : Nat) : Int) := by
  have e1 : IntKind.u64.wrap (-(x : Int)) = ((18446744073709551616 - x : Nat) : Int) := by rw [IntKind.wrap_u64]; omega
  rw [e1, bits_and_u64_nat x _ hx (by omega), hlow, IntKind.wrap_u64]
  omega
theorem tab_nat : tab64 = Lib.deBruijn64tab.map (fun n : Nat => (n : Int)) := by decide
theorem tz_at {w : World} (hG : Glob G0 w) (idx k : Nat) (hi : idx < 64) (htab : Lib.deBruijn64tab.getD idx 0 = k) : w.cell? ⟨1, idx, none⟩ = some (.int .u8 k) := by
  obtain ⟨_, hcell⟩ := hG 1 (.ai .u8 tab64) (by simp [G0, tab64])
  obtain ⟨v, h1, h2⟩ := hcell idx hi
  simp only [SV.cell, rep] at h2
  subst h2
  rw [h1, tab_nat, List.getD_eq_getElem?_getD, List.getElem?_map]
  rw [List.getD_eq_getElem?_getD] at htab
  have hl : idx < Lib.deBruijn64tab.length := hi
  rw [List.getElem?_eq_getElem hl] at htab ⊢
  simp only [Option.getD_some, Option.map_some] at htab ⊢
  rw [htab]
theorem tz_calls (x : Nat) (hx : x < 18446744073709551616) (w : World) (hG : Glob G0 w) : Calls Tryd.prog 87 #[.int .u64 x] w fun e w' => e = .returned (.int .i64 (Lib.ctz 64 x)) ∧ w' = w := by
  by_cases hx0 : x = 0
  · subst hx0
    exact tz_zero w
  · obtain ⟨hlow, hk⟩ := Lib.lowest_bit 64 x hx0 hx
    obtain ⟨hi, htab⟩ := Lib.deBruijn64_at _ hk
    have key := tz_key x _ hx hx0 hlow
    revert hi htab key
    generalize 2 ^ Lib.ctz 64 x * 285870213051353865 % 18446744073709551616 / 288230376151711744 = idx
    intro hi htab key
    exact tz_core x _ idx w (by simp; omega) key hi hk (tz_at hG idx _ hi htab)
/-- A number of a word. -/
noncomputable def intS (f : BitVec 64 → Int) : Ev.Spec := joined fun | [.u64 a] => some (.i .i64 (f a)) | _ => none
theorem t_tz : Snd 87 (intS tzF) := by
  refine Sound.of_pt fun ds d h => ?_
  split at h
  · rename_i a
    cases h
    intro w args hG hl
    simp only [lie, lies] at hl
    obtain ⟨v0, a0, rfl, rfl, rfl⟩ := hl
    refine .inr ⟨by kernel_rfl, ?_⟩
    exact Calls.mono (tz_calls a.toNat a.isLt w hG) fun e w' ⟨he, hw⟩ => ⟨_, he, by rw [hw]; exact Below.refl _ _, by simp only [lies]; rfl⟩
  · cases h
end Go.L07
/-!
Whole numbers: the operators of one.
-/
namespace Go.L07
open Go.Ev Go.Proofs Go.RowKit Go.Wh

set_option maxRecDepth 100000 in
theorem nf_len (a : BitVec 64) : ex [] (fun _ => []) Tryd.f92 [.u64 a] some = lenT a := by kernel_rfl
theorem t_len : Snd 92 (intS fun a => (lenF a.toNat : Nat)) := by
  refine Sound.join (execFn_sound (ann := fun _ => []) TableOK.nil mixed Tryd.func92 (by kernel_rfl) 50) fun ds d h => ?_
  split at h
  · rename_i a
    cases h
    exact (nf_len a).trans (lenT_eq a)
  · cases h
theorem nf_lz (f : BitVec 64 → Int) (a : BitVec 64) : ex [(92, intS f)] (fun _ => []) Tryd.f86 [.u64 a] some = some (.i .i64 (IntKind.i64.wrap (64 - f a))) := by kernel_rfl
theorem t_lz : Snd 86 (intS fun a => 64 - (lenF a.toNat : Nat)) := by
  refine Sound.join (execFn_sound (ann := fun _ => []) (TableOK.cons t_len TableOK.nil) mixed Tryd.func86 (by kernel_rfl) 50) fun ds d h => ?_
  split at h
  · rename_i a
    cases h
    refine (nf_lz _ a).trans ?_
    have := len_le64 a
    rw [wrap_in (by omega) (by omega)]
  · cases h
theorem nf_ones (a : BitVec 64) : ex [] (fun _ => []) Tryd.f88 [.u64 a] some = some (.i .i64 (IntKind.i64.wrap ((BitVec.ofInt 64 (sOfU .i64 (onesF a)) &&& BitVec.ofInt 64 127).toNat : Nat))) := by kernel_rfl
theorem t_ones : Snd 88 (intS fun a => (popN 64 a.toNat : Nat)) := by
  refine Sound.join (execFn_sound (ann := fun _ => []) TableOK.nil mixed Tryd.func88 (by kernel_rfl) 50) fun ds d h => ?_
  split at h
  · rename_i a
    cases h
    refine (nf_ones a).trans ?_
    have hl : (onesF a &&& BitVec.ofInt 64 127).toNat < 128 := by
      rw [BitVec.toNat_and]
      exact Nat.lt_of_le_of_lt Nat.and_le_right (by decide)
    show _ = some (D.i .i64 ((popN 64 a.toNat : Nat) : Int))
    rw [sOfU64, BitVec.ofInt_toInt, ← ones_eq a, wrap_in (by omega) (by omega)]
  · cases h
/-- Over whatever functions. -/
noncomputable def OneH (U : BitVec 8 → Int → BitVec 64 → BitVec 64) (R : BitVec 8 → Int → BitVec 64 → Int) : Ev.Spec := joined fun | [.u8 o, .i .i64 w, .u64 a] => some (.tup [.u64 (U o w a), .i .i64 (R o w a)]) | _ => none
noncomputable def OneS : Ev.Spec := OneH oneN oneR
theorem nf_One (l t p : BitVec 64 → Int) (o : BitVec 8) (w : Int) (a : BitVec 64) : ex [(50, mayS), (51, maskOS), (55, worthS), (86, intS l), (87, intS t), (88, intS p)] (fun _ => []) Tryd.f59 [.u8 o, .i .i64 w, .u64 a] some =
  if (!mayF w [a]) = true then some (.tup [.u64 0#64, .i .i64 2]) else oneP l t p o w a := by kernel_rfl
theorem t_One : Snd 59 OneS := by
  refine Sound.join (execFn_sound (ann := fun _ => []) (TableOK.cons t_may (TableOK.cons t_mask (TableOK.cons t_worth (TableOK.cons t_lz (TableOK.cons t_tz (TableOK.cons t_ones TableOK.nil)))))) mixed Tryd.func59 (by kernel_rfl) 50) fun ds d h => ?_
  split at h
  · rename_i o w a
    cases h
    exact (nf_One _ _ _ o w a).trans (one_end fun hm => oneP_eq hm)
  · cases h
end Go.L07
