/-
  Part of the proof; what its functions and lemmas say stands in the text.
-/
import Derived.Test.YtnbafdmlfpmfkaaGreatDoorWhC
import Derived.Test.YtnbafdmlfpmfkaaGreatDoorR23
import Derived.Laws.Externs
import Derived.Test.YtnbafdmlfpmfkaaGreatDoorWhD
import Derived.WalkKit
import Derived.Laws.Bits64b
import Derived.Lib.TrailingZeros
set_option linter.unusedSimpArgs false
set_option linter.unusedVariables false
namespace Go.L23
open Go.Ev Go.Proofs Go.RowKit Go.Wh
noncomputable def add64S : Ev.Spec := joined fun | [.u64 x, .u64 y, .u64 0#64] => some (.tup [.u64 (x + y), .u64 (cry x y)]) | _ => none
theorem t_Add64 : Snd 289 add64S := by
 refine Sound.of_pt fun ds d h => ?_
 split at h
 ·rename_i x y
  cases h
  intro w args hG hl
  simp only [lie, lies] at hl
  obtain ⟨v0, a0, rfl, rfl, v1, a1, rfl, rfl, v2, a2, rfl, rfl, rfl⟩ := hl
  have hx := x.isLt
  have hy := y.isLt
  have e := run_add64 (P := Tryz.prog) (x.toNat : Int) (y.toNat : Int) ((0#64).toNat : Int) (by omega) (by omega) (by simp) (by simp) w
  have z : ((0#64).toNat : Int) = 0 := rfl
  refine .inl ⟨.tuple #[.int .u64 (((x.toNat : Int) + y.toNat + ((0#64).toNat : Int)) % 18446744073709551616), .int .u64 (((x.toNat : Int) + y.toNat + ((0#64).toNat : Int)) / 18446744073709551616)], w, ?_, Below.refl _ _, ?_⟩
  ·rw [run_callFunc_extern Tryz.func289 (by kernel_rfl) (by kernel_rfl) (by kernel_rfl) (e := add64Entry) (by kernel_rfl), e]
   rfl
  ·simp only [lies, lie]
   refine ⟨_, rfl, _, _, rfl, ?_, _, _, rfl, ?_, rfl⟩
   ·rw [z, BitVec.toNat_add]
    congr 1
   ·rw [z, cry, BitVec.toNat_ofNat]
    congr 1
    omega
 ·cases h
end Go.L23
namespace Go.L23
open Go.Ev Go.Proofs Go.RowKit Go.Wh
noncomputable def DivS : Ev.Spec := guarded fun | [.u8 o, .i .i64 w, .u64 a, .u64 b] => some (fitF w a && fitF w b, divD o w a b) | _ => none
theorem nf_div (o : BitVec 8) (w : Int) (a b : BitVec 64) : ex [(76, worthS), (230, endsS), (77, maskOS)] (fun _ => []) Tryz.f227 [.u8 o, .i .i64 w, .u64 a, .u64 b] some = divP o w a b := by kernel_rfl
theorem t_divide : Snd 227 DivS := by
 refine Sound.guard (execFn_sound (ann := fun _ => []) (TableOK.cons t_worth (TableOK.cons t_ends (TableOK.cons t_mask TableOK.nil))) mixed Tryz.func227 (by kernel_rfl) 50) fun ds d h => ?_
 split at h
 ·rename_i o w a b
  simp only [Option.some.injEq, Prod.mk.injEq, Bool.and_eq_true] at h
  obtain ⟨⟨h1, h2⟩, rfl⟩ := h
  exact (nf_div o w a b).trans (divP_eq h1 h2)
 ·cases h
noncomputable def MovS : Ev.Spec := guarded fun | [.u8 o, .i .i64 w, .u64 a, .u64 n] => some (fitF w a, .u64 (movV o w a n)) | _ => none
theorem nf_mov (o : BitVec 8) (w : Int) (a n : BitVec 64) : ex [(76, worthS), (77, maskOS)] (fun _ => []) Tryz.f228 [.u8 o, .i .i64 w, .u64 a, .u64 n] some = movP o w a n := by kernel_rfl
theorem t_move : Snd 228 MovS := by
 refine Sound.guard (execFn_sound (ann := fun _ => []) (TableOK.cons t_worth (TableOK.cons t_mask TableOK.nil)) mixed Tryz.func228 (by kernel_rfl) 50) fun ds d h => ?_
 split at h
 ·rename_i o w a n
  simp only [Option.some.injEq, Prod.mk.injEq] at h
  obtain ⟨h1, rfl⟩ := h
  exact (nf_mov o w a n).trans (movP_eq h1)
 ·cases h
noncomputable def SatS : Ev.Spec := guarded fun | [.u8 o, .i .i64 w, .u64 a, .u64 b] => some (fitF w a && fitF w b, .u64 (satV o w a b)) | _ => none
theorem nf_sat (o : BitVec 8) (w : Int) (a b : BitVec 64) : ex [(76, worthS), (230, endsS), (77, maskOS), (289, add64S)] (fun _ => []) Tryz.f229 [.u8 o, .i .i64 w, .u64 a, .u64 b] some = satP o w a b := by kernel_rfl
theorem t_saturate : Snd 229 SatS := by
 refine Sound.guard (execFn_sound (ann := fun _ => []) (TableOK.cons t_worth (TableOK.cons t_ends (TableOK.cons t_mask (TableOK.cons t_Add64 TableOK.nil)))) mixed Tryz.func229 (by kernel_rfl) 50) fun ds d h => ?_
 split at h
 ·rename_i o w a b
  simp only [Option.some.injEq, Prod.mk.injEq, Bool.and_eq_true] at h
  obtain ⟨⟨h1, h2⟩, rfl⟩ := h
  exact (nf_sat o w a b).trans (satP_eq h1 h2)
 ·cases h
end Go.L23
namespace Go.L23
open Go.Ev Go.Proofs Go.RowKit Go.Wh
noncomputable def TwoG (N : BitVec 8 → Int → BitVec 64 → BitVec 64 → BitVec 64) (R : BitVec 8 → Int → BitVec 64 → BitVec 64 → Int) : Ev.Spec := joined fun | [.u8 o, .i .i64 w, .u64 a, .u64 b] => some (.tup [.u64 (N o w a b), .i .i64 (R o w a b)]) | _ => none
noncomputable def TwoS : Ev.Spec := TwoG twoN twoR
theorem nf_Two (o : BitVec 8) (w : Int) (a b : BitVec 64) : ex [(75, mayS), (77, maskOS), (227, DivS), (228, MovS), (229, SatS), (76, worthS), (230, endsS), (231, heldS)] (fun _ => []) Tryz.f133 [.u8 o, .i .i64 w, .u64 a, .u64 b] some = twoP o w a b := by kernel_rfl
theorem t_Two : Snd 133 TwoS := by
 refine Sound.join (execFn_sound (ann := fun _ => []) (TableOK.cons t_may (TableOK.cons t_mask (TableOK.cons t_divide (TableOK.cons t_move (TableOK.cons t_saturate (TableOK.cons t_worth (TableOK.cons t_ends (TableOK.cons t_held TableOK.nil)))))))) mixed Tryz.func133 (by kernel_rfl) 50) fun ds d h => ?_
 split at h
 ·rename_i o w a b
  cases h
  exact (nf_Two o w a b).trans (twoP_eq o w a b)
 ·cases h
end Go.L23
namespace Go.L23
open Go.Ev Go.Proofs Go.RowKit Go.Wh
set_option maxHeartbeats 1000000 in
theorem tz_core (x k idx : Nat) (w : World) (hx0 : ((x : Int) == 0) = false)
  (key : IntKind.u64.wrap (bits BinOp.and IntKind.u64 (x : Int) (IntKind.u64.wrap (-(x : Int))) * 285870213051353865) / 288230376151711744 = (idx : Int))
  (hi : idx < 64) (hk : k < 64) (hcell : w.cell? ⟨9, idx, none⟩ = some (.int .u8 k)) :
  Calls Tryz.prog 225 #[.int .u64 x] w fun e w' => e = .returned (.int .i64 k) ∧ w' = w := by
 go_enter Tryz.func225, Tryz.ntmps225
 go_wp2_with (simp only [key])
 go_ret
 exact ⟨rfl, rfl⟩
theorem tz_zero (w : World) : Calls Tryz.prog 225 #[.int .u64 0] w fun e w' => e = .returned (.int .i64 64) ∧ w' = w := by
 go_enter Tryz.func225, Tryz.ntmps225
 go_wp2
 go_ret
 exact ⟨rfl, rfl⟩
theorem tz_key (x a : Nat) (hx : x < 18446744073709551616) (hx0 : x ≠ 0) (hlow : x &&& (18446744073709551616 - x) = a) :
  IntKind.u64.wrap (bits BinOp.and IntKind.u64 (x : Int) (IntKind.u64.wrap (-(x : Int))) * 285870213051353865) / 288230376151711744 = ((a * 285870213051353865 % 18446744073709551616 / 288230376151711744 : Nat) : Int) := by
 have e1 : IntKind.u64.wrap (-(x : Int)) = ((18446744073709551616 - x : Nat) : Int) := by rw [IntKind.wrap_u64]; omega
 rw [e1, bits_and_u64_nat x _ hx (by omega), hlow, IntKind.wrap_u64]
 omega
def tab64 : List Int := [0, 1, 56, 2, 57, 49, 28, 3, 61, 58, 42, 50, 38, 29, 17, 4, 62, 47, 59, 36, 45, 43, 51, 22, 53, 39, 33, 30, 24, 18, 12, 5, 63, 55, 48, 27, 60, 41, 37, 16, 46, 35, 44, 21, 52, 32, 23, 11, 54, 26, 40, 15, 34, 20, 31, 10, 25, 14, 19, 9, 13, 8, 7, 6]
theorem tab_nat : tab64 = Lib.deBruijn64tab.map (fun n : Nat => (n : Int)) := by decide
theorem tz_at {w : World} (hG : Glob G0 w) (idx k : Nat) (hi : idx < 64) (htab : Lib.deBruijn64tab.getD idx 0 = k) : w.cell? ⟨9, idx, none⟩ = some (.int .u8 k) := by
 obtain ⟨_, hcell⟩ := hG 9 (.ai .u8 tab64) (List.mem_of_getElem? (i := 8) rfl)
 obtain ⟨v, h1, h2⟩ := hcell idx hi
 simp only [SV.cell, rep] at h2
 subst h2
 rw [h1, tab_nat, List.getD_eq_getElem?_getD, List.getElem?_map]
 rw [List.getD_eq_getElem?_getD] at htab
 have hl : idx < Lib.deBruijn64tab.length := hi
 rw [List.getElem?_eq_getElem hl] at htab ⊢
 simp only [Option.getD_some, Option.map_some] at htab ⊢
 rw [htab]
theorem tz_calls (x : Nat) (hx : x < 18446744073709551616) (w : World) (hG : Glob G0 w) : Calls Tryz.prog 225 #[.int .u64 x] w fun e w' => e = .returned (.int .i64 (Lib.ctz 64 x)) ∧ w' = w := by
 by_cases hx0 : x = 0
 ·subst hx0
  exact tz_zero w
 ·obtain ⟨hlow, hk⟩ := Lib.lowest_bit 64 x hx0 hx
  obtain ⟨hi, htab⟩ := Lib.deBruijn64_at _ hk
  have key := tz_key x _ hx hx0 hlow
  revert hi htab key
  generalize 2 ^ Lib.ctz 64 x * 285870213051353865 % 18446744073709551616 / 288230376151711744 = idx
  intro hi htab key
  exact tz_core x _ idx w (by simp; omega) key hi hk (tz_at hG idx _ hi htab)
noncomputable def intS (f : BitVec 64 → Int) : Ev.Spec := joined fun | [.u64 a] => some (.i .i64 (f a)) | _ => none
theorem t_tz : Snd 225 (intS tzF) := by
 refine Sound.of_pt fun ds d h => ?_
 split at h
 ·rename_i a
  cases h
  intro w args hG hl
  simp only [lie, lies] at hl
  obtain ⟨v0, a0, rfl, rfl, rfl⟩ := hl
  refine .inr ⟨by kernel_rfl, ?_⟩
  exact Calls.mono (tz_calls a.toNat a.isLt w hG) fun e w' ⟨he, hw⟩ => ⟨_, he, by rw [hw]; exact Below.refl _ _, by simp only [lies]; rfl⟩
 ·cases h
end Go.L23
namespace Go.L23
open Go.Ev Go.Proofs Go.RowKit Go.Wh
set_option maxRecDepth 100000 in
theorem nf_len (a : BitVec 64) : ex [] (fun _ => []) Tryz.f288 [.u64 a] some = lenT a := by kernel_rfl
theorem t_len : Snd 288 (intS fun a => (lenF a.toNat : Nat)) := by
 refine Sound.join (execFn_sound (ann := fun _ => []) TableOK.nil mixed Tryz.func288 (by kernel_rfl) 50) fun ds d h => ?_
 split at h
 ·rename_i a
  cases h
  exact (nf_len a).trans (lenT_eq a)
 ·cases h
theorem nf_lz (f : BitVec 64 → Int) (a : BitVec 64) : ex [(288, intS f)] (fun _ => []) Tryz.f224 [.u64 a] some = some (.i .i64 (IntKind.i64.wrap (64 - f a))) := by kernel_rfl
theorem t_lz : Snd 224 (intS fun a => 64 - (lenF a.toNat : Nat)) := by
 refine Sound.join (execFn_sound (ann := fun _ => []) (TableOK.cons t_len TableOK.nil) mixed Tryz.func224 (by kernel_rfl) 50) fun ds d h => ?_
 split at h
 ·rename_i a
  cases h
  refine (nf_lz _ a).trans ?_
  have := len_le64 a
  rw [wrap_in (by omega) (by omega)]
 ·cases h
theorem nf_ones (a : BitVec 64) : ex [] (fun _ => []) Tryz.f226 [.u64 a] some = some (.i .i64 (IntKind.i64.wrap ((BitVec.ofInt 64 (sOfU .i64 (onesF a)) &&& BitVec.ofInt 64 127).toNat : Nat))) := by kernel_rfl
theorem t_ones : Snd 226 (intS fun a => (popN 64 a.toNat : Nat)) := by
 refine Sound.join (execFn_sound (ann := fun _ => []) TableOK.nil mixed Tryz.func226 (by kernel_rfl) 50) fun ds d h => ?_
 split at h
 ·rename_i a
  cases h
  refine (nf_ones a).trans ?_
  have hl : (onesF a &&& BitVec.ofInt 64 127).toNat < 128 := by
   rw [BitVec.toNat_and]
   exact Nat.lt_of_le_of_lt Nat.and_le_right (by decide)
  show _ = some (D.i .i64 ((popN 64 a.toNat : Nat) : Int))
  rw [sOfU64, BitVec.ofInt_toInt, ← ones_eq a, wrap_in (by omega) (by omega)]
 ·cases h
noncomputable def OneH (U : BitVec 8 → Int → BitVec 64 → BitVec 64) (R : BitVec 8 → Int → BitVec 64 → Int) : Ev.Spec := joined fun | [.u8 o, .i .i64 w, .u64 a] => some (.tup [.u64 (U o w a), .i .i64 (R o w a)]) | _ => none
noncomputable def OneS : Ev.Spec := OneH oneN oneR
theorem nf_One (l t p : BitVec 64 → Int) (o : BitVec 8) (w : Int) (a : BitVec 64) : ex [(75, mayS), (77, maskOS), (76, worthS), (224, intS l), (225, intS t), (226, intS p)] (fun _ => []) Tryz.f132 [.u8 o, .i .i64 w, .u64 a] some =
 if (!mayF w [a]) = true then some (.tup [.u64 0#64, .i .i64 2]) else oneP l t p o w a := by kernel_rfl
theorem t_One : Snd 132 OneS := by
 refine Sound.join (execFn_sound (ann := fun _ => []) (TableOK.cons t_may (TableOK.cons t_mask (TableOK.cons t_worth (TableOK.cons t_lz (TableOK.cons t_tz (TableOK.cons t_ones TableOK.nil)))))) mixed Tryz.func132 (by kernel_rfl) 50) fun ds d h => ?_
 split at h
 ·rename_i o w a
  cases h
  exact (nf_One _ _ _ o w a).trans (one_end fun hm => oneP_eq hm)
 ·cases h
end Go.L23
