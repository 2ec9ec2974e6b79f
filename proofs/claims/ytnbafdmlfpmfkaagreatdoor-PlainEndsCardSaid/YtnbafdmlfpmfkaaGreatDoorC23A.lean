/-
  Part of the proof; what its functions and lemmas say stands in the text.
-/
import Derived.Test.YtnbafdmlfpmfkaaGreatDoorR23
import Derived.Test.YtnbafdmlfpmfkaaGreatDoorEvE
import Derived.Test.YtnbafdmlfpmfkaaGreatDoorWhB
import Derived.Test.YtnbafdmlfpmfkaaGreatDoorFlA
set_option linter.unusedSimpArgs false
set_option linter.unusedVariables false
namespace Go.L23C
open Go.Ev Go.Proofs Go.RowKit
open Go.L23
open Go.L23
theorem x_of64 : Snd 209 of64S := of64_ok ⟨⟨Tryz.f209, Tryz.func209, by kernel_rfl, by kernel_rfl, by kernel_rfl, by kernel_rfl⟩⟩
theorem x_of32 : Snd 208 of32S := of32_ok ⟨⟨Tryz.f208, Tryz.func208, by kernel_rfl, by kernel_rfl, by kernel_rfl, by kernel_rfl⟩⟩
theorem x_to32 : Snd 205 to32S := to32_ok ⟨⟨Tryz.f205, Tryz.func205, by kernel_rfl, by kernel_rfl, by kernel_rfl, by kernel_rfl⟩⟩
theorem x_to64 : Snd 206 to64S := to64_ok ⟨⟨Tryz.f206, Tryz.func206, by kernel_rfl, by kernel_rfl, by kernel_rfl, by kernel_rfl⟩⟩
end Go.L23C
namespace Go.L23C
open Go.Ev Go.Proofs Go.RowKit Go.Wh Go.Fl
open Go.L23
open Go.L23
def fmtW (w : Int) : Ieee.Format := if w = 32 then Ieee.single else Ieee.double
def okC (w : Int) : Bool := w == 32 || w == 64
theorem okC_cases {w : Int} (h : okC w = true) : w = 32 ∨ w = 64 := by simpa [okC] using h
end Go.L23C
namespace Go.L23C
open Go.Ev Go.Proofs Go.RowKit Go.Wh Go.Fl
open Go.L23
open Go.L23
def numV (t : Int) (n : Bool) (a : BitVec 64) : BitVec 64 := if n = true then 0#64 - a &&& maskF t else a
def fitC (w : Int) (a : BitVec 64) : Bool := w == 64 || a >>> 32 == 0#64
def mayC (f t : Int) (a : BitVec 64) : Bool := okC f && okC t && fitC f a
noncomputable def mayG (M : Int → Int → BitVec 64 → Bool) : Ev.Spec := joined fun | [.i .i64 f, .i .i64 t, .u64 a] => some (.bool (M f t a)) | _ => none
theorem nf_may (f t : Int) (a : BitVec 64) : ex [] (fun _ => []) Tryz.f119 [.i .i64 f, .i .i64 t, .u64 a] some =
 if (f == 32) = false then if (f == 64) = true then if (t == 32) = false then if (t == 64) = true then if (f == 64) = false then some (.bool (a >>> 32 == 0#64)) else some (.bool true) else some (.bool false) else if (f == 64) = false then some (.bool (a >>> 32 == 0#64)) else some (.bool true) else some (.bool false)
 else if (t == 32) = false then if (t == 64) = true then if (f == 64) = false then some (.bool (a >>> 32 == 0#64)) else some (.bool true) else some (.bool false) else if (f == 64) = false then some (.bool (a >>> 32 == 0#64)) else some (.bool true) := by kernel_rfl
theorem t_may : Snd 119 (mayG mayC) := by
 refine Sound.join (execFn_sound (ann := fun _ => []) TableOK.nil mixed Tryz.func119 (by kernel_rfl) 50) fun ds d h => ?_
 split at h
 ·rename_i f t a
  cases h
  refine (nf_may f t a).trans ?_
  unfold mayC okC fitC
  generalize (a >>> 32 == 0#64) = c
  generalize (f == 32) = x1
  generalize (f == 64) = x2
  generalize (t == 32) = y1
  generalize (t == 64) = y2
  cases x1 <;> cases x2 <;> cases y1 <;> cases y2 <;> cases c <;> rfl
 ·cases h
theorem sh32 (a : BitVec 64) : (a >>> 32 == 0#64) = decide (a.toNat < 4294967296) := by
 rw [Bool.eq_iff_iff, beq_iff_eq, decide_eq_true_eq]
 constructor
 ·intro h
  have := congrArg BitVec.toNat h
  rw [BitVec.toNat_ushiftRight, Nat.shiftRight_eq_div_pow] at this
  have z : (0#64).toNat = 0 := rfl
  omega
 ·intro h
  apply BitVec.eq_of_toNat_eq
  rw [BitVec.toNat_ushiftRight, Nat.shiftRight_eq_div_pow]
  have z : (0#64).toNat = 0 := rfl
  omega
theorem fit_C {f : Int} (h : okC f = true) (a : BitVec 64) : decide (a ≤ maskF f) = fitC f a := by
 have hlt := a.isLt
 unfold fitC
 rw [sh32]
 rcases okC_cases h with rfl | rfl
 ·rw [show ((32 : Int) == 64) = false by decide, Bool.false_or, decide_eq_decide, maskF32, BitVec.le_def]
  show a.toNat ≤ 4294967295 ↔ _
  omega
 ·rw [show ((64 : Int) == 64) = true by decide, Bool.true_or, maskF64]
  refine decide_eq_true ?_
  rw [BitVec.le_def]
  show a.toNat ≤ 18446744073709551615
  omega
theorem okC_W {w : Int} (h : okC w = true) : okW w = true := by rcases okC_cases h with rfl | rfl <;> decide
theorem mayC_fit {f t : Int} {a : BitVec 64} (h : mayC f t a = true) : okC f = true ∧ okC t = true ∧ fitF f a = true := by
 unfold mayC at h
 simp only [Bool.and_eq_true] at h
 refine ⟨h.1.1, h.1.2, ?_⟩
 unfold fitF
 rw [okC_W h.1.1, fit_C h.1.1, h.2]; rfl
noncomputable def mayNoS : Ev.Spec := guarded fun | [.i .i64 f, .i .i64 t, .u64 a] => some (!mayC f t a, .bool false) | _ => none
theorem Sound.restrict' {P : Program} {G : List (Nat × SV)} {f : Nat} {s s' : Ev.Spec} (hs : Sound P G f s) (h : ∀ ds K r, s' ds K = some r → s ds K = some r) : Sound P G f s' := fun ds K r hK => hs ds K r (h ds K r hK)
theorem may_no {n : Nat} (h : Snd n (mayG mayC)) : Snd n mayNoS   := Sound.restrict' h fun ds K r hK => by
 unfold mayNoS guarded at hK
 dsimp only at hK
 split at hK
 ·rename_i b d hd
  split at hd
  ·cases hd
   split at hK
   ·rename_i f t a hb
    have : mayC f t a = false := by simpa using hb
    simp only [mayG, joined, this]
    exact hK
   ·cases hK
  ·cases hd
 ·cases hK
def intV (f : Int) (s : Bool) (a : BitVec 64) : Int := if s = true then sgnF f a else (a.toNat : Int)
theorem intF (f : Int) (a : BitVec 64) : intV f false a = (a.toNat : Int) := if_neg (by decide)
theorem intT (f : Int) (a : BitVec 64) : intV f true a = sgnF f a := if_pos rfl
def fltV (t : Int) (n : Int) : BitVec 64 := BitVec.ofNat 64 ((fmtW t).nearest (n < 0) n.natAbs 0)
noncomputable def floatS : Ev.Spec := joined fun | [.i .i64 f, .i .i64 t, .bool s, .u64 a] => some (.tup [.u64 (ifF (mayC f t a) (fltV t (intV f s a))), .i .i64 (errF (mayC f t a))]) | _ => none
theorem nearest_lt (f : Ieee.Format) (s : Bool) (m : Nat) (p : Int) : f.nearest s m p < 2 * f.signWeight := by
 unfold Ieee.Format.nearest
 split
 ·exact word_lt f s (two_pos _)
 ·exact word_lt f s (Nat.lt_of_le_of_lt (Nat.min_le_right _ _) (inf_lt f))
theorem near32 (n : Int) : FloatKind.f32.nearest n < 2 ^ 32 := nearest_lt Ieee.single _ _ _
theorem near64 (n : Int) : FloatKind.f64.nearest n < 2 ^ 64 := nearest_lt Ieee.double _ _ _
theorem set32 {n : Nat} (h : n < 2 ^ 32) : BitVec.setWidth 64 (BitVec.ofNat 32 n) = BitVec.ofNat 64 n := by
 apply BitVec.eq_of_toNat_eq
 rw [BitVec.toNat_setWidth, BitVec.toNat_ofNat, BitVec.toNat_ofNat, Nat.mod_eq_of_lt h]
def r32 (n : Int) : Option D := if decide (FloatKind.f32.nearest n < 2 ^ 32) = true then some (.tup [.u64 (BitVec.setWidth 64 (BitVec.ofNat 32 (FloatKind.f32.nearest n))), .i .i64 0]) else none
def r64 (n : Int) : Option D := if decide (FloatKind.f64.nearest n < 2 ^ 64) = true then some (.tup [.u64 (BitVec.ofNat 64 (FloatKind.f64.nearest n)), .i .i64 0]) else none
theorem r32_eq (n : Int) : r32 n = some (.tup [.u64 (fltV 32 n), .i .i64 0]) := by
 unfold r32
 rw [if_pos (decide_eq_true (near32 n)), set32 (near32 n)]
 rfl
theorem r64_eq (n : Int) : r64 n = some (.tup [.u64 (fltV 64 n), .i .i64 0]) := by
 unfold r64
 rw [if_pos (decide_eq_true (near64 n))]
 rfl
theorem fl_32_32t (M : Int → Int → BitVec 64 → Bool) (a : BitVec 64) : ex [(119, mayG M), (209, of64S), (208, of32S)] (fun _ => []) Tryz.f125 [.i .i64 32, .i .i64 32, .bool true, .u64 a] some = if (!M 32 32 a) = true then some (.tup [.u64 0#64, .i .i64 2]) else r32 (IntKind.i64.wrap (sOfU .i32 a)) := by kernel_rfl
theorem fl_32_32f (M : Int → Int → BitVec 64 → Bool) (a : BitVec 64) : ex [(119, mayG M), (209, of64S), (208, of32S)] (fun _ => []) Tryz.f125 [.i .i64 32, .i .i64 32, .bool false, .u64 a] some = if (!M 32 32 a) = true then some (.tup [.u64 0#64, .i .i64 2]) else r32 ((a.toNat : Int)) := by kernel_rfl
theorem fl_32_64t (M : Int → Int → BitVec 64 → Bool) (a : BitVec 64) : ex [(119, mayG M), (209, of64S), (208, of32S)] (fun _ => []) Tryz.f125 [.i .i64 32, .i .i64 64, .bool true, .u64 a] some = if (!M 32 64 a) = true then some (.tup [.u64 0#64, .i .i64 2]) else r64 (IntKind.i64.wrap (sOfU .i32 a)) := by kernel_rfl
theorem fl_32_64f (M : Int → Int → BitVec 64 → Bool) (a : BitVec 64) : ex [(119, mayG M), (209, of64S), (208, of32S)] (fun _ => []) Tryz.f125 [.i .i64 32, .i .i64 64, .bool false, .u64 a] some = if (!M 32 64 a) = true then some (.tup [.u64 0#64, .i .i64 2]) else r64 ((a.toNat : Int)) := by kernel_rfl
theorem fl_64_32t (M : Int → Int → BitVec 64 → Bool) (a : BitVec 64) : ex [(119, mayG M), (209, of64S), (208, of32S)] (fun _ => []) Tryz.f125 [.i .i64 64, .i .i64 32, .bool true, .u64 a] some = if (!M 64 32 a) = true then some (.tup [.u64 0#64, .i .i64 2]) else r32 (sOfU .i64 a) := by kernel_rfl
theorem fl_64_32f (M : Int → Int → BitVec 64 → Bool) (a : BitVec 64) : ex [(119, mayG M), (209, of64S), (208, of32S)] (fun _ => []) Tryz.f125 [.i .i64 64, .i .i64 32, .bool false, .u64 a] some = if (!M 64 32 a) = true then some (.tup [.u64 0#64, .i .i64 2]) else r32 ((a.toNat : Int)) := by kernel_rfl
theorem fl_64_64t (M : Int → Int → BitVec 64 → Bool) (a : BitVec 64) : ex [(119, mayG M), (209, of64S), (208, of32S)] (fun _ => []) Tryz.f125 [.i .i64 64, .i .i64 64, .bool true, .u64 a] some = if (!M 64 64 a) = true then some (.tup [.u64 0#64, .i .i64 2]) else r64 (sOfU .i64 a) := by kernel_rfl
theorem fl_64_64f (M : Int → Int → BitVec 64 → Bool) (a : BitVec 64) : ex [(119, mayG M), (209, of64S), (208, of32S)] (fun _ => []) Tryz.f125 [.i .i64 64, .i .i64 64, .bool false, .u64 a] some = if (!M 64 64 a) = true then some (.tup [.u64 0#64, .i .i64 2]) else r64 ((a.toNat : Int)) := by kernel_rfl
theorem fl_no (f t : Int) (s : Bool) (a : BitVec 64) : ex [(119, mayNoS)] (fun _ => []) Tryz.f125 [.i .i64 f, .i .i64 t, .bool s, .u64 a] some = if (!mayC f t a) = true then some (.tup [.u64 0#64, .i .i64 2]) else none := by kernel_rfl
theorem s64_toInt (a : BitVec 64) : sOfU .i64 a = sgnF 64 a := by
 have hlt := a.isLt
 rw [sOfU64, toInt64]
 show _ = if 2 * (a.toNat : Int) < 18446744073709551616 then (a.toNat : Int) else (a.toNat : Int) - 18446744073709551616
 split <;> split <;> omega
theorem s32_toInt {a : BitVec 64} (h : fitF 32 a = true) : IntKind.i64.wrap (sOfU .i32 a) = sgnF 32 a := by
 have h1 := (fitF_nat h).2
 rw [pw32] at h1
 have h3 : sOfU .i32 a = (a.setWidth 32).toInt := rfl
 have h4 : (a.setWidth 32).toInt = sgnF 32 a := by
  rw [BitVec.toInt_eq_toNat_cond, BitVec.toNat_setWidth]
  show _ = if 2 * (a.toNat : Int) < 4294967296 then (a.toNat : Int) else (a.toNat : Int) - 4294967296
  have : a.toNat % 2 ^ 32 = a.toNat := Nat.mod_eq_of_lt (by omega)
  rw [this]
  split <;> split <;> omega
 have hr := sgn_range h
 rw [pw32] at hr
 rw [h3, h4, wrap_in (by omega) (by omega)]
theorem t_Float : Snd 125 floatS := by
 refine Sound.of_pt fun ds d hd => ?_
 split at hd
 ·rename_i f t s a
  cases hd
  cases hm : mayC f t a
  ·refine (execFn_sound (P := Tryz.prog) (G := G0) (ann := fun _ => []) (TableOK.cons (may_no t_may) TableOK.nil) mixed Tryz.func125 (by kernel_rfl) 50).pt ((fl_no f t s a).trans ?_)
   rw [hm]; rfl
  ·have S := execFn_sound (P := Tryz.prog) (G := G0) (ann := fun _ => []) (TableOK.cons t_may (TableOK.cons x_of64 (TableOK.cons x_of32 TableOK.nil))) mixed Tryz.func125 (by kernel_rfl) 50
   obtain ⟨hf, ht, ha⟩ := mayC_fit hm
   have e32 : ∀ n, r32 n = some (.tup [.u64 (ifF true (fltV 32 n)), .i .i64 (errF true)]) := r32_eq
   have e64 : ∀ n, r64 n = some (.tup [.u64 (ifF true (fltV 64 n)), .i .i64 (errF true)]) := r64_eq
   have c : ∀ x : Option D, (if (!true) = true then some (D.tup [.u64 0#64, .i .i64 2]) else x) = x := fun x => rfl
   rcases okC_cases hf with rfl | rfl <;> rcases okC_cases ht with rfl | rfl <;> cases s
   ·exact S.pt ((fl_32_32f mayC a).trans (by rw [hm, c, intF]; exact e32 (a.toNat : Int)))
   ·exact S.pt ((fl_32_32t mayC a).trans (by rw [hm, c, s32_toInt ha, intT]; exact e32 (sgnF 32 a)))
   ·exact S.pt ((fl_32_64f mayC a).trans (by rw [hm, c, intF]; exact e64 (a.toNat : Int)))
   ·exact S.pt ((fl_32_64t mayC a).trans (by rw [hm, c, s32_toInt ha, intT]; exact e64 (sgnF 32 a)))
   ·exact S.pt ((fl_64_32f mayC a).trans (by rw [hm, c, intF]; exact e32 (a.toNat : Int)))
   ·exact S.pt ((fl_64_32t mayC a).trans (by rw [hm, c, s64_toInt, intT]; exact e32 (sgnF 64 a)))
   ·exact S.pt ((fl_64_64f mayC a).trans (by rw [hm, c, intF]; exact e64 (a.toNat : Int)))
   ·exact S.pt ((fl_64_64t mayC a).trans (by rw [hm, c, s64_toInt, intT]; exact e64 (sgnF 64 a)))
 ·cases hd
noncomputable abbrev lNan : Ev.Spec := ex [] (fun _ => []) Tryz.f317
theorem s_isnan : Snd 317 lNan := execFn_sound (ann := fun _ => []) TableOK.nil mixed Tryz.func317 (by kernel_rfl) 50
noncomputable abbrev lAbs : Ev.Spec := ex [(209, of64S), (206, to64S)] (fun _ => []) Tryz.f321
theorem s_abs : Snd 321 lAbs := execFn_sound (ann := fun _ => []) (TableOK.cons x_of64 (TableOK.cons x_to64 TableOK.nil)) mixed Tryz.func321 (by kernel_rfl) 50
noncomputable abbrev lInf : Ev.Spec := ex [(321, lAbs)] (fun _ => []) Tryz.f316
theorem s_isinf : Snd 316 lInf := execFn_sound (ann := fun _ => []) (TableOK.cons s_abs TableOK.nil) mixed Tryz.func316 (by kernel_rfl) 50
noncomputable abbrev lNorm : Ev.Spec := ex [(321, lAbs)] (fun _ => []) Tryz.f318
theorem s_norm : Snd 318 lNorm := execFn_sound (ann := fun _ => []) (TableOK.cons s_abs TableOK.nil) mixed Tryz.func318 (by kernel_rfl) 50
noncomputable abbrev lLd0 : Ev.Spec := ex [(316, lInf), (317, lNan), (318, lNorm), (209, of64S), (206, to64S)] (fun _ => []) Tryz.f273
theorem s_ld0 : Snd 273 lLd0 := execFn_sound (ann := fun _ => []) (TableOK.cons s_isinf (TableOK.cons s_isnan (TableOK.cons s_norm (TableOK.cons x_of64 (TableOK.cons x_to64 TableOK.nil))))) mixed Tryz.func273 (by kernel_rfl) 50
noncomputable def ldS : Ev.Spec := joined fun
 | [.f .f64 4607182418800017408, .i .i64 31] => some (.f .f64 4746794007248502784)
 | [.f .f64 4607182418800017408, .i .i64 32] => some (.f .f64 4751297606875873280)
 | [.f .f64 4607182418800017408, .i .i64 63] => some (.f .f64 4890909195324358656)
 | [.f .f64 4607182418800017408, .i .i64 64] => some (.f .f64 4895412794951729152)
 | _ => none
theorem t_ld : Snd 207 ldS := by
 refine Sound.join (execFn_sound (ann := fun _ => []) (TableOK.cons s_ld0 TableOK.nil) mixed Tryz.func207 (by kernel_rfl) 50) fun ds d h => ?_
 split at h
 ·cases h; kernel_rfl
 ·cases h; kernel_rfl
 ·cases h; kernel_rfl
 ·cases h; kernel_rfl
 ·cases h
end Go.L23C
