/-
  Part of the proof; what its functions and lemmas say stands in the text.
-/
import Derived.Test.YtaabolgkoegohaaDoorS05dA
import Derived.Test.YtaabolgkoegohaaDoorWhA
import Derived.Test.YtaabolgkoegohaaDoorFlA
import Derived.Test.YtaabolgkoegohaaDoorFlB
set_option linter.unusedSimpArgs false
set_option linter.unusedVariables false
/-!
Chapter 05: what stands for all.
-/
namespace Go.L05d
open Go.Ev Go.Proofs Go.RowKit Go.Wh Go.Fl

theorem x_of64 : Snd 15 of64S := of64_ok ⟨⟨Tryd.f15, Tryd.func15, by kernel_rfl, by kernel_rfl, by kernel_rfl, by kernel_rfl⟩⟩
theorem x_of32 : Snd 14 of32S := of32_ok ⟨⟨Tryd.f14, Tryd.func14, by kernel_rfl, by kernel_rfl, by kernel_rfl, by kernel_rfl⟩⟩
theorem x_to32 : Snd 30 to32S := to32_ok ⟨⟨Tryd.f30, Tryd.func30, by kernel_rfl, by kernel_rfl, by kernel_rfl, by kernel_rfl⟩⟩
theorem x_to64 : Snd 31 to64S := to64_ok ⟨⟨Tryd.f31, Tryd.func31, by kernel_rfl, by kernel_rfl, by kernel_rfl, by kernel_rfl⟩⟩
/-! the absolute value -/
noncomputable def absG (V : Int → BitVec 64 → BitVec 64) (E : Int → BitVec 64 → Int) : Ev.Spec := guarded fun | [.u8 o, .i .i64 w, .u64 a] => some (o == 29#8, .tup [.u64 (V w a), .i .i64 (E w a)]) | _ => none
def absV (w : Int) (a : BitVec 64) : BitVec 64 := if mayF w [a] = true then (if 0 ≤ sgnF w a then a else (0#64 - a) &&& maskF w) else 0#64
def absE (w : Int) (a : BitVec 64) : Int := if mayF w [a] = true then 0 else 2
theorem nf_abs (w : Int) (a : BitVec 64) : ex [(16, mayS), (21, maskOS), (20, worthS)] (fun _ => []) Tryd.f8 [.u8 29#8, .i .i64 w, .u64 a] some =
  if (!mayF w [a]) = true then some (.tup [.u64 0#64, .i .i64 2]) else if fitF w a = true then if decide (0 ≤ sgnF w a) = true then some (.tup [.u64 a, .i .i64 0]) else if okW w = true then some (.tup [.u64 ((0#64 - a) &&& maskF w), .i .i64 0]) else none else none := by kernel_rfl
theorem f_abs : Snd 8 (absG absV absE) := by
  refine Sound.guard (execFn_sound (ann := fun _ => []) (TableOK.cons t_may (TableOK.cons t_mask (TableOK.cons t_worth TableOK.nil))) mixed Tryd.func8 (by kernel_rfl) 50) fun ds d h => ?_
  split at h
  · rename_i o w a
    simp only [Option.some.injEq, Prod.mk.injEq, beq_iff_eq] at h
    obtain ⟨rfl, rfl⟩ := h
    refine (nf_abs w a).trans ?_
    unfold absV absE
    cases hm : mayF w [a]
    · rfl
    · have hf := may_fit1 hm
      have hw := (fitF_nat hf).1
      rw [hf, hw]
      by_cases h0 : 0 ≤ sgnF w a
      · rw [decide_eq_true h0, if_pos h0]; rfl
      · rw [decide_eq_false h0, if_neg h0]; rfl
  · cases h
def fmtW (w : Int) : Ieee.Format := if w = 32 then Ieee.single else Ieee.double
def okC (w : Int) : Bool := w == 32 || w == 64
theorem okC_cases {w : Int} (h : okC w = true) : w = 32 ∨ w = 64 := by simpa [okC] using h
end Go.L05d
/-!
Chapter 05: whole numbers as floats.
-/
namespace Go.L05d
open Go.Ev Go.Proofs Go.RowKit Go.Wh Go.Fl

noncomputable def mostG (M : Int → BitVec 64) : Ev.Spec := joined fun | [.i .i64 t] => some (.u64 (M t)) | _ => none
noncomputable def fitG (F : Int → BitVec 64 → Bool) : Ev.Spec := joined fun | [.i .i64 t, .u64 a] => some (.bool (F t a)) | _ => none
noncomputable def numG (N : Int → Bool → BitVec 64 → BitVec 64) : Ev.Spec := joined fun | [.i .i64 t, .bool n, .u64 a] => some (.u64 (N t n a)) | _ => none
def numV (t : Int) (n : Bool) (a : BitVec 64) : BitVec 64 := if n = true then 0#64 - a &&& maskF t else a
/-! may it be? -/
def fitC (w : Int) (a : BitVec 64) : Bool := w == 64 || a >>> 32 == 0#64
def mayC (f t : Int) (a : BitVec 64) : Bool := okC f && okC t && fitC f a
noncomputable def mayG (M : Int → Int → BitVec 64 → Bool) : Ev.Spec := joined fun | [.i .i64 f, .i .i64 t, .u64 a] => some (.bool (M f t a)) | _ => none
theorem nf_may (f t : Int) (a : BitVec 64) : ex [] (fun _ => []) Tryd.f13 [.i .i64 f, .i .i64 t, .u64 a] some =
  if (f == 32) = false then if (f == 64) = true then if (t == 32) = false then if (t == 64) = true then if (f == 64) = false then some (.bool (a >>> 32 == 0#64)) else some (.bool true) else some (.bool false) else if (f == 64) = false then some (.bool (a >>> 32 == 0#64)) else some (.bool true) else some (.bool false)
  else if (t == 32) = false then if (t == 64) = true then if (f == 64) = false then some (.bool (a >>> 32 == 0#64)) else some (.bool true) else some (.bool false) else if (f == 64) = false then some (.bool (a >>> 32 == 0#64)) else some (.bool true) := by kernel_rfl
theorem c_may : Snd 13 (mayG mayC) := by
  refine Sound.join (execFn_sound (ann := fun _ => []) TableOK.nil mixed Tryd.func13 (by kernel_rfl) 50) fun ds d h => ?_
  split at h
  · rename_i f t a
    cases h
    refine (nf_may f t a).trans ?_
    unfold mayC okC fitC
    generalize (a >>> 32 == 0#64) = c
    generalize (f == 32) = x1
    generalize (f == 64) = x2
    generalize (t == 32) = y1
    generalize (t == 64) = y2
    cases x1 <;> cases x2 <;> cases y1 <;> cases y2 <;> cases c <;> rfl
  · cases h
theorem sh32 (a : BitVec 64) : (a >>> 32 == 0#64) = decide (a.toNat < 4294967296) := by
  rw [Bool.eq_iff_iff, beq_iff_eq, decide_eq_true_eq]
  constructor
  · intro h
    have := congrArg BitVec.toNat h
    rw [BitVec.toNat_ushiftRight, Nat.shiftRight_eq_div_pow] at this
    have z : (0#64).toNat = 0 := rfl
    omega
  · intro h
    apply BitVec.eq_of_toNat_eq
    rw [BitVec.toNat_ushiftRight, Nat.shiftRight_eq_div_pow]
    have z : (0#64).toNat = 0 := rfl
    omega
theorem fit_C {f : Int} (h : okC f = true) (a : BitVec 64) : decide (a ≤ maskF f) = fitC f a := by
  have hlt := a.isLt
  unfold fitC
  rw [sh32]
  rcases okC_cases h with rfl | rfl
  · rw [show ((32 : Int) == 64) = false by decide, Bool.false_or, decide_eq_decide, maskF32, BitVec.le_def]
    show a.toNat ≤ 4294967295 ↔ _
    omega
  · rw [show ((64 : Int) == 64) = true by decide, Bool.true_or, maskF64]
    refine decide_eq_true ?_
    rw [BitVec.le_def]
    show a.toNat ≤ 18446744073709551615
    omega
theorem okC_W {w : Int} (h : okC w = true) : okW w = true := by rcases okC_cases h with rfl | rfl <;> decide
theorem mayC_fit {f t : Int} {a : BitVec 64} (h : mayC f t a = true) : okC f = true ∧ okC t = true ∧ fitF f a = true := by
  unfold mayC at h
  simp only [Bool.and_eq_true] at h
  refine ⟨h.1.1, h.1.2, ?_⟩
  unfold fitF
  rw [okC_W h.1.1, fit_C h.1.1, h.2]; rfl
/-- Not one: no more is known. -/
noncomputable def mayNoS : Ev.Spec := guarded fun | [.i .i64 f, .i .i64 t, .u64 a] => some (!mayC f t a, .bool false) | _ => none
theorem Sound.restrict' {P : Program} {G : List (Nat × SV)} {f : Nat} {s s' : Ev.Spec} (hs : Sound P G f s) (h : ∀ ds K r, s' ds K = some r → s ds K = some r) : Sound P G f s' := fun ds K r hK => hs ds K r (h ds K r hK)
theorem may_no {n : Nat} (h : Snd n (mayG mayC)) : Snd n mayNoS   := Sound.restrict' h fun ds K r hK => by
  unfold mayNoS guarded at hK
  dsimp only at hK
  split at hK
  · rename_i b d hd
    split at hd
    · cases hd
      split at hK
      · rename_i f t a hb
        have : mayC f t a = false := by simpa using hb
        simp only [mayG, joined, this]
        exact hK
      · cases hK
    · cases hd
  · cases hK

/-! whole numbers as floats -/
def intV (f : Int) (s : Bool) (a : BitVec 64) : Int := if s = true then sgnF f a else (a.toNat : Int)
theorem intF (f : Int) (a : BitVec 64) : intV f false a = (a.toNat : Int) := if_neg (by decide)
theorem intT (f : Int) (a : BitVec 64) : intV f true a = sgnF f a := if_pos rfl
def fltV (t : Int) (n : Int) : BitVec 64 := BitVec.ofNat 64 ((fmtW t).nearest (n < 0) n.natAbs 0)
noncomputable def floatS : Ev.Spec := joined fun | [.i .i64 f, .i .i64 t, .bool s, .u64 a] => some (.tup [.u64 (ifF (mayC f t a) (fltV t (intV f s a))), .i .i64 (errF (mayC f t a))]) | _ => none
theorem nearest_lt (f : Ieee.Format) (s : Bool) (m : Nat) (p : Int) : f.nearest s m p < 2 * f.signWeight := by
  unfold Ieee.Format.nearest
  split
  · exact word_lt f s (two_pos _)
  · exact word_lt f s (Nat.lt_of_le_of_lt (Nat.min_le_right _ _) (inf_lt f))
theorem near32 (n : Int) : FloatKind.f32.nearest n < 2 ^ 32 := nearest_lt Ieee.single _ _ _
theorem near64 (n : Int) : FloatKind.f64.nearest n < 2 ^ 64 := nearest_lt Ieee.double _ _ _
theorem set32 {n : Nat} (h : n < 2 ^ 32) : BitVec.setWidth 64 (BitVec.ofNat 32 n) = BitVec.ofNat 64 n := by
  apply BitVec.eq_of_toNat_eq
  rw [BitVec.toNat_setWidth, BitVec.toNat_ofNat, BitVec.toNat_ofNat, Nat.mod_eq_of_lt h]
def r32 (n : Int) : Option D := if decide (FloatKind.f32.nearest n < 2 ^ 32) = true then some (.tup [.u64 (BitVec.setWidth 64 (BitVec.ofNat 32 (FloatKind.f32.nearest n))), .i .i64 0]) else none
def r64 (n : Int) : Option D := if decide (FloatKind.f64.nearest n < 2 ^ 64) = true then some (.tup [.u64 (BitVec.ofNat 64 (FloatKind.f64.nearest n)), .i .i64 0]) else none
theorem r32_eq (n : Int) : r32 n = some (.tup [.u64 (fltV 32 n), .i .i64 0]) := by
  unfold r32
  rw [if_pos (decide_eq_true (near32 n)), set32 (near32 n)]
  rfl
theorem r64_eq (n : Int) : r64 n = some (.tup [.u64 (fltV 64 n), .i .i64 0]) := by
  unfold r64
  rw [if_pos (decide_eq_true (near64 n))]
  rfl
theorem fl_32_32t (M : Int → Int → BitVec 64 → Bool) (a : BitVec 64) : ex [(13, mayG M), (15, of64S), (14, of32S)] (fun _ => []) Tryd.f7 [.i .i64 32, .i .i64 32, .bool true, .u64 a] some = if (!M 32 32 a) = true then some (.tup [.u64 0#64, .i .i64 2]) else r32 (IntKind.i64.wrap (sOfU .i32 a)) := by kernel_rfl
theorem fl_32_32f (M : Int → Int → BitVec 64 → Bool) (a : BitVec 64) : ex [(13, mayG M), (15, of64S), (14, of32S)] (fun _ => []) Tryd.f7 [.i .i64 32, .i .i64 32, .bool false, .u64 a] some = if (!M 32 32 a) = true then some (.tup [.u64 0#64, .i .i64 2]) else r32 ((a.toNat : Int)) := by kernel_rfl
theorem fl_32_64t (M : Int → Int → BitVec 64 → Bool) (a : BitVec 64) : ex [(13, mayG M), (15, of64S), (14, of32S)] (fun _ => []) Tryd.f7 [.i .i64 32, .i .i64 64, .bool true, .u64 a] some = if (!M 32 64 a) = true then some (.tup [.u64 0#64, .i .i64 2]) else r64 (IntKind.i64.wrap (sOfU .i32 a)) := by kernel_rfl
theorem fl_32_64f (M : Int → Int → BitVec 64 → Bool) (a : BitVec 64) : ex [(13, mayG M), (15, of64S), (14, of32S)] (fun _ => []) Tryd.f7 [.i .i64 32, .i .i64 64, .bool false, .u64 a] some = if (!M 32 64 a) = true then some (.tup [.u64 0#64, .i .i64 2]) else r64 ((a.toNat : Int)) := by kernel_rfl
theorem fl_64_32t (M : Int → Int → BitVec 64 → Bool) (a : BitVec 64) : ex [(13, mayG M), (15, of64S), (14, of32S)] (fun _ => []) Tryd.f7 [.i .i64 64, .i .i64 32, .bool true, .u64 a] some = if (!M 64 32 a) = true then some (.tup [.u64 0#64, .i .i64 2]) else r32 (sOfU .i64 a) := by kernel_rfl
theorem fl_64_32f (M : Int → Int → BitVec 64 → Bool) (a : BitVec 64) : ex [(13, mayG M), (15, of64S), (14, of32S)] (fun _ => []) Tryd.f7 [.i .i64 64, .i .i64 32, .bool false, .u64 a] some = if (!M 64 32 a) = true then some (.tup [.u64 0#64, .i .i64 2]) else r32 ((a.toNat : Int)) := by kernel_rfl
theorem fl_64_64t (M : Int → Int → BitVec 64 → Bool) (a : BitVec 64) : ex [(13, mayG M), (15, of64S), (14, of32S)] (fun _ => []) Tryd.f7 [.i .i64 64, .i .i64 64, .bool true, .u64 a] some = if (!M 64 64 a) = true then some (.tup [.u64 0#64, .i .i64 2]) else r64 (sOfU .i64 a) := by kernel_rfl
theorem fl_64_64f (M : Int → Int → BitVec 64 → Bool) (a : BitVec 64) : ex [(13, mayG M), (15, of64S), (14, of32S)] (fun _ => []) Tryd.f7 [.i .i64 64, .i .i64 64, .bool false, .u64 a] some = if (!M 64 64 a) = true then some (.tup [.u64 0#64, .i .i64 2]) else r64 ((a.toNat : Int)) := by kernel_rfl
theorem fl_no (f t : Int) (s : Bool) (a : BitVec 64) : ex [(13, mayNoS)] (fun _ => []) Tryd.f7 [.i .i64 f, .i .i64 t, .bool s, .u64 a] some = if (!mayC f t a) = true then some (.tup [.u64 0#64, .i .i64 2]) else none := by kernel_rfl
theorem s64_toInt (a : BitVec 64) : sOfU .i64 a = sgnF 64 a := by
  have hlt := a.isLt
  rw [sOfU64, toInt64]
  show _ = if 2 * (a.toNat : Int) < 18446744073709551616 then (a.toNat : Int) else (a.toNat : Int) - 18446744073709551616
  split <;> split <;> omega
theorem s32_toInt {a : BitVec 64} (h : fitF 32 a = true) : IntKind.i64.wrap (sOfU .i32 a) = sgnF 32 a := by
  have h1 := (fitF_nat h).2
  rw [pw32] at h1
  have h3 : sOfU .i32 a = (a.setWidth 32).toInt := rfl
  have h4 : (a.setWidth 32).toInt = sgnF 32 a := by
    rw [BitVec.toInt_eq_toNat_cond, BitVec.toNat_setWidth]
    show _ = if 2 * (a.toNat : Int) < 4294967296 then (a.toNat : Int) else (a.toNat : Int) - 4294967296
    have : a.toNat % 2 ^ 32 = a.toNat := Nat.mod_eq_of_lt (by omega)
    rw [this]
    split <;> split <;> omega
  have hr := sgn_range h
  rw [pw32] at hr
  rw [h3, h4, wrap_in (by omega) (by omega)]
theorem t_Float : Snd 7 floatS := by
  refine Sound.of_pt fun ds d hd => ?_
  split at hd
  · rename_i f t s a
    cases hd
    cases hm : mayC f t a
    · refine (execFn_sound (P := Tryd.prog) (G := G0) (ann := fun _ => []) (TableOK.cons (may_no c_may) TableOK.nil) mixed Tryd.func7 (by kernel_rfl) 50).pt ((fl_no f t s a).trans ?_)
      rw [hm]; rfl
    · have S := execFn_sound (P := Tryd.prog) (G := G0) (ann := fun _ => []) (TableOK.cons c_may (TableOK.cons x_of64 (TableOK.cons x_of32 TableOK.nil))) mixed Tryd.func7 (by kernel_rfl) 50
      obtain ⟨hf, ht, ha⟩ := mayC_fit hm
      have e32 : ∀ n, r32 n = some (.tup [.u64 (ifF true (fltV 32 n)), .i .i64 (errF true)]) := r32_eq
      have e64 : ∀ n, r64 n = some (.tup [.u64 (ifF true (fltV 64 n)), .i .i64 (errF true)]) := r64_eq
      have c : ∀ x : Option D, (if (!true) = true then some (D.tup [.u64 0#64, .i .i64 2]) else x) = x := fun x => rfl
      rcases okC_cases hf with rfl | rfl <;> rcases okC_cases ht with rfl | rfl <;> cases s
      · exact S.pt ((fl_32_32f mayC a).trans (by rw [hm, c, intF]; exact e32 (a.toNat : Int)))
      · exact S.pt ((fl_32_32t mayC a).trans (by rw [hm, c, s32_toInt ha, intT]; exact e32 (sgnF 32 a)))
      · exact S.pt ((fl_32_64f mayC a).trans (by rw [hm, c, intF]; exact e64 (a.toNat : Int)))
      · exact S.pt ((fl_32_64t mayC a).trans (by rw [hm, c, s32_toInt ha, intT]; exact e64 (sgnF 32 a)))
      · exact S.pt ((fl_64_32f mayC a).trans (by rw [hm, c, intF]; exact e32 (a.toNat : Int)))
      · exact S.pt ((fl_64_32t mayC a).trans (by rw [hm, c, s64_toInt, intT]; exact e32 (sgnF 64 a)))
      · exact S.pt ((fl_64_64f mayC a).trans (by rw [hm, c, intF]; exact e64 (a.toNat : Int)))
      · exact S.pt ((fl_64_64t mayC a).trans (by rw [hm, c, s64_toInt, intT]; exact e64 (sgnF 64 a)))
  · cases hd
noncomputable def worG (W : Int → BitVec 64 → Int) (F : Int → BitVec 64 → Bool) : Ev.Spec := guarded fun | [.i .i64 t, .u64 a] => some (F t a, .i .i64 (W t a)) | _ => none
noncomputable def rdG (R : Int → Bool → BitVec 64 → Int → BitVec 64) (C : Int → Bool) : Ev.Spec := guarded fun | [.i .i64 w, .bool s, .u64 m, .i .i64 e] => some (C w && decide (-1500 ≤ e ∧ e ≤ 1500), .u64 (R w s m e)) | _ => none
theorem neg_nat {f : Int} {a : BitVec 64} (ha : fitF f a = true) (hn : sgnF f a < 0) : (numV f true a).toNat = (sgnF f a).natAbs := by
  obtain ⟨hw, h1⟩ := fitF_nat ha
  have hlt := a.isLt
  have e := and_nat hw (0#64 - a)
  rw [BitVec.toNat_sub] at e
  have z : (0#64).toNat = 0 := rfl
  have hs : sgnF f a = (a.toNat : Int) - pw f ∧ pw f ≤ 2 * (a.toNat : Int) := by
    unfold sgnF at hn ⊢
    split at hn
    · omega
    · rename_i h
      rw [if_neg h]
      exact ⟨rfl, by omega⟩
  show (0#64 - a &&& maskF f).toNat = _
  rw [hs.1]
  have hp : 0 < a.toNat := by
    rcases okW_cases hw with rfl | rfl | rfl | rfl
    · have := hs.2; rw [pw8] at this; omega
    · have := hs.2; rw [pw16] at this; omega
    · have := hs.2; rw [pw32] at this; omega
    · have := hs.2; rw [pw64] at this; omega
  rcases okW_cases hw with rfl | rfl | rfl | rfl
  · rw [pw8] at *; omega
  · rw [pw16] at *; omega
  · rw [pw32] at *; omega
  · rw [pw64] at *; omega
/-! numbers that the document tells -/
noncomputable abbrev lOf : Ev.Spec := ex [(30, to32S), (31, to64S)] (fun _ => []) Tryd.f26
theorem s_of : Snd 26 lOf := execFn_sound (ann := fun _ => []) (TableOK.cons x_to32 (TableOK.cons x_to64 TableOK.nil)) mixed Tryd.func26 (by kernel_rfl) 50
noncomputable abbrev lNan : Ev.Spec := ex [] (fun _ => []) Tryd.f36
theorem s_isnan : Snd 36 lNan := execFn_sound (ann := fun _ => []) TableOK.nil mixed Tryd.func36 (by kernel_rfl) 50
noncomputable abbrev lAbs : Ev.Spec := ex [(15, of64S), (31, to64S)] (fun _ => []) Tryd.f40
theorem s_abs : Snd 40 lAbs := execFn_sound (ann := fun _ => []) (TableOK.cons x_of64 (TableOK.cons x_to64 TableOK.nil)) mixed Tryd.func40 (by kernel_rfl) 50
noncomputable abbrev lInf : Ev.Spec := ex [(40, lAbs)] (fun _ => []) Tryd.f35
theorem s_isinf : Snd 35 lInf := execFn_sound (ann := fun _ => []) (TableOK.cons s_abs TableOK.nil) mixed Tryd.func35 (by kernel_rfl) 50
noncomputable abbrev lNorm : Ev.Spec := ex [(40, lAbs)] (fun _ => []) Tryd.f37
theorem s_norm : Snd 37 lNorm := execFn_sound (ann := fun _ => []) (TableOK.cons s_abs TableOK.nil) mixed Tryd.func37 (by kernel_rfl) 50
noncomputable abbrev lLd0 : Ev.Spec := ex [(35, lInf), (36, lNan), (37, lNorm), (15, of64S), (31, to64S)] (fun _ => []) Tryd.f34
theorem s_ld0 : Snd 34 lLd0 := execFn_sound (ann := fun _ => []) (TableOK.cons s_isinf (TableOK.cons s_isnan (TableOK.cons s_norm (TableOK.cons x_of64 (TableOK.cons x_to64 TableOK.nil))))) mixed Tryd.func34 (by kernel_rfl) 50
/-- 1 times a power of two. -/
noncomputable def ldS : Ev.Spec := joined fun
  | [.f .f64 4607182418800017408, .i .i64 31] => some (.f .f64 4746794007248502784)
  | [.f .f64 4607182418800017408, .i .i64 32] => some (.f .f64 4751297606875873280)
  | [.f .f64 4607182418800017408, .i .i64 63] => some (.f .f64 4890909195324358656)
  | [.f .f64 4607182418800017408, .i .i64 64] => some (.f .f64 4895412794951729152)
  | _ => none
theorem t_ld : Snd 32 ldS := by
  refine Sound.join (execFn_sound (ann := fun _ => []) (TableOK.cons s_ld0 TableOK.nil) mixed Tryd.func32 (by kernel_rfl) 50) fun ds d h => ?_
  split at h
  · cases h; kernel_rfl
  · cases h; kernel_rfl
  · cases h; kernel_rfl
  · cases h; kernel_rfl
  · cases h
noncomputable abbrev lLook : Ev.Spec := ex [(32, ldS)] (fun _ => []) Tryd.f27
theorem s_look : Snd 27 lLook := execFn_sound (ann := fun _ => []) (TableOK.cons t_ld TableOK.nil) mixed Tryd.func27 (by kernel_rfl) 50
noncomputable abbrev lNum : Ev.Spec := ex [] (fun _ => []) Tryd.f28
theorem s_num : Snd 28 lNum := execFn_sound (ann := fun _ => []) TableOK.nil mixed Tryd.func28 (by kernel_rfl) 50
noncomputable abbrev lCut : Ev.Spec := ex [(13, mayG mayC), (26, lOf), (27, lLook), (28, lNum)] (fun _ => []) Tryd.f22
theorem s_cut : Snd 22 lCut := execFn_sound (ann := fun _ => []) (TableOK.cons c_may (TableOK.cons s_of (TableOK.cons s_look (TableOK.cons s_num TableOK.nil)))) mixed Tryd.func22 (by kernel_rfl) 50
noncomputable abbrev lDem : Ev.Spec := ex [(26, lOf), (14, of32S)] (fun _ => []) Tryd.f23
theorem s_dem : Snd 23 lDem := execFn_sound (ann := fun _ => []) (TableOK.cons s_of (TableOK.cons x_of32 TableOK.nil)) mixed Tryd.func23 (by kernel_rfl) 50
noncomputable def worksS : Ev.Spec := joined fun | [] => some (.bool true) | _ => none
theorem t_works : Snd 9 worksS := by
  refine Sound.join (execFn_sound (ann := fun _ => []) (TableOK.cons s_cut (TableOK.cons s_dem TableOK.nil)) mixed Tryd.func9 (by kernel_rfl) 50) fun ds d h => ?_
  split at h
  · cases h; kernel_rfl
  · cases h
end Go.L05d
