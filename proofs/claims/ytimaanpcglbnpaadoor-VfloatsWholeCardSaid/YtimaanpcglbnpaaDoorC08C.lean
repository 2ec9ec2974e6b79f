/-
  Part of the proof; what its functions and lemmas say stands in the text.
-/
import Derived.Test.YtimaanpcglbnpaaDoorC08A
import Derived.Test.YtimaanpcglbnpaaDoorFlB
set_option linter.unusedSimpArgs false
set_option linter.unusedVariables false
/-!
Chapter 05: whole numbers as floats.
-/
namespace Go.L08C
open Go.Ev Go.Proofs Go.RowKit Go.Wh Go.Fl
open Go.L08

theorem t_Most : Snd 38 (joined fun | [.i .i64 t] => some (.u64 (maskF t)) | _ => none) := by
  refine Sound.join (execFn_sound (ann := fun _ => []) TableOK.nil mixed Tryd.func38 (by kernel_rfl) 50) fun ds d h => ?_
  split at h
  · cases h; kernel_rfl
  · cases h
noncomputable def mostG (M : Int → BitVec 64) : Ev.Spec := joined fun | [.i .i64 t] => some (.u64 (M t)) | _ => none
theorem m_Most : Snd 38 (mostG maskF) := t_Most
noncomputable def fitG (F : Int → BitVec 64 → Bool) : Ev.Spec := joined fun | [.i .i64 t, .u64 a] => some (.bool (F t a)) | _ => none
theorem t_Fits : Snd 77 (fitG fun t a => decide (a ≤ maskF t)) := by
  refine Sound.join (execFn_sound (ann := fun _ => []) (TableOK.cons m_Most TableOK.nil) mixed Tryd.func77 (by kernel_rfl) 50) fun ds d h => ?_
  split at h
  · cases h; kernel_rfl
  · cases h
noncomputable def worthS : Ev.Spec := guarded fun | [.i .i64 t, .u64 a] => some (fitF t a, .i .i64 (sgnF t a)) | _ => none
theorem nf_Worth (t : Int) (a : BitVec 64) : ex [(38, mostG maskF)] (fun _ => []) Tryd.f83 [.i .i64 t, .u64 a] some = if decide (a ≤ maskF t / BitVec.ofInt 64 2) = true then some (.i .i64 (sOfU .i64 a)) else some (.i .i64 (IntKind.i64.wrap (IntKind.i64.wrap (0 - sOfU .i64 (maskF t - a)) - 1))) := by kernel_rfl
theorem t_Worth : Snd 83 worthS := by
  refine Sound.guard (execFn_sound (ann := fun _ => []) (TableOK.cons m_Most TableOK.nil) mixed Tryd.func83 (by kernel_rfl) 50) fun ds d h => ?_
  split at h
  · rename_i t a
    simp only [Option.some.injEq, Prod.mk.injEq] at h
    obtain ⟨h, rfl⟩ := h
    have e := refWorth h
    refine (nf_Worth t a).trans ?_
    rw [← e]
    split <;> rfl
  · cases h
noncomputable def numG (N : Int → Bool → BitVec 64 → BitVec 64) : Ev.Spec := joined fun | [.i .i64 t, .bool n, .u64 a] => some (.u64 (N t n a)) | _ => none
def numV (t : Int) (n : Bool) (a : BitVec 64) : BitVec 64 := if n = true then 0#64 - a &&& maskF t else a
theorem nf_num (t : Int) (n : Bool) (a : BitVec 64) : ex [(38, mostG maskF)] (fun _ => []) Tryd.f85 [.i .i64 t, .bool n, .u64 a] some = if n = true then some (.u64 (0#64 - a &&& maskF t)) else some (.u64 a) := by kernel_rfl
theorem t_num : Snd 85 (numG numV) := by
  refine Sound.join (execFn_sound (ann := fun _ => []) (TableOK.cons m_Most TableOK.nil) mixed Tryd.func85 (by kernel_rfl) 50) fun ds d h => ?_
  split at h
  · rename_i t n a
    cases h
    refine (nf_num t n a).trans ?_
    unfold numV
    cases n <;> rfl
  · cases h

/-! may it be? -/
def fitC (w : Int) (a : BitVec 64) : Bool := w == 64 || a >>> 32 == 0#64
def mayC (f t : Int) (a : BitVec 64) : Bool := okC f && okC t && fitC f a
noncomputable def mayG (M : Int → Int → BitVec 64 → Bool) : Ev.Spec := joined fun | [.i .i64 f, .i .i64 t, .u64 a] => some (.bool (M f t a)) | _ => none
theorem nf_may (f t : Int) (a : BitVec 64) : ex [] (fun _ => []) Tryd.f51 [.i .i64 f, .i .i64 t, .u64 a] some =
  if (f == 32) = false then if (f == 64) = true then if (t == 32) = false then if (t == 64) = true then if (f == 64) = false then some (.bool (a >>> 32 == 0#64)) else some (.bool true) else some (.bool false) else if (f == 64) = false then some (.bool (a >>> 32 == 0#64)) else some (.bool true) else some (.bool false)
  else if (t == 32) = false then if (t == 64) = true then if (f == 64) = false then some (.bool (a >>> 32 == 0#64)) else some (.bool true) else some (.bool false) else if (f == 64) = false then some (.bool (a >>> 32 == 0#64)) else some (.bool true) := by kernel_rfl
theorem t_may : Snd 51 (mayG mayC) := by
  refine Sound.join (execFn_sound (ann := fun _ => []) TableOK.nil mixed Tryd.func51 (by kernel_rfl) 50) fun ds d h => ?_
  split at h
  · rename_i f t a
    cases h
    refine (nf_may f t a).trans ?_
    unfold mayC okC fitC
    generalize (a >>> 32 == 0#64) = c
    generalize (f == 32) = x1
    generalize (f == 64) = x2
    generalize (t == 32) = y1
    generalize (t == 64) = y2
    cases x1 <;> cases x2 <;> cases y1 <;> cases y2 <;> cases c <;> rfl
  · cases h
theorem nf_rmay (F : Int → BitVec 64 → Bool) (f t : Int) (a : BitVec 64) : ex [(77, fitG F)] (fun _ => []) Tryd.f81 [.i .i64 f, .i .i64 t, .u64 a] some =
  if (f == 32) = false then if (f == 64) = true then if (t == 32) = false then if (t == 64) = true then some (.bool (F f a)) else some (.bool false) else some (.bool (F f a)) else some (.bool false)
  else if (t == 32) = false then if (t == 64) = true then some (.bool (F f a)) else some (.bool false) else some (.bool (F f a)) := by kernel_rfl
theorem sh32 (a : BitVec 64) : (a >>> 32 == 0#64) = decide (a.toNat < 4294967296) := by
  rw [Bool.eq_iff_iff, beq_iff_eq, decide_eq_true_eq]
  constructor
  · intro h
    have := congrArg BitVec.toNat h
    rw [BitVec.toNat_ushiftRight, Nat.shiftRight_eq_div_pow] at this
    have z : (0#64).toNat = 0 := rfl
    omega
  · intro h
    apply BitVec.eq_of_toNat_eq
    rw [BitVec.toNat_ushiftRight, Nat.shiftRight_eq_div_pow]
    have z : (0#64).toNat = 0 := rfl
    omega
theorem fit_C {f : Int} (h : okC f = true) (a : BitVec 64) : decide (a ≤ maskF f) = fitC f a := by
  have hlt := a.isLt
  unfold fitC
  rw [sh32]
  rcases okC_cases h with rfl | rfl
  · rw [show ((32 : Int) == 64) = false by decide, Bool.false_or, decide_eq_decide, maskF32, BitVec.le_def]
    show a.toNat ≤ 4294967295 ↔ _
    omega
  · rw [show ((64 : Int) == 64) = true by decide, Bool.true_or, maskF64]
    refine decide_eq_true ?_
    rw [BitVec.le_def]
    show a.toNat ≤ 18446744073709551615
    omega
theorem t_rmay : Snd 81 (mayG mayC) := by
  refine Sound.join (execFn_sound (ann := fun _ => []) (TableOK.cons t_Fits TableOK.nil) mixed Tryd.func81 (by kernel_rfl) 50) fun ds d h => ?_
  split at h
  · rename_i f t a
    cases h
    refine (nf_rmay _ f t a).trans ?_
    unfold mayC
    cases hf : okC f
    · have : (f == 32) = false ∧ (f == 64) = false := by simpa [okC] using hf
      rw [this.1, this.2]; rfl
    · rw [fit_C hf a]
      generalize fitC f a = c
      revert hf
      unfold okC
      generalize (f == 32) = x1
      generalize (f == 64) = x2
      generalize (t == 32) = y1
      generalize (t == 64) = y2
      intro hf
      cases x1 <;> cases x2 <;> cases y1 <;> cases y2 <;> cases c <;> first | rfl | cases hf
  · cases h
theorem okC_W {w : Int} (h : okC w = true) : okW w = true := by rcases okC_cases h with rfl | rfl <;> decide
theorem mayC_fit {f t : Int} {a : BitVec 64} (h : mayC f t a = true) : okC f = true ∧ okC t = true ∧ fitF f a = true := by
  unfold mayC at h
  simp only [Bool.and_eq_true] at h
  refine ⟨h.1.1, h.1.2, ?_⟩
  unfold fitF
  rw [okC_W h.1.1, fit_C h.1.1, h.2]; rfl
/-- Not one: no more is known. -/
noncomputable def mayNoS : Ev.Spec := guarded fun | [.i .i64 f, .i .i64 t, .u64 a] => some (!mayC f t a, .bool false) | _ => none
theorem Sound.restrict' {P : Program} {G : List (Nat × SV)} {f : Nat} {s s' : Ev.Spec} (hs : Sound P G f s) (h : ∀ ds K r, s' ds K = some r → s ds K = some r) : Sound P G f s' := fun ds K r hK => hs ds K r (h ds K r hK)
theorem may_no {n : Nat} (h : Snd n (mayG mayC)) : Snd n mayNoS   := Sound.restrict' h fun ds K r hK => by
  unfold mayNoS guarded at hK
  dsimp only at hK
  split at hK
  · rename_i b d hd
    split at hd
    · cases hd
      split at hK
      · rename_i f t a hb
        have : mayC f t a = false := by simpa using hb
        simp only [mayG, joined, this]
        exact hK
      · cases hK
    · cases hd
  · cases hK

/-! whole numbers as floats -/
def intV (f : Int) (s : Bool) (a : BitVec 64) : Int := if s = true then sgnF f a else (a.toNat : Int)
theorem intF (f : Int) (a : BitVec 64) : intV f false a = (a.toNat : Int) := if_neg (by decide)
theorem intT (f : Int) (a : BitVec 64) : intV f true a = sgnF f a := if_pos rfl
def fltV (t : Int) (n : Int) : BitVec 64 := BitVec.ofNat 64 ((fmtW t).nearest (n < 0) n.natAbs 0)
noncomputable def floatS : Ev.Spec := joined fun | [.i .i64 f, .i .i64 t, .bool s, .u64 a] => some (.tup [.u64 (ifF (mayC f t a) (fltV t (intV f s a))), .i .i64 (errF (mayC f t a))]) | _ => none
theorem nearest_lt (f : Ieee.Format) (s : Bool) (m : Nat) (p : Int) : f.nearest s m p < 2 * f.signWeight := by
  unfold Ieee.Format.nearest
  split
  · exact word_lt f s (two_pos _)
  · exact word_lt f s (Nat.lt_of_le_of_lt (Nat.min_le_right _ _) (inf_lt f))
theorem near32 (n : Int) : FloatKind.f32.nearest n < 2 ^ 32 := nearest_lt Ieee.single _ _ _
theorem near64 (n : Int) : FloatKind.f64.nearest n < 2 ^ 64 := nearest_lt Ieee.double _ _ _
theorem set32 {n : Nat} (h : n < 2 ^ 32) : BitVec.setWidth 64 (BitVec.ofNat 32 n) = BitVec.ofNat 64 n := by
  apply BitVec.eq_of_toNat_eq
  rw [BitVec.toNat_setWidth, BitVec.toNat_ofNat, BitVec.toNat_ofNat, Nat.mod_eq_of_lt h]
def r32 (n : Int) : Option D := if decide (FloatKind.f32.nearest n < 2 ^ 32) = true then some (.tup [.u64 (BitVec.setWidth 64 (BitVec.ofNat 32 (FloatKind.f32.nearest n))), .i .i64 0]) else none
def r64 (n : Int) : Option D := if decide (FloatKind.f64.nearest n < 2 ^ 64) = true then some (.tup [.u64 (BitVec.ofNat 64 (FloatKind.f64.nearest n)), .i .i64 0]) else none
theorem r32_eq (n : Int) : r32 n = some (.tup [.u64 (fltV 32 n), .i .i64 0]) := by
  unfold r32
  rw [if_pos (decide_eq_true (near32 n)), set32 (near32 n)]
  rfl
theorem r64_eq (n : Int) : r64 n = some (.tup [.u64 (fltV 64 n), .i .i64 0]) := by
  unfold r64
  rw [if_pos (decide_eq_true (near64 n))]
  rfl
theorem fl_32_32t (M : Int → Int → BitVec 64 → Bool) (a : BitVec 64) : ex [(51, mayG M), (53, of64S), (52, of32S)] (fun _ => []) Tryd.f23 [.i .i64 32, .i .i64 32, .bool true, .u64 a] some = if (!M 32 32 a) = true then some (.tup [.u64 0#64, .i .i64 2]) else r32 (IntKind.i64.wrap (sOfU .i32 a)) := by kernel_rfl
theorem fl_32_32f (M : Int → Int → BitVec 64 → Bool) (a : BitVec 64) : ex [(51, mayG M), (53, of64S), (52, of32S)] (fun _ => []) Tryd.f23 [.i .i64 32, .i .i64 32, .bool false, .u64 a] some = if (!M 32 32 a) = true then some (.tup [.u64 0#64, .i .i64 2]) else r32 ((a.toNat : Int)) := by kernel_rfl
theorem fl_32_64t (M : Int → Int → BitVec 64 → Bool) (a : BitVec 64) : ex [(51, mayG M), (53, of64S), (52, of32S)] (fun _ => []) Tryd.f23 [.i .i64 32, .i .i64 64, .bool true, .u64 a] some = if (!M 32 64 a) = true then some (.tup [.u64 0#64, .i .i64 2]) else r64 (IntKind.i64.wrap (sOfU .i32 a)) := by kernel_rfl
theorem fl_32_64f (M : Int → Int → BitVec 64 → Bool) (a : BitVec 64) : ex [(51, mayG M), (53, of64S), (52, of32S)] (fun _ => []) Tryd.f23 [.i .i64 32, .i .i64 64, .bool false, .u64 a] some = if (!M 32 64 a) = true then some (.tup [.u64 0#64, .i .i64 2]) else r64 ((a.toNat : Int)) := by kernel_rfl
theorem fl_64_32t (M : Int → Int → BitVec 64 → Bool) (a : BitVec 64) : ex [(51, mayG M), (53, of64S), (52, of32S)] (fun _ => []) Tryd.f23 [.i .i64 64, .i .i64 32, .bool true, .u64 a] some = if (!M 64 32 a) = true then some (.tup [.u64 0#64, .i .i64 2]) else r32 (sOfU .i64 a) := by kernel_rfl
theorem fl_64_32f (M : Int → Int → BitVec 64 → Bool) (a : BitVec 64) : ex [(51, mayG M), (53, of64S), (52, of32S)] (fun _ => []) Tryd.f23 [.i .i64 64, .i .i64 32, .bool false, .u64 a] some = if (!M 64 32 a) = true then some (.tup [.u64 0#64, .i .i64 2]) else r32 ((a.toNat : Int)) := by kernel_rfl
theorem fl_64_64t (M : Int → Int → BitVec 64 → Bool) (a : BitVec 64) : ex [(51, mayG M), (53, of64S), (52, of32S)] (fun _ => []) Tryd.f23 [.i .i64 64, .i .i64 64, .bool true, .u64 a] some = if (!M 64 64 a) = true then some (.tup [.u64 0#64, .i .i64 2]) else r64 (sOfU .i64 a) := by kernel_rfl
theorem fl_64_64f (M : Int → Int → BitVec 64 → Bool) (a : BitVec 64) : ex [(51, mayG M), (53, of64S), (52, of32S)] (fun _ => []) Tryd.f23 [.i .i64 64, .i .i64 64, .bool false, .u64 a] some = if (!M 64 64 a) = true then some (.tup [.u64 0#64, .i .i64 2]) else r64 ((a.toNat : Int)) := by kernel_rfl
theorem fl_no (f t : Int) (s : Bool) (a : BitVec 64) : ex [(51, mayNoS)] (fun _ => []) Tryd.f23 [.i .i64 f, .i .i64 t, .bool s, .u64 a] some = if (!mayC f t a) = true then some (.tup [.u64 0#64, .i .i64 2]) else none := by kernel_rfl
theorem rfl_no (f t : Int) (s : Bool) (a : BitVec 64) : ex [(81, mayNoS)] (fun _ => []) Tryd.f48 [.i .i64 f, .i .i64 t, .bool s, .u64 a] some = if (!mayC f t a) = true then some (.tup [.u64 0#64, .i .i64 2]) else none := by kernel_rfl
theorem s64_toInt (a : BitVec 64) : sOfU .i64 a = sgnF 64 a := by
  have hlt := a.isLt
  rw [sOfU64, toInt64]
  show _ = if 2 * (a.toNat : Int) < 18446744073709551616 then (a.toNat : Int) else (a.toNat : Int) - 18446744073709551616
  split <;> split <;> omega
theorem s32_toInt {a : BitVec 64} (h : fitF 32 a = true) : IntKind.i64.wrap (sOfU .i32 a) = sgnF 32 a := by
  have h1 := (fitF_nat h).2
  rw [pw32] at h1
  have h3 : sOfU .i32 a = (a.setWidth 32).toInt := rfl
  have h4 : (a.setWidth 32).toInt = sgnF 32 a := by
    rw [BitVec.toInt_eq_toNat_cond, BitVec.toNat_setWidth]
    show _ = if 2 * (a.toNat : Int) < 4294967296 then (a.toNat : Int) else (a.toNat : Int) - 4294967296
    have : a.toNat % 2 ^ 32 = a.toNat := Nat.mod_eq_of_lt (by omega)
    rw [this]
    split <;> split <;> omega
  have hr := sgn_range h
  rw [pw32] at hr
  rw [h3, h4, wrap_in (by omega) (by omega)]
theorem t_Float : Snd 23 floatS := by
  refine Sound.of_pt fun ds d hd => ?_
  split at hd
  · rename_i f t s a
    cases hd
    cases hm : mayC f t a
    · refine (execFn_sound (P := Tryd.prog) (G := G0) (ann := fun _ => []) (TableOK.cons (may_no t_may) TableOK.nil) mixed Tryd.func23 (by kernel_rfl) 50).pt ((fl_no f t s a).trans ?_)
      rw [hm]; rfl
    · have S := execFn_sound (P := Tryd.prog) (G := G0) (ann := fun _ => []) (TableOK.cons t_may (TableOK.cons x_of64 (TableOK.cons x_of32 TableOK.nil))) mixed Tryd.func23 (by kernel_rfl) 50
      obtain ⟨hf, ht, ha⟩ := mayC_fit hm
      have e32 : ∀ n, r32 n = some (.tup [.u64 (ifF true (fltV 32 n)), .i .i64 (errF true)]) := r32_eq
      have e64 : ∀ n, r64 n = some (.tup [.u64 (ifF true (fltV 64 n)), .i .i64 (errF true)]) := r64_eq
      have c : ∀ x : Option D, (if (!true) = true then some (D.tup [.u64 0#64, .i .i64 2]) else x) = x := fun x => rfl
      rcases okC_cases hf with rfl | rfl <;> rcases okC_cases ht with rfl | rfl <;> cases s
      · exact S.pt ((fl_32_32f mayC a).trans (by rw [hm, c, intF]; exact e32 (a.toNat : Int)))
      · exact S.pt ((fl_32_32t mayC a).trans (by rw [hm, c, s32_toInt ha, intT]; exact e32 (sgnF 32 a)))
      · exact S.pt ((fl_32_64f mayC a).trans (by rw [hm, c, intF]; exact e64 (a.toNat : Int)))
      · exact S.pt ((fl_32_64t mayC a).trans (by rw [hm, c, s32_toInt ha, intT]; exact e64 (sgnF 32 a)))
      · exact S.pt ((fl_64_32f mayC a).trans (by rw [hm, c, intF]; exact e32 (a.toNat : Int)))
      · exact S.pt ((fl_64_32t mayC a).trans (by rw [hm, c, s64_toInt, intT]; exact e32 (sgnF 64 a)))
      · exact S.pt ((fl_64_64f mayC a).trans (by rw [hm, c, intF]; exact e64 (a.toNat : Int)))
      · exact S.pt ((fl_64_64t mayC a).trans (by rw [hm, c, s64_toInt, intT]; exact e64 (sgnF 64 a)))
  · cases hd
noncomputable def worG (W : Int → BitVec 64 → Int) (F : Int → BitVec 64 → Bool) : Ev.Spec := guarded fun | [.i .i64 t, .u64 a] => some (F t a, .i .i64 (W t a)) | _ => none
noncomputable def rdG (R : Int → Bool → BitVec 64 → Int → BitVec 64) (C : Int → Bool) : Ev.Spec := guarded fun | [.i .i64 w, .bool s, .u64 m, .i .i64 e] => some (C w && decide (-1500 ≤ e ∧ e ≤ 1500), .u64 (R w s m e)) | _ => none
theorem rfl_nf (M : Int → Int → BitVec 64 → Bool) (W : Int → BitVec 64 → Int) (F : Int → BitVec 64 → Bool) (N : Int → Bool → BitVec 64 → BitVec 64) (R : Int → Bool → BitVec 64 → Int → BitVec 64) (C : Int → Bool) (f t : Int) (s : Bool) (a : BitVec 64) : ex [(81, mayG M), (83, worG W F), (85, numG N), (84, rdG R C)] (fun _ => []) Tryd.f48 [.i .i64 f, .i .i64 t, .bool s, .u64 a] some =
  if (!M f t a) = true then some (.tup [.u64 0#64, .i .i64 2]) else
  if s = true then if F f a = true then
    if decide (W f a < 0) = true then if (C t && decide ((-1500 : Int) ≤ 0 ∧ (0 : Int) ≤ 1500)) = true then some (.tup [.u64 (R t true (N f true a) 0), .i .i64 0]) else none
    else if (C t && decide ((-1500 : Int) ≤ 0 ∧ (0 : Int) ≤ 1500)) = true then some (.tup [.u64 (R t false a 0), .i .i64 0]) else none
  else none
  else if (C t && decide ((-1500 : Int) ≤ 0 ∧ (0 : Int) ≤ 1500)) = true then some (.tup [.u64 (R t false a 0), .i .i64 0]) else none := by kernel_rfl
theorem neg_nat {f : Int} {a : BitVec 64} (ha : fitF f a = true) (hn : sgnF f a < 0) : (numV f true a).toNat = (sgnF f a).natAbs := by
  obtain ⟨hw, h1⟩ := fitF_nat ha
  have hlt := a.isLt
  have e := and_nat hw (0#64 - a)
  rw [BitVec.toNat_sub] at e
  have z : (0#64).toNat = 0 := rfl
  have hs : sgnF f a = (a.toNat : Int) - pw f ∧ pw f ≤ 2 * (a.toNat : Int) := by
    unfold sgnF at hn ⊢
    split at hn
    · omega
    · rename_i h
      rw [if_neg h]
      exact ⟨rfl, by omega⟩
  show (0#64 - a &&& maskF f).toNat = _
  rw [hs.1]
  have hp : 0 < a.toNat := by
    rcases okW_cases hw with rfl | rfl | rfl | rfl
    · have := hs.2; rw [pw8] at this; omega
    · have := hs.2; rw [pw16] at this; omega
    · have := hs.2; rw [pw32] at this; omega
    · have := hs.2; rw [pw64] at this; omega
  rcases okW_cases hw with rfl | rfl | rfl | rfl
  · rw [pw8] at *; omega
  · rw [pw16] at *; omega
  · rw [pw32] at *; omega
  · rw [pw64] at *; omega
theorem t_rFloat : Snd 48 floatS := by
  refine Sound.of_pt fun ds d hd => ?_
  split at hd
  · rename_i f t s a
    cases hd
    cases hm : mayC f t a
    · refine (execFn_sound (P := Tryd.prog) (G := G0) (ann := fun _ => []) (TableOK.cons (may_no t_rmay) TableOK.nil) mixed Tryd.func48 (by kernel_rfl) 50).pt ((rfl_no f t s a).trans ?_)
      rw [hm]; rfl
    · have S := execFn_sound (P := Tryd.prog) (G := G0) (ann := fun _ => []) (TableOK.cons t_rmay (TableOK.cons t_Worth (TableOK.cons t_num (TableOK.cons t_rd TableOK.nil)))) mixed Tryd.func48 (by kernel_rfl) 50
      obtain ⟨hf, ht, ha⟩ := mayC_fit hm
      refine S.pt ((rfl_nf mayC sgnF fitF numV rdV okC f t s a).trans ?_)
      rw [hm, ha, ht]
      have pos : ∀ n : Int, 0 ≤ n → n = (a.toNat : Int) → rdV t false a 0 = fltV t n := fun n h0 h1 => by
        unfold rdV fltV
        rw [h1]
        have : ¬ ((a.toNat : Int) < 0) := by omega
        simp [this]
      cases s
      · show some (D.tup [.u64 (rdV t false a 0), .i .i64 0]) = some (D.tup [.u64 (fltV t (a.toNat : Int)), .i .i64 0])
        rw [pos (a.toNat : Int) (by omega) rfl]
      · by_cases hn : sgnF f a < 0
        · have e : rdV t true (numV f true a) 0 = fltV t (sgnF f a) := by
            unfold rdV fltV
            rw [neg_nat ha hn]
            simp [hn]
          show (if decide (sgnF f a < 0) = true then some (D.tup [.u64 (rdV t true (numV f true a) 0), .i .i64 0]) else some (D.tup [.u64 (rdV t false a 0), .i .i64 0])) = some (D.tup [.u64 (fltV t (sgnF f a)), .i .i64 0])
          rw [if_pos (decide_eq_true hn), e]
        · have hs : sgnF f a = (a.toNat : Int) := by
            have h1 := (fitF_nat ha).2
            unfold sgnF at hn ⊢
            split
            · rfl
            · rename_i h; rw [if_neg h] at hn; omega
          show (if decide (sgnF f a < 0) = true then some (D.tup [.u64 (rdV t true (numV f true a) 0), .i .i64 0]) else some (D.tup [.u64 (rdV t false a 0), .i .i64 0])) = some (D.tup [.u64 (fltV t (sgnF f a)), .i .i64 0])
          rw [if_neg (by simpa using hn), pos _ (by omega) hs]
  · cases hd

/-! numbers that the document tells -/
noncomputable abbrev lOf : Ev.Spec := ex [(96, to32S), (97, to64S)] (fun _ => []) Tryd.f76
theorem s_of : Snd 76 lOf := execFn_sound (ann := fun _ => []) (TableOK.cons x_to32 (TableOK.cons x_to64 TableOK.nil)) mixed Tryd.func76 (by kernel_rfl) 50
noncomputable abbrev lNan : Ev.Spec := ex [] (fun _ => []) Tryd.f134
theorem s_isnan : Snd 134 lNan := execFn_sound (ann := fun _ => []) TableOK.nil mixed Tryd.func134 (by kernel_rfl) 50
noncomputable abbrev lAbs : Ev.Spec := ex [(53, of64S), (97, to64S)] (fun _ => []) Tryd.f141
theorem s_abs : Snd 141 lAbs := execFn_sound (ann := fun _ => []) (TableOK.cons x_of64 (TableOK.cons x_to64 TableOK.nil)) mixed Tryd.func141 (by kernel_rfl) 50
noncomputable abbrev lInf : Ev.Spec := ex [(141, lAbs)] (fun _ => []) Tryd.f132
theorem s_isinf : Snd 132 lInf := execFn_sound (ann := fun _ => []) (TableOK.cons s_abs TableOK.nil) mixed Tryd.func132 (by kernel_rfl) 50
noncomputable abbrev lNorm : Ev.Spec := ex [(141, lAbs)] (fun _ => []) Tryd.f144
theorem s_norm : Snd 144 lNorm := execFn_sound (ann := fun _ => []) (TableOK.cons s_abs TableOK.nil) mixed Tryd.func144 (by kernel_rfl) 50
noncomputable abbrev lLd0 : Ev.Spec := ex [(132, lInf), (134, lNan), (144, lNorm), (53, of64S), (97, to64S)] (fun _ => []) Tryd.f138
theorem s_ld0 : Snd 138 lLd0 := execFn_sound (ann := fun _ => []) (TableOK.cons s_isinf (TableOK.cons s_isnan (TableOK.cons s_norm (TableOK.cons x_of64 (TableOK.cons x_to64 TableOK.nil))))) mixed Tryd.func138 (by kernel_rfl) 50
/-- 1 times a power of two. -/
noncomputable def ldS : Ev.Spec := joined fun
  | [.f .f64 4607182418800017408, .i .i64 31] => some (.f .f64 4746794007248502784)
  | [.f .f64 4607182418800017408, .i .i64 32] => some (.f .f64 4751297606875873280)
  | [.f .f64 4607182418800017408, .i .i64 63] => some (.f .f64 4890909195324358656)
  | [.f .f64 4607182418800017408, .i .i64 64] => some (.f .f64 4895412794951729152)
  | _ => none
theorem t_ld : Snd 111 ldS := by
  refine Sound.join (execFn_sound (ann := fun _ => []) (TableOK.cons s_ld0 TableOK.nil) mixed Tryd.func111 (by kernel_rfl) 50) fun ds d h => ?_
  split at h
  · cases h; kernel_rfl
  · cases h; kernel_rfl
  · cases h; kernel_rfl
  · cases h; kernel_rfl
  · cases h
noncomputable abbrev lLook : Ev.Spec := ex [(111, ldS)] (fun _ => []) Tryd.f79
theorem s_look : Snd 79 lLook := execFn_sound (ann := fun _ => []) (TableOK.cons t_ld TableOK.nil) mixed Tryd.func79 (by kernel_rfl) 50
noncomputable abbrev lNum : Ev.Spec := ex [] (fun _ => []) Tryd.f80
theorem s_num : Snd 80 lNum := execFn_sound (ann := fun _ => []) TableOK.nil mixed Tryd.func80 (by kernel_rfl) 50
noncomputable abbrev lDem : Ev.Spec := ex [(76, lOf), (52, of32S)] (fun _ => []) Tryd.f42
theorem s_dem : Snd 42 lDem := execFn_sound (ann := fun _ => []) (TableOK.cons s_of (TableOK.cons x_of32 TableOK.nil)) mixed Tryd.func42 (by kernel_rfl) 50
noncomputable def worksS : Ev.Spec := joined fun | [] => some (.bool true) | _ => none
end Go.L08C
/-!
Chapter 05: a float's worth; whether a cut fits, by the program.
-/
namespace Go.L08C
open Go.Ev Go.Proofs Go.RowKit Go.Wh Go.Fl
open Go.L08

theorem Pt.weak {P : Program} {G : List (Nat × SV)} {f : FuncId} {ds : List D} {d d' : D} (h : Pt P G f ds d) (hd : ∀ own w v, lies own w d v → lies own w d' v) : Pt P G f ds d' := fun w args hG hl => by
  rcases h w args hG hl with ⟨v, w', h1, h2, h3⟩ | ⟨h1, h2⟩
  · exact .inl ⟨v, w', h1, h2, hd _ _ _ h3⟩
  · exact .inr ⟨h1, Calls.mono h2 fun e w' ⟨v, he, hb, hv⟩ => ⟨v, he, hb, hd _ _ _ hv⟩⟩
def isNW (w : Int) (a : BitVec 64) : Bool := isN (fmtW w) a.toNat
def finW (w : Int) (a : BitVec 64) : Bool := fin (fmtW w) a.toNat
theorem two_W (w : Int) : Two (fmtW w) := by
  unfold fmtW
  split
  · exact two_s
  · exact two_d
/-! a float's worth -/
def wideN (w : Int) (a : BitVec 64) : Nat := if w = 32 then Ieee.double.write (Ieee.single.read a.toNat) else a.toNat
noncomputable def ofY : Ev.Spec := guarded fun | [.i .i64 w, .u64 a] => some (okC w && fitF w a && !isNW w a, .f .f64 (wideN w a)) | _ => none
noncomputable def ofN : Ev.Spec := guarded fun | [.i .i64 w, .u64 a] => some (okC w && fitF w a && isNW w a, .nan .f64) | _ => none
def f2fT (x : Ieee.Datum) : Option D := match x with
  | .nan _ _ => some (.nan .f64)
  | .infinity g => some (.f .f64 (FloatKind.f64.encode (.infinity g)))
  | .number g m e => if (FloatKind.f64.decode (FloatKind.f64.encode (.number g m e))).isInfinity then some (.xf .f64 (fun x => x < 2 ^ 32)) else some (.f .f64 (FloatKind.f64.encode (.number g m e)))
theorem nf_of32 (a : BitVec 64) : ex [(96, to32S), (97, to64S)] (fun _ => []) Tryd.f76 [.i .i64 32, .u64 a] some = f2fT (Ieee.single.read (BitVec.setWidth 32 a).toNat) := by kernel_rfl
theorem nf_of64 (a : BitVec 64) : ex [(96, to32S), (97, to64S)] (fun _ => []) Tryd.f76 [.i .i64 64, .u64 a] some = some (.f .f64 a.toNat) := by kernel_rfl
theorem low32 {a : BitVec 64} (h : fitF 32 a = true) : (BitVec.setWidth 32 a).toNat = a.toNat := by
  have h1 := (fitF_nat h).2
  rw [pw32] at h1
  rw [BitVec.toNat_setWidth, Nat.mod_eq_of_lt (by omega)]
theorem not_inf {x : Nat} (h : fin Ieee.double x = true) : (FloatKind.f64.decode x).isInfinity = false := by
  show (Ieee.double.read x).isInfinity = false
  rw [read_fin h]; rfl
theorem S_of : Sound Tryd.prog G0 76 (ex [(96, to32S), (97, to64S)] (fun _ => []) Tryd.f76) := execFn_sound (ann := fun _ => []) (TableOK.cons x_to32 (TableOK.cons x_to64 TableOK.nil)) mixed Tryd.func76 (by kernel_rfl) 50
theorem t_ofY : Snd 76 ofY := by
  refine Sound.of_ptG fun ds d hd => ?_
  split at hd
  · rename_i w a
    simp only [Option.some.injEq, Prod.mk.injEq, Bool.and_eq_true, Bool.not_eq_true'] at hd
    obtain ⟨⟨⟨hw, hf⟩, hn⟩, rfl⟩ := hd
    rcases okC_cases hw with rfl | rfl
    · refine S_of.pt ((nf_of32 a).trans ?_)
      rw [low32 hf]
      have hn' : isN Ieee.single a.toNat = false := hn
      cases h1 : fin Ieee.single a.toNat
      · have e := read_infty two_s h1 hn'
        unfold wideN
        rw [if_pos rfl, e]
        rfl
      · have e := read_fin h1
        obtain ⟨a1, _, _⟩ := longer h1
        unfold wideN
        rw [if_pos rfl]
        rw [e] at a1 ⊢
        show (if (FloatKind.f64.decode (FloatKind.f64.encode _)).isInfinity = true then _ else _) = _
        have := not_inf a1
        rw [show FloatKind.f64.encode (.number (ng Ieee.single a.toNat) (mg Ieee.single a.toNat) (pl Ieee.single a.toNat)) = Ieee.double.write (.number (ng Ieee.single a.toNat) (mg Ieee.single a.toNat) (pl Ieee.single a.toNat)) from rfl, this]
        rfl
    · exact S_of.pt (nf_of64 a)
  · cases hd
theorem t_ofN : Snd 76 ofN := by
  refine Sound.of_ptG fun ds d hd => ?_
  split at hd
  · rename_i w a
    simp only [Option.some.injEq, Prod.mk.injEq, Bool.and_eq_true] at hd
    obtain ⟨⟨⟨hw, hf⟩, hn⟩, rfl⟩ := hd
    rcases okC_cases hw with rfl | rfl
    · refine S_of.pt ((nf_of32 a).trans ?_)
      rw [low32 hf]
      obtain ⟨u, hu⟩ := read_none two_s (x := a.toNat) hn
      rw [hu]; rfl
    · refine Pt.weak (S_of.pt (nf_of64 a)) fun own w v hv => ?_
      simp only [lies] at hv ⊢
      refine ⟨_, hv, ?_, a.isLt⟩
      show (Ieee.double.read a.toNat).isNaN = true
      rw [isN_iff two_d]
      exact hn
  · cases hd
/-- What the long one is worth. -/
theorem wide_fin {w : Int} (hw : okC w = true) {a : BitVec 64} (h : finW w a = true) : fin Ieee.double (wideN w a) = true ∧ ng Ieee.double (wideN w a) = ng (fmtW w) a.toNat ∧ wo Ieee.double (wideN w a) = wo (fmtW w) a.toNat := by
  rcases okC_cases hw with rfl | rfl
  · exact longer (x := a.toNat) h
  · exact ⟨h, rfl, rfl⟩
theorem wide_inf {w : Int} (hw : okC w = true) {a : BitVec 64} (h : finW w a = false) (hn : isNW w a = false) : fin Ieee.double (wideN w a) = false ∧ isN Ieee.double (wideN w a) = false ∧ ng Ieee.double (wideN w a) = ng (fmtW w) a.toNat := by
  rcases okC_cases hw with rfl | rfl
  · exact longer_inf (x := a.toNat) h hn
  · exact ⟨h, hn, rfl⟩

/-! does it fit? -/
/-- The greatest without its sign. -/
def bnd (t : Int) (s n : Bool) : Nat := if s = true then (if n = true then (if t = 32 then 2147483648 else 9223372036854775808) else (if t = 32 then 2147483647 else 9223372036854775807)) else (if n = true then 0 else if t = 32 then 4294967295 else 18446744073709551615)
def okX (x : Nat) (t : Int) (s : Bool) : Bool := fin Ieee.double x && decide (wh Ieee.double x ≤ bnd t s (ng Ieee.double x))
def lookV (x : Nat) (t : Int) (s : Bool) : Int := if okX x t s = true then 0 else if ng Ieee.double x = true then 2 else 3
noncomputable def lookY : Ev.Spec := guarded fun | [.f .f64 x, .i .i64 t, .bool s] => some (okC t && !isN Ieee.double x, .i .i64 (lookV x t s)) | _ => none
noncomputable def lookN : Ev.Spec := guarded fun | [.nan .f64, .i .i64 t, .bool _] => some (okC t, .i .i64 1) | _ => none
def leO (x c : Nat) : Bool := FloatKind.f64.format.order x c == some .lt || FloatKind.f64.format.order x c == some .eq
def geO (x c : Nat) : Bool := FloatKind.f64.format.order x c == some .gt || FloatKind.f64.format.order x c == some .eq
def lookT (x : Nat) (low : Bool) (c : Nat) : Option D := if (!(FloatKind.f64.format.order x x == some .eq)) = true then some (.i .i64 1) else if low = true then some (.i .i64 2) else if geO x c = true then some (.i .i64 3) else some (.i .i64 0)
theorem nf_look32f (x : Nat) : ex [(111, ldS)] (fun _ => []) Tryd.f79 [.f .f64 x, .i .i64 32, .bool false] some = lookT x (leO x 13830554455654793216) 4751297606875873280 := by kernel_rfl
theorem nf_look32t (x : Nat) : ex [(111, ldS)] (fun _ => []) Tryd.f79 [.f .f64 x, .i .i64 32, .bool true] some = lookT x (leO x 13970166044105375744) 4746794007248502784 := by kernel_rfl
theorem nf_look64f (x : Nat) : ex [(111, ldS)] (fun _ => []) Tryd.f79 [.f .f64 x, .i .i64 64, .bool false] some = lookT x (leO x 13830554455654793216) 4895412794951729152 := by kernel_rfl
theorem nf_look64t (x : Nat) : ex [(111, ldS)] (fun _ => []) Tryd.f79 [.f .f64 x, .i .i64 64, .bool true] some = lookT x (FloatKind.f64.format.order x 14114281232179134464 == some .lt) 4890909195324358656 := by kernel_rfl
theorem nf_lookN32t : ex [(111, ldS)] (fun _ => []) Tryd.f79 [.nan .f64, .i .i64 32, .bool true] some = some (.i .i64 1) := by kernel_rfl
theorem nf_lookN32f : ex [(111, ldS)] (fun _ => []) Tryd.f79 [.nan .f64, .i .i64 32, .bool false] some = some (.i .i64 1) := by kernel_rfl
theorem nf_lookN64t : ex [(111, ldS)] (fun _ => []) Tryd.f79 [.nan .f64, .i .i64 64, .bool true] some = some (.i .i64 1) := by kernel_rfl
theorem nf_lookN64f : ex [(111, ldS)] (fun _ => []) Tryd.f79 [.nan .f64, .i .i64 64, .bool false] some = some (.i .i64 1) := by kernel_rfl
theorem cmp_le {a b : Int} : (some (compare a b) == some Ordering.lt || some (compare a b) == some Ordering.eq) = decide (a ≤ b) := by
  rcases Int.lt_trichotomy a b with h | h | h
  · rw [Int.compare_eq_lt.2 h, decide_eq_true (by omega)]; rfl
  · subst h; rw [Int.compare_eq_eq.2 rfl, decide_eq_true (by omega)]; rfl
  · rw [Int.compare_eq_gt.2 h, decide_eq_false (by omega)]; rfl
theorem cmp_ge {a b : Int} : (some (compare a b) == some Ordering.gt || some (compare a b) == some Ordering.eq) = decide (b ≤ a) := by
  rcases Int.lt_trichotomy a b with h | h | h
  · rw [Int.compare_eq_lt.2 h, decide_eq_false (by omega)]; rfl
  · subst h; rw [Int.compare_eq_eq.2 rfl, decide_eq_true (by omega)]; rfl
  · rw [Int.compare_eq_gt.2 h, decide_eq_true (by omega)]; rfl
theorem cmp_lt {a b : Int} : (some (compare a b) == some Ordering.lt) = decide (a < b) := by
  rcases Int.lt_trichotomy a b with h | h | h
  · rw [Int.compare_eq_lt.2 h, decide_eq_true (by omega)]; rfl
  · subst h; rw [Int.compare_eq_eq.2 rfl, decide_eq_false (by omega)]; rfl
  · rw [Int.compare_eq_gt.2 h, decide_eq_false (by omega)]; rfl
theorem le_low {x c n : Nat} (hf : fin Ieee.double x = true) (hc : IsInt Ieee.double c true n) (hn : 0 < n) : leO x c = (ng Ieee.double x && decide (n ≤ wh Ieee.double x)) := by
  have hU := U_pos
  have hp : 0 < n * U := Nat.mul_pos hn hU
  unfold leO
  rw [show FloatKind.f64.format.order x c = _ from order_int hf hc, cmp_le, Bool.eq_iff_iff]
  simp only [decide_eq_true_eq, Bool.and_eq_true, wh_ge]
  unfold sg
  cases ng Ieee.double x
  · simp only [Bool.false_eq_true, if_false, if_true, false_and, iff_false]; omega
  · simp only [if_true, true_and]; omega
theorem lt_low {x c n : Nat} (hf : fin Ieee.double x = true) (hc : IsInt Ieee.double c true n) (hn : 9007199254740992 ≤ n) : (FloatKind.f64.format.order x c == some .lt) = (ng Ieee.double x && decide (n < wh Ieee.double x)) := by
  have hU := U_pos
  have hp : 0 < n * U := Nat.mul_pos (by omega) hU
  have h53 : 9007199254740992 * U ≤ n * U := Nat.mul_le_mul_right _ hn
  rw [show FloatKind.f64.format.order x c = _ from order_int hf hc, cmp_lt, Bool.eq_iff_iff]
  simp only [decide_eq_true_eq, Bool.and_eq_true]
  have key : n * U < wo Ieee.double x ↔ n < wh Ieee.double x := by
    constructor
    · intro h
      have e := great_whole (x := x) (by omega)
      rw [e] at h
      exact Nat.lt_of_mul_lt_mul_right h
    · intro h
      have : (n + 1) * U ≤ wo Ieee.double x := wh_ge.1 h
      rw [Nat.add_mul] at this
      omega
  rw [← key]
  unfold sg
  cases ng Ieee.double x
  · simp only [Bool.false_eq_true, if_false, if_true, false_and, iff_false]; omega
  · simp only [if_true, true_and]; omega
theorem ge_high {x c n : Nat} (hf : fin Ieee.double x = true) (hc : IsInt Ieee.double c false n) (hn : 0 < n) : geO x c = (!ng Ieee.double x && decide (n ≤ wh Ieee.double x)) := by
  have hU := U_pos
  have hp : 0 < n * U := Nat.mul_pos hn hU
  unfold geO
  rw [show FloatKind.f64.format.order x c = _ from order_int hf hc, cmp_ge, Bool.eq_iff_iff]
  simp only [decide_eq_true_eq, Bool.and_eq_true, wh_ge]
  unfold sg
  cases ng Ieee.double x
  · simp only [Bool.false_eq_true, if_false, Bool.not_false, true_and]; omega
  · simp only [Bool.false_eq_true, if_false, if_true, Bool.not_true, false_and, iff_false]; omega
theorem inf_le {x c n : Nat} {s : Bool} (h1 : fin Ieee.double x = false) (h2 : isN Ieee.double x = false) (hc : IsInt Ieee.double c s n) : leO x c = ng Ieee.double x ∧ geO x c = !ng Ieee.double x ∧ (FloatKind.f64.format.order x c == some .lt) = ng Ieee.double x := by
  unfold leO geO
  rw [show FloatKind.f64.format.order x c = _ from order_infty h1 h2 hc]
  cases ng Ieee.double x
  · exact ⟨rfl, rfl, rfl⟩
  · exact ⟨rfl, rfl, rfl⟩
theorem look_end {x c : Nat} {t : Int} {s low : Bool} (hn : isN Ieee.double x = false) (h1 : fin Ieee.double x = true → low = (ng Ieee.double x && decide (bnd t s true < wh Ieee.double x)) ∧ geO x c = (!ng Ieee.double x && decide (bnd t s false < wh Ieee.double x))) (h2 : fin Ieee.double x = false → low = ng Ieee.double x ∧ geO x c = !ng Ieee.double x) :
    lookT x low c = some (.i .i64 (lookV x t s)) := by
  unfold lookT lookV okX
  rw [show (FloatKind.f64.format.order x x == some Ordering.eq) = true by have := order_self (f := Ieee.double) two_d (x := x); rw [hn] at this; exact this]
  cases hf : fin Ieee.double x
  · obtain ⟨e1, e2⟩ := h2 hf
    rw [e1, e2]
    cases ng Ieee.double x <;> rfl
  · obtain ⟨e1, e2⟩ := h1 hf
    rw [e1, e2]
    cases hg : ng Ieee.double x
    · by_cases hb : wh Ieee.double x ≤ bnd t s false
      · have : ¬ bnd t s false < wh Ieee.double x := by omega
        simp [hb, this]
      · have : bnd t s false < wh Ieee.double x := by omega
        simp [hb, this]
    · by_cases hb : wh Ieee.double x ≤ bnd t s true
      · have : ¬ bnd t s true < wh Ieee.double x := by omega
        simp [hb, this]
      · have : bnd t s true < wh Ieee.double x := by omega
        simp [hb, this]
theorem t_lookY : Snd 79 lookY := by
  refine Sound.guard (execFn_sound (ann := fun _ => []) (TableOK.cons t_ld TableOK.nil) mixed Tryd.func79 (by kernel_rfl) 50) fun ds d h => ?_
  split at h
  · rename_i x t s
    simp only [Option.some.injEq, Prod.mk.injEq, Bool.and_eq_true, Bool.not_eq_true'] at h
    obtain ⟨⟨ht, hn⟩, rfl⟩ := h
    rcases okC_cases ht with rfl | rfl <;> cases s
    · refine (nf_look32f x).trans (look_end hn (fun hf => ⟨le_low hf c_m1 (by decide), ge_high hf c_32 (by decide)⟩) fun hf => ⟨(inf_le hf hn c_m1).1, (inf_le hf hn c_32).2.1⟩)
    · refine (nf_look32t x).trans (look_end hn (fun hf => ⟨le_low hf c_m31 (by decide), ge_high hf c_31 (by decide)⟩) fun hf => ⟨(inf_le hf hn c_m31).1, (inf_le hf hn c_31).2.1⟩)
    · refine (nf_look64f x).trans (look_end hn (fun hf => ⟨le_low hf c_m1 (by decide), ge_high hf c_64 (by decide)⟩) fun hf => ⟨(inf_le hf hn c_m1).1, (inf_le hf hn c_64).2.1⟩)
    · refine (nf_look64t x).trans (look_end hn (fun hf => ⟨lt_low hf c_m63 (by decide), ge_high hf c_63 (by decide)⟩) fun hf => ⟨(inf_le hf hn c_m63).2.2, (inf_le hf hn c_63).2.1⟩)
  · cases h
theorem t_lookN : Snd 79 lookN := by
  refine Sound.guard (execFn_sound (ann := fun _ => []) (TableOK.cons t_ld TableOK.nil) mixed Tryd.func79 (by kernel_rfl) 50) fun ds d h => ?_
  split at h
  · rename_i t s
    simp only [Option.some.injEq, Prod.mk.injEq] at h
    obtain ⟨ht, rfl⟩ := h
    rcases okC_cases ht with rfl | rfl <;> cases s
    · exact nf_lookN32f
    · exact nf_lookN32t
    · exact nf_lookN64f
    · exact nf_lookN64t
  · cases h
end Go.L08C
/-!
Chapter 05: cuts, by the program.
-/
namespace Go.L08C
open Go.Ev Go.Proofs Go.RowKit Go.Wh Go.Fl
open Go.L08

def f2iT (x : Nat) (K : Int → Option D) : Option D := match f2i .f64 x .i64 with | some n => K n | none => none
def subT (x c : Nat) (K : Nat → Option D) : Option D := match FloatKind.f64.format.sub x c with | some r => K r | none => none
theorem nf_numt32 (x : Nat) : ex [] (fun _ => []) Tryd.f80 [.f .f64 x, .i .i64 32, .bool true] some = f2iT x (fun n => some (.u64 (BitVec.ofInt 64 n &&& maskF 32))) := by kernel_rfl
theorem nf_numf32 (x : Nat) : ex [] (fun _ => []) Tryd.f80 [.f .f64 x, .i .i64 32, .bool false] some =
  if (FloatKind.f64.format.order x 4890909195324358656 == some .lt) = true then f2iT x (fun n => some (.u64 (BitVec.ofInt 64 n &&& maskF 32)))
  else subT x 4890909195324358656 (fun r => f2iT r (fun n => some (.u64 (BitVec.ofInt 64 n ^^^ 9223372036854775808#64)))) := by kernel_rfl
theorem nf_numt64 (x : Nat) : ex [] (fun _ => []) Tryd.f80 [.f .f64 x, .i .i64 64, .bool true] some = f2iT x (fun n => some (.u64 (BitVec.ofInt 64 n &&& maskF 64))) := by kernel_rfl
theorem nf_numf64 (x : Nat) : ex [] (fun _ => []) Tryd.f80 [.f .f64 x, .i .i64 64, .bool false] some =
  if (FloatKind.f64.format.order x 4890909195324358656 == some .lt) = true then f2iT x (fun n => some (.u64 (BitVec.ofInt 64 n &&& maskF 64)))
  else subT x 4890909195324358656 (fun r => f2iT r (fun n => some (.u64 (BitVec.ofInt 64 n ^^^ 9223372036854775808#64)))) := by kernel_rfl
def numF (x : Nat) (t : Int) : BitVec 64 := numV t (ng Ieee.double x) (BitVec.ofNat 64 (wh Ieee.double x))
theorem f2i_fin {x : Nat} (hf : fin Ieee.double x = true) (h0 : -9223372036854775808 ≤ sg (ng Ieee.double x) (wh Ieee.double x)) (h1 : sg (ng Ieee.double x) (wh Ieee.double x) ≤ 9223372036854775807) (K : Int → Option D) :
    f2iT x K = K (sg (ng Ieee.double x) (wh Ieee.double x)) := by
  have e : (FloatKind.f64.decode x).toInt .zero = some (sg (ng Ieee.double x) (wh Ieee.double x)) := by
    show (Ieee.double.read x).toInt .zero = _
    rw [read_fin hf, toInt_num _ _ _ (pl_ge two_d x)]
    rfl
  unfold f2iT f2i
  rw [e]
  have hr : IntKind.i64.min ≤ sg (ng Ieee.double x) (wh Ieee.double x) ∧ sg (ng Ieee.double x) (wh Ieee.double x) ≤ IntKind.i64.max := ⟨h0, h1⟩
  simp only [hr, and_self, if_true]
theorem sg_num {t : Int} (ht : okC t = true) {s n : Bool} {N : Nat} (hb : N ≤ bnd t s n) : BitVec.ofInt 64 (sg n N) &&& maskF t = numV t n (BitVec.ofNat 64 N) := by
  unfold sg numV
  cases n
  · simp only [Bool.false_eq_true, if_false]
    have e : BitVec.ofInt 64 (N : Int) = BitVec.ofNat 64 N := rfl
    rw [e]
    refine Go.Wh.and_fit (okC_W ht) ?_
    rw [BitVec.le_def, BitVec.toNat_ofNat]
    rcases okC_cases ht with rfl | rfl <;> cases s <;> simp only [bnd, Bool.false_eq_true, if_false, if_true] at hb
    · show _ ≤ 4294967295; omega
    · show _ ≤ 4294967295; omega
    · show _ ≤ 18446744073709551615; omega
    · show _ ≤ 18446744073709551615; omega
  · simp only [if_true]
    congr 1
    apply BitVec.eq_of_toNat_eq
    rw [BitVec.toNat_ofInt, BitVec.toNat_sub, BitVec.toNat_ofNat]
    have z : (0#64).toNat = 0 := rfl
    omega
theorem xor_top {y : BitVec 64} (h : y.toNat < 2 ^ 63) : (y ^^^ 9223372036854775808#64).toNat = y.toNat + 9223372036854775808 := by
  have e : y ^^^ 9223372036854775808#64 = 9223372036854775808#64 ||| y := by
    apply BitVec.eq_of_getLsbD_eq
    intro i hi
    rw [BitVec.getLsbD_xor, BitVec.getLsbD_or]
    by_cases h63 : i = 63
    · subst h63
      have : y.getLsbD 63 = false := Nat.testBit_lt_two_pow h
      rw [this]; decide
    · have : (9223372036854775808#64).getLsbD i = false := by
        have key : ∀ j : Fin 64, j.val ≠ 63 → (9223372036854775808#64).getLsbD j.val = false := by decide
        exact key ⟨i, hi⟩ h63
      rw [this, Bool.xor_false, Bool.false_or]
  rw [e, or_two 63 (by decide) h]
  show 9223372036854775808 + y.toNat = _
  omega
theorem top_parts {x : Nat} (hf : fin Ieee.double x = true) (h1 : 9223372036854775808 ≤ wh Ieee.double x) (h2 : wh Ieee.double x ≤ 18446744073709551615) : pl Ieee.double x = 11 ∧ 4503599627370496 ≤ mg Ieee.double x ∧ mg Ieee.double x < 9007199254740992 ∧ wh Ieee.double x = mg Ieee.double x * 2048 := by
  have hm := mg_lt Ieee.double x
  have hB : Ieee.double.binade = 4503599627370496 := by decide
  have hw : wh Ieee.double x = mg Ieee.double x * 2 ^ (pl Ieee.double x).toNat / 2 ^ (-(pl Ieee.double x)).toNat := sc_div _ (pl_ge two_d x)
  have hpl : pl Ieee.double x = -1074 + (up Ieee.double (rg Ieee.double x) : Int) := rfl
  have hp0 : 0 ≤ pl Ieee.double x := by
    rcases Int.lt_or_le (pl Ieee.double x) 0 with h | h
    · exfalso
      have e : (pl Ieee.double x).toNat = 0 := by omega
      rw [e, Nat.pow_zero, Nat.mul_one] at hw
      have := Nat.div_le_self (mg Ieee.double x) (2 ^ (-(pl Ieee.double x)).toNat)
      omega
    · exact h
  have hu : up Ieee.double (rg Ieee.double x) ≠ 0 := by omega
  have hg : 4503599627370496 ≤ mg Ieee.double x := by rw [← hB]; exact mag_ge hu
  have e0 : (-(pl Ieee.double x)).toNat = 0 := by omega
  rw [e0, Nat.pow_zero, Nat.div_one] at hw
  obtain ⟨k, hk⟩ : ∃ k : Nat, pl Ieee.double x = (k : Int) := ⟨(pl Ieee.double x).toNat, by omega⟩
  have ek : (pl Ieee.double x).toNat = k := by omega
  rw [ek] at hw
  have k1 : k = 11 := by
    rcases Nat.lt_trichotomy k 11 with h | h | h
    · exfalso
      have : 2 ^ k ≤ 2 ^ 10 := Nat.pow_le_pow_right (by decide) (by omega)
      have : mg Ieee.double x * 2 ^ k ≤ 9007199254740991 * 2 ^ 10 := Nat.mul_le_mul (by omega) this
      omega
    · exact h
    · exfalso
      have : 2 ^ 12 ≤ 2 ^ k := Nat.pow_le_pow_right (by decide) (by omega)
      have : 4503599627370496 * 2 ^ 12 ≤ mg Ieee.double x * 2 ^ k := Nat.mul_le_mul hg this
      omega
  subst k1
  exact ⟨by omega, hg, by omega, by rw [hw]⟩
theorem sub_top {x : Nat} (hf : fin Ieee.double x = true) (hn : ng Ieee.double x = false) (h1 : 9223372036854775808 ≤ wh Ieee.double x) (h2 : wh Ieee.double x ≤ 18446744073709551615) :
    ∃ r, Ieee.double.sub x 4890909195324358656 = some r ∧ fin Ieee.double r = true ∧ ng Ieee.double r = false ∧ wh Ieee.double r + 9223372036854775808 = wh Ieee.double x := by
  obtain ⟨p1, p2, p3, p4⟩ := top_parts hf h1 h2
  have hld : Ieee.double.leastPlace = -1074 := double_least
  have hc : Ieee.double.read 4890909195324358656 = .number false 4503599627370496 11 := by decide
  have hk : ∃ k, mg Ieee.double x = 4503599627370496 + k := ⟨mg Ieee.double x - 4503599627370496, by omega⟩
  obtain ⟨k, hk⟩ := hk
  have hfd : (Ieee.double.fractionBits : Int) = 52 := rfl
  have hBd : Ieee.double.binade = 4503599627370496 := by decide
  have hlog : k.log2 ≤ 52 := by
    by_cases h0 : k = 0
    · rw [h0]; decide
    · have : k.log2 < 53 := (Nat.log2_lt h0).2 (by omega)
      omega
  obtain ⟨r, r1, r2⟩ := has_exact Ieee.double (by rw [hld]; omega) (by decide) (m := k) (p := 11) (by omega) (by rw [hld]; omega)
    (by rw [hld, hfd, show ((2 ^ Ieee.double.exponentBits - 1 : Nat) : Int) = 2047 from by decide]; omega)
  have e := nearest_exact Ieee.double (by rw [hld]; omega) false (m := k) (p := 11) (by omega) r1 r2
  obtain ⟨a1, a2, a3⟩ := wo_word Ieee.double false r1
  refine ⟨Ieee.double.word false r, ?_, a1, a2, ?_⟩
  · unfold Ieee.Format.sub
    rw [read_fin hf, hc, hn, p1]
    show (Ieee.Datum.sum (.number false (mg Ieee.double x) 11) (.number true 4503599627370496 11)).map _ = _
    have es : Ieee.Datum.sum (.number false (mg Ieee.double x) 11) (.number true 4503599627370496 11) = some (.number false k 11) := by
      unfold Ieee.Datum.sum
      simp only [signed_eq]
      have z : ((11 : Int) - min 11 11).toNat = 0 := by decide
      simp only [z, Nat.pow_zero, Nat.mul_one]
      have t : sg false (mg Ieee.double x) + sg true 4503599627370496 = (k : Int) := by
        show (mg Ieee.double x : Int) + -(4503599627370496 : Nat) = _
        omega
      rw [t]
      have c1 : decide ((k : Int) < 0) = false := decide_eq_false (by omega)
      simp only [c1, Int.natAbs_natCast, Bool.false_and, ite_self]
      rfl
    rw [es]
    show some (Ieee.double.nearest false k 11) = _
    rw [e]
  · have ew : wo Ieee.double (Ieee.double.word false r) = sc k 11 := by rw [wo_val two_d a3, ← r2]
    have : wh Ieee.double (Ieee.double.word false r) = k * 2048 := by
      unfold wh
      rw [ew, sc_div k (by decide)]
      show k * 2048 / 1 = _
      rw [Nat.div_one]
    rw [this, p4, hk]
    omega
noncomputable def numbY : Ev.Spec := guarded fun | [.f .f64 x, .i .i64 t, .bool s] => some (okC t && okX x t s, .u64 (numF x t)) | _ => none
theorem t_numbY : Snd 80 numbY := by
  refine Sound.guard (execFn_sound (ann := fun _ => []) TableOK.nil mixed Tryd.func80 (by kernel_rfl) 50) fun ds d h => ?_
  split at h
  · rename_i x t s
    simp only [Option.some.injEq, Prod.mk.injEq, Bool.and_eq_true] at h
    obtain ⟨⟨ht, hk⟩, rfl⟩ := h
    unfold okX at hk
    simp only [Bool.and_eq_true, decide_eq_true_eq] at hk
    obtain ⟨hf, hb⟩ := hk
    have cl : ∀ c n, IsInt Ieee.double c false n → 0 < n → (FloatKind.f64.format.order x c == some .lt) = (ng Ieee.double x || decide (wh Ieee.double x < n)) := by
      intro c n hc hn
      have hU := U_pos
      have hp : 0 < n * U := Nat.mul_pos hn hU
      rw [show FloatKind.f64.format.order x c = _ from order_int hf hc, cmp_lt, Bool.eq_iff_iff]
      have g := wh_ge (f := Ieee.double) (x := x) (n := n)
      simp only [decide_eq_true_eq, Bool.or_eq_true]
      unfold sg
      cases ng Ieee.double x
      · simp only [Bool.false_eq_true, if_false, false_or]; omega
      · simp only [if_true, Bool.false_eq_true, if_false, true_or, iff_true]; omega
    have small : sg (ng Ieee.double x) (wh Ieee.double x) ≤ 9223372036854775807 → f2iT x (fun n => some (.u64 (BitVec.ofInt 64 n &&& maskF t))) = some (.u64 (numF x t)) := by
      intro h1
      have h0 : -9223372036854775808 ≤ sg (ng Ieee.double x) (wh Ieee.double x) := by
        unfold sg
        rcases okC_cases ht with rfl | rfl <;> cases s <;> cases hg : ng Ieee.double x <;> rw [hg] at hb <;> simp [bnd] at hb ⊢ <;> omega
      rw [f2i_fin hf h0 h1, sg_num ht hb]
      rfl
    cases s
    · have rest : (if (FloatKind.f64.format.order x 4890909195324358656 == some .lt) = true then f2iT x (fun n => some (.u64 (BitVec.ofInt 64 n &&& maskF t)))
          else subT x 4890909195324358656 (fun r => f2iT r (fun n => some (.u64 (BitVec.ofInt 64 n ^^^ 9223372036854775808#64))))) = some (.u64 (numF x t)) := by
        rw [cl _ _ c_63 (by decide)]
        by_cases hl : (ng Ieee.double x || decide (wh Ieee.double x < 9223372036854775808)) = true
        · rw [if_pos hl]
          refine small ?_
          simp only [Bool.or_eq_true, decide_eq_true_eq] at hl
          unfold sg
          rcases hl with h | h
          · rw [if_pos h]; omega
          · split <;> omega
        · rw [if_neg hl]
          simp only [Bool.or_eq_true, decide_eq_true_eq, not_or, Bool.not_eq_true] at hl
          obtain ⟨hn, hge⟩ := hl
          rw [hn] at hb
          have h64 : wh Ieee.double x ≤ 18446744073709551615 := by
            rcases okC_cases ht with rfl | rfl <;> simp [bnd] at hb <;> omega
          obtain ⟨r, r1, r2, r3, r4⟩ := sub_top hf hn (by omega) h64
          unfold subT
          rw [show FloatKind.f64.format.sub x 4890909195324358656 = some r from r1]
          have hr : sg (ng Ieee.double r) (wh Ieee.double r) = (wh Ieee.double r : Int) := by rw [r3]; rfl
          show f2iT r _ = _
          rw [f2i_fin r2 (by rw [hr]; omega) (by rw [hr]; omega), hr]
          congr 2
          unfold numF numV
          rw [hn]
          simp only [Bool.false_eq_true, if_false]
          apply BitVec.eq_of_toNat_eq
          have e1 : (BitVec.ofInt 64 (wh Ieee.double r : Int)).toNat = wh Ieee.double r := by rw [ofInt_small (by omega) (by omega)]; omega
          rw [xor_top (by rw [e1]; omega), e1, BitVec.toNat_ofNat]
          omega
      rcases okC_cases ht with rfl | rfl
      · exact (nf_numf32 x).trans rest
      · exact (nf_numf64 x).trans rest
    · have hs : sg (ng Ieee.double x) (wh Ieee.double x) ≤ 9223372036854775807 := by
        unfold sg
        rcases okC_cases ht with rfl | rfl <;> cases hg : ng Ieee.double x <;> rw [hg] at hb <;> simp [bnd] at hb ⊢ <;> omega
      rcases okC_cases ht with rfl | rfl
      · exact (nf_numt32 x).trans (small hs)
      · exact (nf_numt64 x).trans (small hs)
  · cases h

/-! cuts -/
/-- Does it fit? What is held? -/
def fitV (f t : Int) (s : Bool) (a : BitVec 64) : Bool := finW f a && decide (wh (fmtW f) a.toNat ≤ bnd t s (ng (fmtW f) a.toNat))
def hldV (f t : Int) (s : Bool) (a : BitVec 64) : BitVec 64 := if isNW f a = true then 0#64 else if fitV f t s a = true then numV t (ng (fmtW f) a.toNat) (BitVec.ofNat 64 (wh (fmtW f) a.toNat)) else numV t (ng (fmtW f) a.toNat) (BitVec.ofNat 64 (bnd t s (ng (fmtW f) a.toNat)))
noncomputable def cutS : Ev.Spec := joined fun | [.i .i64 f, .i .i64 t, .bool s, .u64 a] => some (.tup [.u64 (ifF (mayC f t a && fitV f t s a) (hldV f t s a)), .i .i64 (if mayC f t a = true then (if fitV f t s a = true then 0 else 6) else 2)]) | _ => none
noncomputable def heldS : Ev.Spec := joined fun | [.i .i64 f, .i .i64 t, .bool s, .u64 a] => some (.tup [.u64 (ifF (mayC f t a) (hldV f t s a)), .i .i64 (errF (mayC f t a))]) | _ => none
noncomputable def lookG (C : Nat → Int → Bool → Bool) (L : Nat → Int → Bool → Int) : Ev.Spec := guarded fun | [.f .f64 x, .i .i64 t, .bool s] => some (C x t s, .i .i64 (L x t s)) | _ => none
noncomputable def numbG (C : Nat → Int → Bool → Bool) (N : Nat → Int → BitVec 64) : Ev.Spec := guarded fun | [.f .f64 x, .i .i64 t, .bool s] => some (C x t s, .u64 (N x t)) | _ => none
noncomputable def ofG (C : Int → BitVec 64 → Bool) (X : Int → BitVec 64 → Nat) : Ev.Spec := guarded fun | [.i .i64 w, .u64 a] => some (C w a, .f .f64 (X w a)) | _ => none
noncomputable def ofH (C : Int → BitVec 64 → Bool) : Ev.Spec := guarded fun | [.i .i64 w, .u64 a] => some (C w a, .nan .f64) | _ => none
theorem held_no (f t : Int) (s : Bool) (a : BitVec 64) : ex [(51, mayNoS)] (fun _ => []) Tryd.f46 [.i .i64 f, .i .i64 t, .bool s, .u64 a] some = if (!mayC f t a) = true then some (.tup [.u64 0#64, .i .i64 2]) else none := by kernel_rfl
def heldT (t : Int) (s : Bool) (l : Int) (x : Option D) : Option D :=
  if (l == 2) = true then (if s = true then some (.tup [.u64 (if t = 32 then 2147483648#64 else 9223372036854775808#64), .i .i64 0]) else some (.tup [.u64 0#64, .i .i64 0])) else
  if (l == 3) = true then (if s = true then some (.tup [.u64 (if t = 32 then 2147483647#64 else 9223372036854775807#64), .i .i64 0]) else some (.tup [.u64 (if t = 32 then 4294967295#64 else 18446744073709551615#64), .i .i64 0])) else
  if (l == 1) = true then some (.tup [.u64 0#64, .i .i64 0]) else x
theorem held_yes32 (M : Int → Int → BitVec 64 → Bool) (C : Int → BitVec 64 → Bool) (X : Int → BitVec 64 → Nat) (B : Nat → Int → Bool → Bool) (L : Nat → Int → Bool → Int) (E : Nat → Int → Bool → Bool) (N : Nat → Int → BitVec 64) (f : Int) (s : Bool) (a : BitVec 64) : ex [(51, mayG M), (76, ofG C X), (79, lookG B L), (80, numbG E N)] (fun _ => []) Tryd.f46 [.i .i64 f, .i .i64 32, .bool s, .u64 a] some =
  if (!M f 32 a) = true then some (.tup [.u64 0#64, .i .i64 2]) else if C f a = true then if B (X f a) 32 s = true then heldT 32 s (L (X f a) 32 s) (if E (X f a) 32 s = true then some (.tup [.u64 (N (X f a) 32), .i .i64 0]) else none) else none else none := by kernel_rfl
theorem held_nan32 (M : Int → Int → BitVec 64 → Bool) (C : Int → BitVec 64 → Bool) (f : Int) (s : Bool) (a : BitVec 64) : ex [(51, mayG M), (76, ofH C), (79, lookN)] (fun _ => []) Tryd.f46 [.i .i64 f, .i .i64 32, .bool s, .u64 a] some =
  if (!M f 32 a) = true then some (.tup [.u64 0#64, .i .i64 2]) else if C f a = true then some (.tup [.u64 0#64, .i .i64 0]) else none := by kernel_rfl
theorem held_yes64 (M : Int → Int → BitVec 64 → Bool) (C : Int → BitVec 64 → Bool) (X : Int → BitVec 64 → Nat) (B : Nat → Int → Bool → Bool) (L : Nat → Int → Bool → Int) (E : Nat → Int → Bool → Bool) (N : Nat → Int → BitVec 64) (f : Int) (s : Bool) (a : BitVec 64) : ex [(51, mayG M), (76, ofG C X), (79, lookG B L), (80, numbG E N)] (fun _ => []) Tryd.f46 [.i .i64 f, .i .i64 64, .bool s, .u64 a] some =
  if (!M f 64 a) = true then some (.tup [.u64 0#64, .i .i64 2]) else if C f a = true then if B (X f a) 64 s = true then heldT 64 s (L (X f a) 64 s) (if E (X f a) 64 s = true then some (.tup [.u64 (N (X f a) 64), .i .i64 0]) else none) else none else none := by kernel_rfl
theorem held_nan64 (M : Int → Int → BitVec 64 → Bool) (C : Int → BitVec 64 → Bool) (f : Int) (s : Bool) (a : BitVec 64) : ex [(51, mayG M), (76, ofH C), (79, lookN)] (fun _ => []) Tryd.f46 [.i .i64 f, .i .i64 64, .bool s, .u64 a] some =
  if (!M f 64 a) = true then some (.tup [.u64 0#64, .i .i64 2]) else if C f a = true then some (.tup [.u64 0#64, .i .i64 0]) else none := by kernel_rfl
/-- The long one fits where the short one does. -/
theorem okX_fit {f t : Int} (hf : okC f = true) (s : Bool) {a : BitVec 64} (hn : isNW f a = false) : okX (wideN f a) t s = fitV f t s a ∧ ng Ieee.double (wideN f a) = ng (fmtW f) a.toNat ∧ isN Ieee.double (wideN f a) = false ∧ (finW f a = true → wh Ieee.double (wideN f a) = wh (fmtW f) a.toNat) := by
  unfold okX fitV
  cases h : finW f a
  · obtain ⟨a1, a2, a3⟩ := wide_inf hf h hn
    rw [a1]
    exact ⟨rfl, a3, a2, fun h => by cases h⟩
  · obtain ⟨a1, a2, a3⟩ := wide_fin hf h
    have e : wh Ieee.double (wideN f a) = wh (fmtW f) a.toNat := by unfold wh; rw [a3]
    rw [a1, a2, e]
    exact ⟨rfl, rfl, fin_notN a1, fun _ => rfl⟩
theorem t_Held : Snd 46 heldS := by
  refine Sound.of_pt fun ds d hd => ?_
  split at hd
  · rename_i f t s a
    cases hd
    cases hm : mayC f t a
    · refine (execFn_sound (P := Tryd.prog) (G := G0) (ann := fun _ => []) (TableOK.cons (may_no t_may) TableOK.nil) mixed Tryd.func46 (by kernel_rfl) 50).pt ((held_no f t s a).trans ?_)
      rw [hm]; rfl
    · obtain ⟨hf, ht, ha⟩ := mayC_fit hm
      cases hn : isNW f a
      · have S := execFn_sound (P := Tryd.prog) (G := G0) (ann := fun _ => []) (TableOK.cons t_may (TableOK.cons t_ofY (TableOK.cons t_lookY (TableOK.cons t_numbY TableOK.nil)))) mixed Tryd.func46 (by kernel_rfl) 50
        obtain ⟨e1, e2, e3, e4⟩ := okX_fit (t := t) hf s hn
        have key : ∀ x, heldT t s (lookV (wideN f a) t s) (if (okC t && okX (wideN f a) t s) = true then some (.tup [.u64 (numF (wideN f a) t), .i .i64 0]) else none) = some x → x = .tup [.u64 (ifF true (hldV f t s a)), .i .i64 (errF true)] → heldT t s (lookV (wideN f a) t s) (if (okC t && okX (wideN f a) t s) = true then some (.tup [.u64 (numF (wideN f a) t), .i .i64 0]) else none) = some (.tup [.u64 (ifF true (hldV f t s a)), .i .i64 (errF true)]) := fun x h1 h2 => by rw [h1, h2]
        have main : heldT t s (lookV (wideN f a) t s) (if (okC t && okX (wideN f a) t s) = true then some (.tup [.u64 (numF (wideN f a) t), .i .i64 0]) else none) = some (.tup [.u64 (ifF true (hldV f t s a)), .i .i64 (errF true)]) := by
          unfold lookV
          rw [e1, ht, e2]
          cases hk : fitV f t s a
          · unfold hldV
            rw [hn, hk]
            rcases okC_cases ht with rfl | rfl <;> cases s <;> cases ng (fmtW f) a.toNat <;> kernel_rfl
          · have hfin : finW f a = true := by unfold fitV at hk; rw [Bool.and_eq_true] at hk; exact hk.1
            have e5 : numF (wideN f a) t = hldV f t s a := by
              unfold numF hldV
              rw [hn, hk, e2, e4 hfin]; rfl
            rw [e5]; rfl
        rcases okC_cases ht with rfl | rfl
        · refine S.pt ((held_yes32 mayC (fun w a => okC w && fitF w a && !isNW w a) wideN (fun x t _ => okC t && !isN Ieee.double x) lookV (fun x t s => okC t && okX x t s) numF f s a).trans ?_)
          rw [hm, hf, ha, hn, e3]
          exact main
        · refine S.pt ((held_yes64 mayC (fun w a => okC w && fitF w a && !isNW w a) wideN (fun x t _ => okC t && !isN Ieee.double x) lookV (fun x t s => okC t && okX x t s) numF f s a).trans ?_)
          rw [hm, hf, ha, hn, e3]
          exact main
      · have S := execFn_sound (P := Tryd.prog) (G := G0) (ann := fun _ => []) (TableOK.cons t_may (TableOK.cons t_ofN (TableOK.cons t_lookN TableOK.nil))) mixed Tryd.func46 (by kernel_rfl) 50
        have hv : hldV f t s a = 0#64 := by unfold hldV; rw [hn]; rfl
        rw [hv]
        rcases okC_cases ht with rfl | rfl
        · refine S.pt ((held_nan32 mayC (fun w a => okC w && fitF w a && isNW w a) f s a).trans ?_)
          rw [hm, hf, ha, hn]; rfl
        · refine S.pt ((held_nan64 mayC (fun w a => okC w && fitF w a && isNW w a) f s a).trans ?_)
          rw [hm, hf, ha, hn]; rfl
  · cases hd
end Go.L08C
