/-
  Part of the proof; what its functions and lemmas say stands in the text.
-/
import Derived.Test.YtaabolgkoegohaaDoorC05dB
import Derived.Test.YtaabolgkoegohaaDoorF05db
import Derived.Test.YtaabolgkoegohaaDoorFlE
set_option linter.unusedSimpArgs false
set_option linter.unusedVariables false
/-!
Chapter 05: helpers of the laws.
-/
namespace Go.L05d
open Go.L05dF Go.Ev Go.Proofs Go.RowKit Go.Wh Go.Fl

abbrev VC := Int → Int → Bool → BitVec 64 → BitVec 64
abbrev EC := Int → Int → Bool → BitVec 64 → Int
noncomputable def CG (V : VC) (E : EC) : Ev.Spec := joined fun | [.i .i64 f, .i .i64 t, .bool s, .u64 a] => some (.tup [.u64 (V f t s a), .i .i64 (E f t s a)]) | _ => none
abbrev hV : VC := fun f t s a => ifF (mayC f t a) (hldV f t s a)
abbrev hE : EC := fun f t _ a => errF (mayC f t a)
abbrev fV : VC := fun f t s a => ifF (mayC f t a) (fltV t (intV f s a))
theorem g_held : Snd 12 (CG hV hE) := t_Held
theorem g_float : Snd 7 (CG fV hE) := t_Float
noncomputable def widG (W : BitVec 8 → Int) : Ev.Spec := joined fun | [.u8 n] => some (.i .i64 (W n)) | _ => none
noncomputable def lofG (O : Int → BitVec 64 → BitVec 64) : Ev.Spec := joined fun | [.i .i64 w, .u64 a] => some (.u64 (O w a)) | _ => none
def widF (n : BitVec 8) : Int := IntKind.i64.wrap (32 * 2 ^ min (BitVec.setWidth 64 (n % BitVec.ofInt 8 2)).toNat IntKind.i64.bits)
theorem ok_wid (n : BitVec 8) : wOK (widF n) = true := by
  revert n; decide +kernel
theorem t_wid : Snd 5 (widG widF) := by
  refine Sound.join (execFn_sound (ann := fun _ => []) TableOK.nil mixed Tryd.func5 (by kernel_rfl) 50) fun ds d h => ?_
  split at h
  · cases h; kernel_rfl
  · cases h
def lofF (w : Int) (a : BitVec 64) : BitVec 64 := a &&& maskF w
theorem t_lof : Snd 6 (lofG lofF) := by
  refine Sound.join (execFn_sound (ann := fun _ => []) TableOK.nil mixed Tryd.func6 (by kernel_rfl) 50) fun ds d h => ?_
  split at h
  · cases h; kernel_rfl
  · cases h
theorem wOK_okW {w : Int} (h : wOK w = true) : okW w = true := by rcases wOK_cases h with rfl | rfl <;> decide
theorem fit_and {w : Int} (hw : wOK w = true) (a : BitVec 64) : fitF w (a &&& maskF w) = true := by
  unfold fitF
  rw [wOK_okW hw, Bool.true_and]
  refine decide_eq_true ?_
  rw [BitVec.le_def, BitVec.toNat_and]
  exact Nat.and_le_right
theorem fit_of {w : Int} (hw : wOK w = true) {a : BitVec 64} (h : (a.toNat : Int) < pw w) : fitF w a = true := by
  unfold fitF
  rw [wOK_okW hw, Bool.true_and]
  refine decide_eq_true ?_
  rw [BitVec.le_def]
  rcases wOK_cases hw with rfl | rfl
  · have e : (maskF 32).toNat = 4294967295 := by decide
    have e2 : pw 32 = 4294967296 := by decide
    rw [e]; omega
  · have e : (maskF 64).toNat = 18446744073709551615 := by decide
    have := a.isLt
    rw [e]; omega
theorem fit_in {w : Int} (hw : wOK w = true) {a : BitVec 64} (h : fitF w a = true) : inF w a = true := by
  have h2 := (fitF_nat h).2
  rw [in_iff hw]
  rcases wOK_cases hw with rfl | rfl
  · have e2 : pw 32 = 4294967296 := by decide
    show a.toNat < 4294967296
    omega
  · exact a.isLt
theorem may_in {f t : Int} {a : BitVec 64} (hf : fitF f a = true) (h1 : wOK f = true) (h2 : wOK t = true) : mayC f t a = true := by
  have hi := fit_in h1 hf
  unfold inF at hi
  rw [Bool.and_eq_true] at hi
  have e : mayC f t a = (wOK f && wOK t && fiW f a) := rfl
  rw [e, h1, h2, hi.2]; rfl
theorem may_one {w : Int} {a : BitVec 64} (h : fitF w a = true) : mayF w [a] = true := by
  unfold fitF at h
  unfold mayF
  simp only [List.all_cons, List.all_nil, Bool.and_true]
  exact h
theorem may_two {w : Int} {a b : BitVec 64} (ha : fitF w a = true) (hb : fitF w b = true) : mayF w [a, b] = true := by
  unfold fitF at ha hb
  rw [Bool.and_eq_true] at ha hb
  unfold mayF
  simp only [List.all_cons, List.all_nil, Bool.and_true, ha.1, ha.2, hb.2, Bool.and_self]
theorem sgn_pos {w : Int} {a : BitVec 64} (h : 2 * (a.toNat : Int) < pw w) : sgnF w a = (a.toNat : Int) := by unfold sgnF; rw [if_pos h]
theorem flt_I (t n : Int) : fltV t n = flI t n := rfl
end Go.L05d
