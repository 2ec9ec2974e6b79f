/-
  Part of the proof; what its functions and lemmas say stands in the text.
-/
import Derived.Test.YtimaanpcglbnpaaDoorF08C
import Derived.Test.YtimaanpcglbnpaaDoorFl9
set_option linter.unusedSimpArgs false
set_option linter.unusedVariables false
/-!
Chapter 04: the statements' own helpers; signs.
-/
namespace Go.L08F
open Go.Ev Go.Proofs Go.RowKit Go.Wh Go.Fl
open Go.L08

noncomputable def widG (W : BitVec 8 → Int) : Ev.Spec := joined fun | [.u8 n] => some (.i .i64 (W n)) | _ => none
noncomputable def lofG (O : Int → BitVec 64 → BitVec 64) : Ev.Spec := joined fun | [.i .i64 w, .u64 a] => some (.u64 (O w a)) | _ => none
def widF (n : BitVec 8) : Int := IntKind.i64.wrap (32 * 2 ^ min (BitVec.setWidth 64 (n % BitVec.ofInt 8 2)).toNat IntKind.i64.bits)
theorem ok_wid (n : BitVec 8) : wOK (widF n) = true := by
  revert n; decide +kernel
def lofF (w : Int) (a : BitVec 64) : BitVec 64 := a &&& maskF w
theorem in_lof {w : Int} (h : wOK w = true) (a : BitVec 64) : inF w (lofF w a) = true := by
  rcases wOK_cases h with rfl | rfl
  · refine in32 ?_
    unfold lofF
    rw [BitVec.toNat_and]
    have : (maskF 32).toNat = 4294967295 := by decide
    rw [this]
    exact Nat.lt_of_le_of_lt Nat.and_le_right (by decide)
  · rfl
theorem in_wl (n : BitVec 8) (a : BitVec 64) : inF (widF n) (lofF (widF n) a) = true := in_lof (ok_wid n) a
theorem ma_in {w : Int} {a b : BitVec 64} (ha : inF w a = true) (hb : inF w b = true) : maW w [a, b] = true := by rw [maW2', ha, hb]; rfl
noncomputable def thBG (V : CV) : Ev.Spec := joined fun | [.u8 o, .i .i64 w, .u64 a, .u64 b] => some (.bool (V o w a b)) | _ => none
noncomputable def twBG (V : WV) : Ev.Spec := joined fun | [.u8 o, .i .i64 w, .u64 a, .u64 b] => some (.u64 (V o w a b)) | _ => none
noncomputable def noBG (V : Int → BitVec 64 → Bool) : Ev.Spec := joined fun | [.i .i64 w, .u64 a] => some (.bool (V w a)) | _ => none
/-! signs -/
def sgV (o : BitVec 8) (w : Int) (a : BitVec 64) : BitVec 64 := if (o == 10#8) = true then a &&& ~~~(sgW w) else a ^^^ sgW w
def sgO (o : BitVec 8) (w : Int) (a : BitVec 64) : Bool := (o == 10#8 || o == 11#8) && inF w a
noncomputable def oneS : Ev.Spec := guarded fun | [.u8 o, .i .i64 w, .u64 a] => some (sgO o w a, .tup [.u64 (sgV o w a), .i .i64 0]) | _ => none
def onT (m c n : Bool) (x : BitVec 64) : Option D := if (!m) = true then some (.tup [.u64 0#64, .i .i64 2]) else if c = true then if n = true then okT x else okT x else none
theorem nf_one10 (M : Int → List (BitVec 64) → Bool) (C N : Int → BitVec 64 → Bool) (X : Int → BitVec 64 → Nat) (S : Int → BitVec 64) (w : Int) (a : BitVec 64) : ex [(58, fmayG M), (59, ofG C N X), (66, sigG S)] (fun _ => []) Tryd.f55 [.u8 10#8, .i .i64 w, .u64 a] some = onT (M w [a]) (C w a) (N w a) (a &&& ~~~(S w)) := by kernel_rfl
theorem nf_one11 (M : Int → List (BitVec 64) → Bool) (C N : Int → BitVec 64 → Bool) (X : Int → BitVec 64 → Nat) (S : Int → BitVec 64) (w : Int) (a : BitVec 64) : ex [(58, fmayG M), (59, ofG C N X), (66, sigG S)] (fun _ => []) Tryd.f55 [.u8 11#8, .i .i64 w, .u64 a] some = onT (M w [a]) (C w a) (N w a) (a ^^^ S w) := by kernel_rfl
theorem onT_ok {w : Int} {a x : BitVec 64} (h : inF w a = true) : onT (maW w [a]) (inF w a) (noW w a) x = okT x := by
  rw [maW1, h]
  unfold onT
  cases noW w a <;> rfl
theorem f_sgn : Snd 55 oneS := by
  refine Sound.guard (execFn_sound (ann := fun _ => []) (TableOK.cons f_may (TableOK.cons f_of (TableOK.cons f_sig TableOK.nil))) mixed Tryd.func55 (by kernel_rfl) 50) fun ds d h => ?_
  split at h
  · rename_i o w a
    simp only [Option.some.injEq, Prod.mk.injEq, sgO, Bool.and_eq_true, Bool.or_eq_true, beq_iff_eq] at h
    obtain ⟨⟨ho, hi⟩, rfl⟩ := h
    have hw := in_ok hi
    rcases ho with rfl | rfl
    · refine (nf_one10 _ _ _ _ _ w a).trans ((onT_ok hi).trans ?_)
      rw [sig_W hw]; rfl
    · refine (nf_one11 _ _ _ _ _ w a).trans ((onT_ok hi).trans ?_)
      rw [sig_W hw]; rfl
  · cases h
noncomputable def onBG (C : BitVec 8 → Int → BitVec 64 → Bool) (V : BitVec 8 → Int → BitVec 64 → BitVec 64) : Ev.Spec := guarded fun | [.u8 o, .i .i64 w, .u64 a] => some (C o w a, .u64 (V o w a)) | _ => none
noncomputable def onG (C : BitVec 8 → Int → BitVec 64 → Bool) (V : BitVec 8 → Int → BitVec 64 → BitVec 64) : Ev.Spec := guarded fun | [.u8 o, .i .i64 w, .u64 a] => some (C o w a, .tup [.u64 (V o w a), .i .i64 0]) | _ => none
end Go.L08F
