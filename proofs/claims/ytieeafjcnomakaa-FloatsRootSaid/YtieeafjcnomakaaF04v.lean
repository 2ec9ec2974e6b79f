/-
  Part of the proof; what its functions and lemmas say stands in the text.
-/
import Derived.Test.YtieeafjcnomakaaF04C
import Derived.Test.YtieeafjcnomakaaFl9
set_option linter.unusedSimpArgs false
set_option linter.unusedVariables false
/-!
Chapter 04: the statements' own helpers; signs.
-/
namespace Go.L04
open Go.Ev Go.Proofs Go.RowKit Go.Wh Go.Fl

noncomputable def widG (W : BitVec 8 → Int) : Ev.Spec := joined fun | [.u8 n] => some (.i .i64 (W n)) | _ => none
noncomputable def lofG (O : Int → BitVec 64 → BitVec 64) : Ev.Spec := joined fun | [.i .i64 w, .u64 a] => some (.u64 (O w a)) | _ => none
def widF (n : BitVec 8) : Int := IntKind.i64.wrap (32 * 2 ^ min (BitVec.setWidth 64 (n % BitVec.ofInt 8 2)).toNat IntKind.i64.bits)
theorem ok_wid (n : BitVec 8) : wOK (widF n) = true := by
  revert n; decide +kernel
theorem t_wid : Snd 20 (widG widF) := by
  refine Sound.join (execFn_sound (ann := fun _ => []) TableOK.nil mixed Try.func20 (by kernel_rfl) 50) fun ds d h => ?_
  split at h
  · cases h; kernel_rfl
  · cases h
def lofF (w : Int) (a : BitVec 64) : BitVec 64 := a &&& maskF w
theorem t_lof : Snd 21 (lofG lofF) := by
  refine Sound.join (execFn_sound (ann := fun _ => []) TableOK.nil mixed Try.func21 (by kernel_rfl) 50) fun ds d h => ?_
  split at h
  · cases h; kernel_rfl
  · cases h
theorem in_lof {w : Int} (h : wOK w = true) (a : BitVec 64) : inF w (lofF w a) = true := by
  rcases wOK_cases h with rfl | rfl
  · refine in32 ?_
    unfold lofF
    rw [BitVec.toNat_and]
    have : (maskF 32).toNat = 4294967295 := by decide
    rw [this]
    exact Nat.lt_of_le_of_lt Nat.and_le_right (by decide)
  · rfl
theorem in_wl (n : BitVec 8) (a : BitVec 64) : inF (widF n) (lofF (widF n) a) = true := in_lof (ok_wid n) a
theorem ma_in {w : Int} {a b : BitVec 64} (ha : inF w a = true) (hb : inF w b = true) : maW w [a, b] = true := by rw [maW2', ha, hb]; rfl
noncomputable def thBG (V : CV) : Ev.Spec := joined fun | [.u8 o, .i .i64 w, .u64 a, .u64 b] => some (.bool (V o w a b)) | _ => none
theorem nf_lthan (V : CV) (E : CE) (o : BitVec 8) (w : Int) (a b : BitVec 64) : ex [(16, thanG V E)] (fun _ => []) Try.f22 [.u8 o, .i .i64 w, .u64 a, .u64 b] some = some (.bool (V o w a b)) := by kernel_rfl
theorem l_than : Snd 22 (thBG fthV) := by
  refine Sound.join (execFn_sound (ann := fun _ => []) (TableOK.cons f_than TableOK.nil) mixed Try.func22 (by kernel_rfl) 50) fun ds d h => ?_
  split at h
  · cases h; exact nf_lthan _ _ _ _ _ _
  · cases h
noncomputable def twBG (V : WV) : Ev.Spec := joined fun | [.u8 o, .i .i64 w, .u64 a, .u64 b] => some (.u64 (V o w a b)) | _ => none
theorem nf_ltwo (V : WV) (E : CE) (o : BitVec 8) (w : Int) (a b : BitVec 64) : ex [(13, twoG V E)] (fun _ => []) Try.f23 [.u8 o, .i .i64 w, .u64 a, .u64 b] some = some (.u64 (V o w a b)) := by kernel_rfl
theorem l_two : Snd 23 (twBG ftwV) := by
  refine Sound.join (execFn_sound (ann := fun _ => []) (TableOK.cons f_two TableOK.nil) mixed Try.func23 (by kernel_rfl) 50) fun ds d h => ?_
  split at h
  · cases h; exact nf_ltwo _ _ _ _ _ _
  · cases h
noncomputable def noBG (V : Int → BitVec 64 → Bool) : Ev.Spec := joined fun | [.i .i64 w, .u64 a] => some (.bool (V w a)) | _ => none
theorem nf_lnone (V : Int → BitVec 64 → Bool) (E : Int → BitVec 64 → Int) (w : Int) (a : BitVec 64) : ex [(18, nonG V E)] (fun _ => []) Try.f24 [.i .i64 w, .u64 a] some = some (.bool (V w a)) := by kernel_rfl
theorem l_none : Snd 24 (noBG nonV) := by
  refine Sound.join (execFn_sound (ann := fun _ => []) (TableOK.cons f_none TableOK.nil) mixed Try.func24 (by kernel_rfl) 50) fun ds d h => ?_
  split at h
  · cases h; exact nf_lnone _ _ _ _
  · cases h
/-! signs -/
def sgV (o : BitVec 8) (w : Int) (a : BitVec 64) : BitVec 64 := if (o == 10#8) = true then a &&& ~~~(sgW w) else a ^^^ sgW w
def sgO (o : BitVec 8) (w : Int) (a : BitVec 64) : Bool := (o == 10#8 || o == 11#8) && inF w a
noncomputable def oneS : Ev.Spec := guarded fun | [.u8 o, .i .i64 w, .u64 a] => some (sgO o w a, .tup [.u64 (sgV o w a), .i .i64 0]) | _ => none
def onT (m c n : Bool) (x : BitVec 64) : Option D := if (!m) = true then some (.tup [.u64 0#64, .i .i64 2]) else if c = true then if n = true then okT x else okT x else none
theorem nf_one10 (M : Int → List (BitVec 64) → Bool) (C N : Int → BitVec 64 → Bool) (X : Int → BitVec 64 → Nat) (S : Int → BitVec 64) (w : Int) (a : BitVec 64) : ex [(29, fmayG M), (30, ofG C N X), (37, sigG S)] (fun _ => []) Try.f25 [.u8 10#8, .i .i64 w, .u64 a] some = onT (M w [a]) (C w a) (N w a) (a &&& ~~~(S w)) := by kernel_rfl
theorem nf_one11 (M : Int → List (BitVec 64) → Bool) (C N : Int → BitVec 64 → Bool) (X : Int → BitVec 64 → Nat) (S : Int → BitVec 64) (w : Int) (a : BitVec 64) : ex [(29, fmayG M), (30, ofG C N X), (37, sigG S)] (fun _ => []) Try.f25 [.u8 11#8, .i .i64 w, .u64 a] some = onT (M w [a]) (C w a) (N w a) (a ^^^ S w) := by kernel_rfl
theorem onT_ok {w : Int} {a x : BitVec 64} (h : inF w a = true) : onT (maW w [a]) (inF w a) (noW w a) x = okT x := by
  rw [maW1, h]
  unfold onT
  cases noW w a <;> rfl
theorem f_sgn : Snd 25 oneS := by
  refine Sound.guard (execFn_sound (ann := fun _ => []) (TableOK.cons f_may (TableOK.cons f_of (TableOK.cons f_sig TableOK.nil))) mixed Try.func25 (by kernel_rfl) 50) fun ds d h => ?_
  split at h
  · rename_i o w a
    simp only [Option.some.injEq, Prod.mk.injEq, sgO, Bool.and_eq_true, Bool.or_eq_true, beq_iff_eq] at h
    obtain ⟨⟨ho, hi⟩, rfl⟩ := h
    have hw := in_ok hi
    rcases ho with rfl | rfl
    · refine (nf_one10 _ _ _ _ _ w a).trans ((onT_ok hi).trans ?_)
      rw [sig_W hw]; rfl
    · refine (nf_one11 _ _ _ _ _ w a).trans ((onT_ok hi).trans ?_)
      rw [sig_W hw]; rfl
  · cases h
noncomputable def onBG (C : BitVec 8 → Int → BitVec 64 → Bool) (V : BitVec 8 → Int → BitVec 64 → BitVec 64) : Ev.Spec := guarded fun | [.u8 o, .i .i64 w, .u64 a] => some (C o w a, .u64 (V o w a)) | _ => none
noncomputable def onG (C : BitVec 8 → Int → BitVec 64 → Bool) (V : BitVec 8 → Int → BitVec 64 → BitVec 64) : Ev.Spec := guarded fun | [.u8 o, .i .i64 w, .u64 a] => some (C o w a, .tup [.u64 (V o w a), .i .i64 0]) | _ => none
theorem nf_lone (C : BitVec 8 → Int → BitVec 64 → Bool) (V : BitVec 8 → Int → BitVec 64 → BitVec 64) (o : BitVec 8) (w : Int) (a : BitVec 64) : ex [(25, onG C V)] (fun _ => []) Try.f27 [.u8 o, .i .i64 w, .u64 a] some = if C o w a = true then some (.u64 (V o w a)) else none := by kernel_rfl
theorem l_sgn : Snd 27 (onBG sgO sgV) := by
  have h1 : Snd 25 (onG sgO sgV) := f_sgn
  refine Sound.guard (execFn_sound (ann := fun _ => []) (TableOK.cons h1 TableOK.nil) mixed Try.func27 (by kernel_rfl) 50) fun ds d h => ?_
  split at h
  · rename_i o w a
    simp only [Option.some.injEq, Prod.mk.injEq] at h
    obtain ⟨hc, rfl⟩ := h
    refine (nf_lone _ _ o w a).trans ?_
    rw [hc]; rfl
  · cases h
end Go.L04
