/-
  Part of the proof; what its functions and lemmas say stands in the text.
-/
import Derived.Test.YtimaanpcglbnpaaDoorC08C
import Derived.Test.YtimaanpcglbnpaaDoorFlE
set_option linter.unusedSimpArgs false
set_option linter.unusedVariables false
/-!
Chapter 05: cuts, by the document.
-/
namespace Go.L08C
open Go.Ev Go.Proofs Go.RowKit Go.Wh Go.Fl
open Go.L08

/-! is it no number? -/
noncomputable abbrev lSgn : Ev.Spec := ex [] (fun _ => []) Tryd.f72
theorem s_sgn : Snd 72 lSgn := execFn_sound (ann := fun _ => []) TableOK.nil mixed Tryd.func72 (by kernel_rfl) 50
noncomputable abbrev lEnd : Ev.Spec := ex [] (fun _ => []) Tryd.f136
theorem s_end : Snd 136 lEnd := execFn_sound (ann := fun _ => []) TableOK.nil mixed Tryd.func136 (by kernel_rfl) 50
noncomputable def isG (C : Int → BitVec 64 → Bool) (F : Int → BitVec 64 → Bool) : Ev.Spec := guarded fun | [.i .i64 w, .u64 a] => some (C w a, .bool (F w a)) | _ => none
def okA (w : Int) (a : BitVec 64) : Bool := okC w && fitF w a
theorem nf_is32 (a : BitVec 64) : ex [(72, lSgn), (136, lEnd)] (fun _ => []) Tryd.f106 [.i .i64 32, .u64 a] some = some (.bool (decide (2139095040#64 < a &&& ~~~2147483648#64))) := by kernel_rfl
theorem nf_is64 (a : BitVec 64) : ex [(72, lSgn), (136, lEnd)] (fun _ => []) Tryd.f106 [.i .i64 64, .u64 a] some = some (.bool (decide (9218868437227405312#64 < a &&& ~~~9223372036854775808#64))) := by kernel_rfl
/-- Without the highest bit. -/
theorem clr_bit {k : Nat} (hk : k < 64) {a : BitVec 64} (ha : a.toNat < 2 ^ (k + 1)) : (a &&& ~~~(BitVec.twoPow 64 k)).toNat = a.toNat % 2 ^ k := by
  have e : a &&& ~~~(BitVec.twoPow 64 k) = a &&& BitVec.ofNat 64 (2 ^ k - 1) := by
    apply BitVec.eq_of_getLsbD_eq
    intro i hi
    rw [BitVec.getLsbD_and, BitVec.getLsbD_and, BitVec.getLsbD_not, BitVec.getLsbD_twoPow, BitVec.getLsbD_ofNat]
    have t : (2 ^ k - 1).testBit i = decide (i < k) := Nat.testBit_two_pow_sub_one k i
    rw [t]
    rcases Nat.lt_trichotomy i k with h | h | h
    · simp [hi, h, Nat.ne_of_gt h]
    · subst h; simp [hi]
    · have : a.getLsbD i = false := Nat.testBit_lt_two_pow (Nat.lt_of_lt_of_le ha (Nat.pow_le_pow_right (by decide) h))
      simp [this]
  rw [e, BitVec.toNat_and, BitVec.toNat_ofNat, Nat.mod_eq_of_lt (a := 2 ^ k - 1) (by have := Nat.pow_lt_pow_right (a := 2) (by decide) hk; omega), Nat.and_two_pow_sub_one_eq_mod]
theorem rg_W {w : Int} (hw : okC w = true) {a : BitVec 64} (ha : fitF w a = true) : (w = 32 → (a &&& ~~~2147483648#64).toNat = rg (fmtW w) a.toNat ∧ a.toNat < 4294967296) ∧ (w = 64 → (a &&& ~~~9223372036854775808#64).toNat = rg (fmtW w) a.toNat) := by
  have h1 := (fitF_nat ha).2
  refine ⟨fun h => ?_, fun h => ?_⟩
  · subst h
    rw [pw32] at h1
    have h2 : a.toNat < 4294967296 := by omega
    exact ⟨clr_bit (k := 31) (by decide) (a := a) h2, h2⟩
  · subst h
    exact clr_bit (k := 63) (by decide) (a := a) a.isLt
theorem t_Is : Snd 106 (isG okA isNW) := by
  refine Sound.guard (execFn_sound (ann := fun _ => []) (TableOK.cons s_sgn (TableOK.cons s_end TableOK.nil)) mixed Tryd.func106 (by kernel_rfl) 50) fun ds d h => ?_
  split at h
  · rename_i w a
    simp only [Option.some.injEq, Prod.mk.injEq, okA, Bool.and_eq_true] at h
    obtain ⟨⟨hw, ha⟩, rfl⟩ := h
    obtain ⟨r32, r64⟩ := rg_W hw ha
    rcases okC_cases hw with rfl | rfl
    · refine (nf_is32 a).trans ?_
      congr 2
      refine decide_eq_decide.2 ?_
      rw [BitVec.lt_def, (r32 rfl).1]
      exact Iff.rfl
    · refine (nf_is64 a).trans ?_
      congr 2
      refine decide_eq_decide.2 ?_
      rw [BitVec.lt_def, r64 rfl]
      exact Iff.rfl
  · cases h

/-! a float's parts -/
noncomputable def partG (G : Int → BitVec 64 → Bool) (A : Int → BitVec 64 → Bool) (B : Int → BitVec 64 → BitVec 64) (C : Int → BitVec 64 → Int) (E : Int → BitVec 64 → Bool) : Ev.Spec := guarded fun | [.i .i64 w, .u64 a] => some (G w a, .tup [.bool (A w a), .u64 (B w a), .i .i64 (C w a), .bool (E w a)]) | _ => none
def ngW (w : Int) (a : BitVec 64) : Bool := ng (fmtW w) a.toNat
def mgW (w : Int) (a : BitVec 64) : BitVec 64 := ifF (finW w a) (BitVec.ofNat 64 (mg (fmtW w) a.toNat))
def plW (w : Int) (a : BitVec 64) : Int := if finW w a = true then pl (fmtW w) a.toNat else 0
/-- What the text does: d bits of fraction, e of exponent. -/
def partT (d e : Nat) (em fm im : BitVec 64) (ev b : Int) (a : BitVec 64) : Option D :=
  if (sOfU .i64 (a >>> d &&& em) == ev) = true then some (.tup [.bool (a >>> (d + e) &&& 1#64 == 1#64), .u64 0#64, .i .i64 0, .bool false]) else
  if (sOfU .i64 (a >>> d &&& em) == 0) = true then some (.tup [.bool (a >>> (d + e) &&& 1#64 == 1#64), .u64 (a &&& fm), .i .i64 (1 - b - d), .bool true]) else
  some (.tup [.bool (a >>> (d + e) &&& 1#64 == 1#64), .u64 (a &&& fm ||| im), .i .i64 (IntKind.i64.wrap (IntKind.i64.wrap (sOfU .i64 (a >>> d &&& em) - b) - d)), .bool true])
theorem nf_part32 (a : BitVec 64) : ex [(110, formS)] (fun _ => []) Tryd.f109 [.i .i64 32, .u64 a] some = partT 23 8 255#64 8388607#64 8388608#64 255 127 a := by kernel_rfl
theorem nf_part64 (a : BitVec 64) : ex [(110, formS)] (fun _ => []) Tryd.f109 [.i .i64 64, .u64 a] some = partT 52 11 2047#64 4503599627370495#64 4503599627370496#64 2047 1023 a := by kernel_rfl
theorem part_eq {f : Ieee.Format} {d e : Nat} {em fm im : BitVec 64} {ev b : Int} (hd : f.fractionBits = d) (he : f.exponentBits = e) (hem : em.toNat = 2 ^ e - 1) (hfm : fm.toNat = 2 ^ d - 1) (him : im.toNat = 2 ^ d) (hev : ev = ((2 ^ e - 1 : Nat) : Int)) (hl : f.leastPlace = 1 - b - d)
    (hde : d + e ≤ 63) (hb0 : 0 ≤ b) (hb1 : b ≤ 1023) (he1 : e ≤ 11) (h1e : 1 ≤ e) {a : BitVec 64} (ha : a.toNat < 2 ^ (d + e + 1)) :
    partT d e em fm im ev b a = some (.tup [.bool (ng f a.toNat), .u64 (ifF (fin f a.toNat) (BitVec.ofNat 64 (mg f a.toNat))), .i .i64 (if fin f a.toNat = true then pl f a.toNat else 0), .bool (fin f a.toNat)]) := by
  have hB : f.binade = 2 ^ d := by rw [← hd]; rfl
  have hS : f.signWeight = 2 ^ e * 2 ^ d := by rw [← hd, ← he, ← pow_add]; rfl
  have hI : f.infRung = (2 ^ e - 1) * 2 ^ d := by rw [← hd, ← he]; rfl
  have hp := two_pos d
  have hpe := two_pos e
  have he2 : 2 ^ e ≤ 2 ^ 11 := Nat.pow_le_pow_right (by decide) he1
  have hde2 : (2 : Nat) ^ (d + e) = 2 ^ e * 2 ^ d := by rw [pow_add, Nat.mul_comm]
  -- the field
  have hdiv : (a >>> d).toNat = a.toNat / 2 ^ d := by rw [BitVec.toNat_ushiftRight, Nat.shiftRight_eq_div_pow]
  have hfield : (a >>> d &&& em).toNat = rg f a.toNat / 2 ^ d := by
    rw [BitVec.toNat_and, hdiv, hem, Nat.and_two_pow_sub_one_eq_mod]
    unfold rg
    rw [hS, Nat.mul_comm (2 ^ e), Nat.mod_mul_right_div_self]
  have hfl : rg f a.toNat / 2 ^ d < 2 ^ e := by
    rw [Nat.div_lt_iff_lt_mul hp]
    have := rg_lt f a.toNat
    rw [hS] at this
    exact this
  have hs : sOfU .i64 (a >>> d &&& em) = ((rg f a.toNat / 2 ^ d : Nat) : Int) := by
    rw [sOfU64, toInt64, hfield, if_pos (by omega)]
  have hfrac : (a &&& fm).toNat = rg f a.toNat % 2 ^ d := by
    rw [BitVec.toNat_and, hfm, Nat.and_two_pow_sub_one_eq_mod]
    unfold rg
    rw [hS, Nat.mod_mod_of_dvd _ (Nat.dvd_mul_left _ _)]
  have hng : (a >>> (d + e) &&& 1#64 == 1#64) = ng f a.toNat := by
    unfold ng
    rw [hS, ← hde2]
    have e1 : (a >>> (d + e) &&& 1#64).toNat = a.toNat / 2 ^ (d + e) % 2 := by
      rw [BitVec.toNat_and, BitVec.toNat_ushiftRight, Nat.shiftRight_eq_div_pow]
      exact Nat.and_two_pow_sub_one_eq_mod _ 1
    rw [Bool.eq_iff_iff, beq_iff_eq, beq_iff_eq]
    constructor
    · intro h; rw [← e1, h]; rfl
    · intro h; apply BitVec.eq_of_toNat_eq; rw [e1, h]; rfl
  have hrd := Nat.div_add_mod (rg f a.toNat) (2 ^ d)
  have hml := Nat.mod_lt (rg f a.toNat) hp
  unfold partT
  rw [hng, hs, hev]
  by_cases h1 : rg f a.toNat / 2 ^ d = 2 ^ e - 1
  · have hfin : fin f a.toNat = false := by
      refine decide_eq_false ?_
      rw [hI]
      have : 2 ^ d * (rg f a.toNat / 2 ^ d) = 2 ^ d * (2 ^ e - 1) := by rw [h1]
      rw [Nat.mul_comm (2 ^ e - 1)]
      omega
    rw [if_pos (by rw [h1]; exact beq_self_eq_true _), hfin]
    rfl
  · rw [if_neg (by simp only [beq_iff_eq]; omega)]
    have hfin : fin f a.toNat = true := by
      refine decide_eq_true ?_
      rw [hI]
      have : rg f a.toNat / 2 ^ d + 1 ≤ 2 ^ e - 1 := by omega
      have h2 : (rg f a.toNat / 2 ^ d + 1) * 2 ^ d ≤ (2 ^ e - 1) * 2 ^ d := Nat.mul_le_mul_right _ this
      rw [Nat.add_mul, Nat.mul_comm (rg f a.toNat / 2 ^ d)] at h2
      omega
    rw [hfin]
    by_cases h0 : rg f a.toNat / 2 ^ d = 0
    · have hlt : rg f a.toNat < 2 ^ d := by rw [h0, Nat.mul_zero] at hrd; omega
      rw [if_pos (by rw [h0]; exact beq_self_eq_true _)]
      have e1 : mg f a.toNat = rg f a.toNat := by unfold mg mag; rw [hB, if_pos hlt]
      have e2 : pl f a.toNat = 1 - b - d := by unfold pl up; rw [hB, if_pos hlt, hl]; omega
      have e3 : a &&& fm = BitVec.ofNat 64 (mg f a.toNat) := by
        apply BitVec.eq_of_toNat_eq
        rw [hfrac, BitVec.toNat_ofNat, e1, Nat.mod_eq_of_lt hlt, Nat.mod_eq_of_lt]
        have : 2 ^ d ≤ 2 ^ 63 := Nat.pow_le_pow_right (by decide) (by omega)
        omega
      rw [e3, e2]; rfl
    · have hge : ¬ rg f a.toNat < 2 ^ d := by
        intro h
        exact h0 (Nat.div_eq_of_lt h)
      rw [if_neg (by simp only [beq_iff_eq]; omega)]
      have e1 : mg f a.toNat = 2 ^ d + rg f a.toNat % 2 ^ d := by unfold mg mag; rw [hB, if_neg hge]
      have e2 : pl f a.toNat = 1 - b - d + ((rg f a.toNat / 2 ^ d - 1 : Nat) : Int) := by unfold pl up; rw [hB, if_neg hge, hl]
      have e3 : a &&& fm ||| im = BitVec.ofNat 64 (mg f a.toNat) := by
        apply BitVec.eq_of_toNat_eq
        rw [BitVec.or_comm, or_two d him (by rw [hfrac]; exact hml), hfrac, him, BitVec.toNat_ofNat, e1, Nat.mod_eq_of_lt (a := 2 ^ d + rg f a.toNat % 2 ^ d)]
        have : 2 ^ d ≤ 2 ^ 62 := Nat.pow_le_pow_right (by decide) (by omega)
        omega
      have e4 : IntKind.i64.wrap (IntKind.i64.wrap (((rg f a.toNat / 2 ^ d : Nat) : Int) - b) - d) = pl f a.toNat := by
        rw [wrap_in (n := _ - b) (by omega) (by omega), wrap_in (by omega) (by omega), e2]
        omega
      rw [e3, e4]; rfl
theorem t_parts : Snd 109 (partG okA ngW mgW plW finW) := by
  refine Sound.guard (execFn_sound (ann := fun _ => []) (TableOK.cons t_form TableOK.nil) mixed Tryd.func109 (by kernel_rfl) 50) fun ds d h => ?_
  split at h
  · rename_i w a
    simp only [Option.some.injEq, Prod.mk.injEq, okA, Bool.and_eq_true] at h
    obtain ⟨⟨hw, ha⟩, rfl⟩ := h
    obtain ⟨r32, _⟩ := rg_W hw ha
    rcases okC_cases hw with rfl | rfl
    · exact (nf_part32 a).trans (part_eq (f := Ieee.single) (d := 23) (e := 8) rfl rfl (by decide) (by decide) (by decide) (by decide) (by decide) (by decide) (by decide) (by decide) (by decide) (by decide) (r32 rfl).2)
    · exact (nf_part64 a).trans (part_eq (f := Ieee.double) (d := 52) (e := 11) rfl rfl (by decide) (by decide) (by decide) (by decide) (by decide) (by decide) (by decide) (by decide) (by decide) (by decide) a.isLt)
  · cases h

/-! a number times a power of two, cut -/
def whN (m : Nat) (e : Int) : Nat := m * 2 ^ e.toNat / 2 ^ (-e).toNat
noncomputable def wholS : Ev.Spec := guarded fun | [.u64 m, .i .i64 e] => some (decide (-1500 ≤ e ∧ e ≤ 1500), .tup [.u64 (if whN m.toNat e < 2 ^ 64 then BitVec.ofNat 64 (whN m.toNat e) else m <<< (min e 63).toNat), .bool (decide (whN m.toNat e < 2 ^ 64))]) | _ => none
def wholT (m : BitVec 64) (e Z : Int) : Option D :=
  if (m == 0#64) = false then if decide (e ≤ -64) = true then some (.tup [.u64 0#64, .bool true]) else
    if decide (e ≤ 0) = true then some (.tup [.u64 (m >>> (BitVec.ofInt 64 (IntKind.i64.wrap (0 - e))).toNat), .bool true]) else
    some (.tup [.u64 (m <<< (BitVec.ofInt 64 (mn63 e)).toNat), .bool (decide (IntKind.i64.wrap (Z + e) ≤ 64))])
  else some (.tup [.u64 0#64, .bool true])
theorem nf_whol (Z : BitVec 64 → Int) (m : BitVec 64) (e : Int) : ex [(114, szG Z)] (fun _ => []) Tryd.f112 [.u64 m, .i .i64 e] some = wholT m e (Z m) := by kernel_rfl
theorem whol_eq (m : BitVec 64) {e : Int} (h0 : -1500 ≤ e) (h1 : e ≤ 1500) : wholT m e (szF m.toNat : Int) = some (.tup [.u64 (if whN m.toNat e < 2 ^ 64 then BitVec.ofNat 64 (whN m.toNat e) else m <<< (min e 63).toNat), .bool (decide (whN m.toNat e < 2 ^ 64))]) := by
  have hlt := m.isLt
  unfold wholT
  by_cases hm : m = 0#64
  · subst hm
    have : whN (0#64).toNat e = 0 := by
      unfold whN
      have z : (0#64).toNat = 0 := rfl
      rw [z, Nat.zero_mul, Nat.zero_div]
    rw [this]
    simp
  · rw [if_pos (by simpa using hm)]
    have hm0 : m.toNat ≠ 0 := fun h => hm (BitVec.eq_of_toNat_eq h)
    by_cases h2 : e ≤ -64
    · rw [if_pos (decide_eq_true h2)]
      have : whN m.toNat e = 0 := by
        unfold whN
        have z : e.toNat = 0 := by omega
        rw [z, Nat.pow_zero, Nat.mul_one]
        refine Nat.div_eq_of_lt (Nat.lt_of_lt_of_le hlt (Nat.pow_le_pow_right (by decide) (by omega)))
      rw [this]
      simp
    · rw [if_neg (by simpa using h2)]
      by_cases h3 : e ≤ 0
      · rw [if_pos (decide_eq_true h3), wrap_in (by omega) (by omega), ofInt_small (by omega) (by omega)]
        have e1 : whN m.toNat e = m.toNat / 2 ^ (0 - e).toNat := by
          unfold whN
          have z : e.toNat = 0 := by omega
          have z2 : (-e).toNat = (0 - e).toNat := by omega
          rw [z, Nat.pow_zero, Nat.mul_one, z2]
        have e2 : whN m.toNat e < 2 ^ 64 := by rw [e1]; exact Nat.lt_of_le_of_lt (Nat.div_le_self _ _) hlt
        rw [if_pos e2, decide_eq_true e2, e1]
        congr 4
        apply BitVec.eq_of_toNat_eq
        rw [BitVec.toNat_ushiftRight, Nat.shiftRight_eq_div_pow, BitVec.toNat_ofNat, Nat.mod_eq_of_lt (by rw [← e1]; exact e2)]
      · rw [if_neg (by simpa using h3)]
        obtain ⟨k, hk⟩ : ∃ k : Nat, e = (k : Int) := ⟨e.toNat, by omega⟩
        have e1 : whN m.toNat e = m.toNat * 2 ^ k := by
          unfold whN
          have z : (-e).toNat = 0 := by omega
          have z2 : e.toNat = k := by omega
          rw [z, Nat.pow_zero, Nat.div_one, z2]
        have hZ : szF m.toNat = m.toNat.log2 + 1 := by unfold szF; rw [if_neg hm0]
        have h64 : m.toNat.log2 < 64 := (Nat.log2_lt hm0).2 hlt
        have hL1 := Nat.log2_self_le hm0
        have hL2 := @Nat.lt_log2_self m.toNat
        have key : IntKind.i64.wrap ((szF m.toNat : Int) + e) ≤ 64 ↔ whN m.toNat e < 2 ^ 64 := by
          rw [wrap_in (by omega) (by omega), e1, hZ]
          constructor
          · intro h
            have : m.toNat * 2 ^ k < 2 ^ (m.toNat.log2 + 1) * 2 ^ k := Nat.mul_lt_mul_of_pos_right hL2 (two_pos _)
            rw [← pow_add] at this
            exact Nat.lt_of_lt_of_le this (Nat.pow_le_pow_right (by decide) (by omega))
          · intro h
            have : 2 ^ m.toNat.log2 * 2 ^ k ≤ m.toNat * 2 ^ k := Nat.mul_le_mul_right _ hL1
            rw [← pow_add] at this
            have h5 : 2 ^ (m.toNat.log2 + k) < 2 ^ 64 := Nat.lt_of_le_of_lt this h
            have := (Nat.pow_lt_pow_iff_right (by decide : 1 < 2)).1 h5
            omega
        have hmn : (BitVec.ofInt 64 (mn63 e)).toNat = (min e 63).toNat := by
          unfold mn63
          split
          · rw [ofInt_small (by omega) (by omega)]; omega
          · rw [ofInt_small (by omega) (by omega)]; omega
        rw [decide_eq_decide.2 key, hmn]
        congr 4
        by_cases h6 : whN m.toNat e < 2 ^ 64
        · rw [if_pos h6]
          apply BitVec.eq_of_toNat_eq
          have : k ≤ 63 := by
            rcases Nat.lt_or_ge 63 k with h | h
            · exfalso
              rw [e1] at h6
              have h7 : 2 ^ 64 ≤ 2 ^ k := Nat.pow_le_pow_right (by decide) h
              have : 1 * 2 ^ k ≤ m.toNat * 2 ^ k := Nat.mul_le_mul_right _ (by omega)
              omega
            · exact h
          have z : (min e 63).toNat = k := by omega
          rw [z, BitVec.toNat_shiftLeft, Nat.shiftLeft_eq, BitVec.toNat_ofNat, e1]
        · rw [if_neg h6]
theorem t_whol : Snd 112 wholS := by
  refine Sound.guard (execFn_sound (ann := fun _ => []) (TableOK.cons t_size TableOK.nil) mixed Tryd.func112 (by kernel_rfl) 50) fun ds d h => ?_
  split at h
  · rename_i m e
    simp only [Option.some.injEq, Prod.mk.injEq, decide_eq_true_eq] at h
    obtain ⟨⟨h0, h1⟩, rfl⟩ := h
    exact (nf_whol _ m e).trans (whol_eq m h0 h1)
  · cases h

/-! the greatest -/
noncomputable def mstG (C : Int → Bool) (M : Int → Bool → Bool → BitVec 64) : Ev.Spec := guarded fun | [.i .i64 t, .bool s, .bool n] => some (C t, .u64 (M t s n)) | _ => none
def mstV (t : Int) (s n : Bool) : BitVec 64 := BitVec.ofNat 64 (bnd t s n)
theorem nf_mst (M : Int → BitVec 64) (t : Int) (s n : Bool) : ex [(38, mostG M)] (fun _ => []) Tryd.f113 [.i .i64 t, .bool s, .bool n] some =
  if (!s) = true then if n = true then some (.u64 0#64) else if (!s) = true then some (.u64 (M t)) else if n = true then some (.u64 (M t / 2#64 + 1#64)) else some (.u64 (M t / 2#64))
  else if (!s) = true then some (.u64 (M t)) else if n = true then some (.u64 (M t / 2#64 + 1#64)) else some (.u64 (M t / 2#64)) := by kernel_rfl
theorem t_mst : Snd 113 (mstG okC mstV) := by
  refine Sound.guard (execFn_sound (ann := fun _ => []) (TableOK.cons m_Most TableOK.nil) mixed Tryd.func113 (by kernel_rfl) 50) fun ds d h => ?_
  split at h
  · rename_i t s n
    simp only [Option.some.injEq, Prod.mk.injEq] at h
    obtain ⟨ht, rfl⟩ := h
    refine (nf_mst maskF t s n).trans ?_
    rcases okC_cases ht with rfl | rfl <;> cases s <;> cases n <;> kernel_rfl
  · cases h

/-! cuts -/
noncomputable def rcutS : Ev.Spec := guarded fun | [.i .i64 f, .i .i64 t, .bool s, .u64 a] => some (mayC f t a, .tup [.u64 (hldV f t s a), .bool (fitV f t s a)]) | _ => none
noncomputable def wholG (C : BitVec 64 → Int → Bool) (N : BitVec 64 → Int → BitVec 64) (F : BitVec 64 → Int → Bool) : Ev.Spec := guarded fun | [.u64 m, .i .i64 e] => some (C m e, .tup [.u64 (N m e), .bool (F m e)]) | _ => none
def whU (m : BitVec 64) (e : Int) : BitVec 64 := if whN m.toNat e < 2 ^ 64 then BitVec.ofNat 64 (whN m.toNat e) else m <<< (min e 63).toNat
def whB (m : BitVec 64) (e : Int) : Bool := decide (whN m.toNat e < 2 ^ 64)
theorem g_whol : Snd 112 (wholG (fun _ e => decide (-1500 ≤ e ∧ e ≤ 1500)) whU whB) := t_whol
def rcutT (I w1 w2 ok fit big : Bool) (a b : BitVec 64) : Option D :=
  if w1 = true then if I = true then some (.tup [.u64 0#64, .bool false]) else
    if w2 = true then if (!ok) = false then if (!fit) = false then if big = true then some (.tup [.u64 a, .bool false]) else some (.tup [.u64 b, .bool true]) else some (.tup [.u64 a, .bool false]) else some (.tup [.u64 a, .bool false]) else none
  else none
theorem nf_rcut (G I A' : Int → BitVec 64 → Bool) (B : Int → BitVec 64 → BitVec 64) (C : Int → BitVec 64 → Int) (E : Int → BitVec 64 → Bool) (Cw : BitVec 64 → Int → Bool) (N : BitVec 64 → Int → BitVec 64) (F : BitVec 64 → Int → Bool) (Ct : Int → Bool) (M : Int → Bool → Bool → BitVec 64) (V : Int → Bool → BitVec 64 → BitVec 64) (f t : Int) (s : Bool) (a : BitVec 64) :
    ex [(106, isG G I), (109, partG G A' B C E), (112, wholG Cw N F), (113, mstG Ct M), (85, numG V)] (fun _ => []) Tryd.f82 [.i .i64 f, .i .i64 t, .bool s, .u64 a] some =
  if G f a = true then if I f a = true then some (.tup [.u64 0#64, .bool false]) else if G f a = true then if Cw (B f a) (C f a) = true then if Ct t = true then
    if (!E f a) = false then if (!F (B f a) (C f a)) = false then if decide (M t s (A' f a) < N (B f a) (C f a)) = true then some (.tup [.u64 (V t (A' f a) (M t s (A' f a))), .bool false])
      else some (.tup [.u64 (V t (A' f a) (N (B f a) (C f a))), .bool true]) else some (.tup [.u64 (V t (A' f a) (M t s (A' f a))), .bool false]) else some (.tup [.u64 (V t (A' f a) (M t s (A' f a))), .bool false])
  else none else none else none else none := by kernel_rfl
theorem pl_range {w : Int} (hw : okC w = true) (a : BitVec 64) : -1500 ≤ plW w a ∧ plW w a ≤ 1500 := by
  unfold plW
  split
  · rename_i h
    have hr := of_decide_eq_true h
    have hu := up_lt hr
    unfold pl
    rcases okC_cases hw with rfl | rfl
    · have e : Ieee.single.leastPlace = -149 := single_least
      have e2 : (2 ^ Ieee.single.exponentBits - 1 : Nat) = 255 := by decide
      change up Ieee.single (rg Ieee.single a.toNat) + 2 ≤ 2 ^ Ieee.single.exponentBits - 1 ∨ _ at hu
      show -1500 ≤ Ieee.single.leastPlace + (up Ieee.single (rg Ieee.single a.toNat) : Int) ∧ Ieee.single.leastPlace + (up Ieee.single (rg Ieee.single a.toNat) : Int) ≤ 1500
      rw [e]
      rcases hu with hu | hu
      · rw [e2] at hu; omega
      · have hu' : up Ieee.single (rg Ieee.single a.toNat) = 0 := hu
        omega
    · have e : Ieee.double.leastPlace = -1074 := double_least
      have e2 : (2 ^ Ieee.double.exponentBits - 1 : Nat) = 2047 := by decide
      change up Ieee.double (rg Ieee.double a.toNat) + 2 ≤ 2 ^ Ieee.double.exponentBits - 1 ∨ _ at hu
      show -1500 ≤ Ieee.double.leastPlace + (up Ieee.double (rg Ieee.double a.toNat) : Int) ∧ Ieee.double.leastPlace + (up Ieee.double (rg Ieee.double a.toNat) : Int) ≤ 1500
      rw [e]
      rcases hu with hu | hu
      · rw [e2] at hu; omega
      · have hu' : up Ieee.double (rg Ieee.double a.toNat) = 0 := hu
        omega
  · omega
theorem mg_small (w : Int) (a : BitVec 64) : mg (fmtW w) a.toNat < 2 ^ 63 := by
  have := mg_lt (fmtW w) a.toNat
  have : 2 * (fmtW w).binade ≤ 2 ^ 63 := by
    unfold fmtW
    split <;> decide
  omega
theorem wh_parts {w : Int} {a : BitVec 64} (h : finW w a = true) : whN (mgW w a).toNat (plW w a) = wh (fmtW w) a.toNat := by
  have hm := mg_small w a
  have e1 : (mgW w a).toNat = mg (fmtW w) a.toNat := by
    unfold mgW ifF
    rw [if_pos h, BitVec.toNat_ofNat, Nat.mod_eq_of_lt (by omega)]
  have e2 : plW w a = pl (fmtW w) a.toNat := by unfold plW; rw [if_pos h]
  rw [e1, e2]
  exact (sc_div _ (pl_ge (two_W w) a.toNat)).symm
theorem bnd_lt (t : Int) (s n : Bool) : bnd t s n < 2 ^ 64 := by
  unfold bnd
  cases s <;> cases n <;> simp <;> split <;> omega
theorem t_rcut : Snd 82 rcutS := by
  refine Sound.guard (execFn_sound (ann := fun _ => []) (TableOK.cons t_Is (TableOK.cons t_parts (TableOK.cons g_whol (TableOK.cons t_mst (TableOK.cons t_num TableOK.nil))))) mixed Tryd.func82 (by kernel_rfl) 50) fun ds d h => ?_
  split at h
  · rename_i f t s a
    simp only [Option.some.injEq, Prod.mk.injEq] at h
    obtain ⟨hm, rfl⟩ := h
    obtain ⟨hf, ht, ha⟩ := mayC_fit hm
    refine (nf_rcut _ _ _ _ _ _ _ _ _ _ _ _ f t s a).trans ?_
    have hA : okA f a = true := by unfold okA; rw [hf, ha]; rfl
    obtain ⟨p1, p2⟩ := pl_range hf a
    have hW : decide (-1500 ≤ plW f a ∧ plW f a ≤ 1500) = true := decide_eq_true ⟨p1, p2⟩
    simp only [hA, hW, ht, if_true]
    cases hn : isNW f a
    · simp only [Bool.false_eq_true, if_false]
      cases hfin : finW f a
      · have hk : fitV f t s a = false := by unfold fitV; rw [hfin]; rfl
        have hv : hldV f t s a = numV t (ngW f a) (mstV t s (ngW f a)) := by unfold hldV; rw [hn, hk]; rfl
        rw [hk, hv]; rfl
      · have hwp := wh_parts hfin
        simp only [Bool.not_true, if_true]
        unfold whB
        rw [hwp]
        by_cases hlt : wh (fmtW f) a.toNat < 2 ^ 64
        · have e1 : whU (mgW f a) (plW f a) = BitVec.ofNat 64 (wh (fmtW f) a.toNat) := by unfold whU; rw [hwp, if_pos hlt]
          have hb := bnd_lt t s (ngW f a)
          have c : decide (mstV t s (ngW f a) < whU (mgW f a) (plW f a)) = !decide (wh (fmtW f) a.toNat ≤ bnd t s (ngW f a)) := by
            rw [e1, ← decide_not]
            refine decide_eq_decide.2 ?_
            unfold mstV
            rw [BitVec.lt_def, BitVec.toNat_ofNat, BitVec.toNat_ofNat, Nat.mod_eq_of_lt hb, Nat.mod_eq_of_lt hlt]
            omega
          rw [decide_eq_true hlt, c, e1]
          by_cases h8 : wh (fmtW f) a.toNat ≤ bnd t s (ngW f a)
          · have hk : fitV f t s a = true := by
              unfold fitV; rw [hfin, Bool.true_and]; exact decide_eq_true h8
            have hv : hldV f t s a = numV t (ngW f a) (BitVec.ofNat 64 (wh (fmtW f) a.toNat)) := by unfold hldV; rw [hn, hk]; rfl
            rw [hk, hv, decide_eq_true h8]; rfl
          · have hk : fitV f t s a = false := by
              unfold fitV; rw [hfin, Bool.true_and]; exact decide_eq_false h8
            have hv : hldV f t s a = numV t (ngW f a) (mstV t s (ngW f a)) := by unfold hldV; rw [hn, hk]; rfl
            rw [hk, hv, decide_eq_false h8]; rfl
        · have hb := bnd_lt t s (ngW f a)
          have hk : fitV f t s a = false := by
            unfold fitV; rw [hfin, Bool.true_and]
            refine decide_eq_false ?_
            show ¬ wh (fmtW f) a.toNat ≤ bnd t s (ngW f a)
            omega
          have hv : hldV f t s a = numV t (ngW f a) (mstV t s (ngW f a)) := by unfold hldV; rw [hn, hk]; rfl
          rw [decide_eq_false hlt, hk, hv]; rfl
    · have hfin : finW f a = false := by
        cases h : finW f a
        · rfl
        · have := fin_notN (f := fmtW f) (x := a.toNat) h
          unfold isNW at hn; rw [this] at hn; cases hn
      have hk : fitV f t s a = false := by unfold fitV; rw [hfin]; rfl
      have hv : hldV f t s a = 0#64 := by unfold hldV; rw [hn]; rfl
      rw [hk, hv]; rfl
  · cases h
noncomputable def rcutG (C : Int → Int → BitVec 64 → Bool) (H : Int → Int → Bool → BitVec 64 → BitVec 64) (F : Int → Int → Bool → BitVec 64 → Bool) : Ev.Spec := guarded fun | [.i .i64 f, .i .i64 t, .bool s, .u64 a] => some (C f t a, .tup [.u64 (H f t s a), .bool (F f t s a)]) | _ => none
theorem nf_rHeld (M C : Int → Int → BitVec 64 → Bool) (H : Int → Int → Bool → BitVec 64 → BitVec 64) (F : Int → Int → Bool → BitVec 64 → Bool) (f t : Int) (s : Bool) (a : BitVec 64) : ex [(81, mayG M), (82, rcutG C H F)] (fun _ => []) Tryd.f47 [.i .i64 f, .i .i64 t, .bool s, .u64 a] some =
  if (!M f t a) = true then some (.tup [.u64 0#64, .i .i64 2]) else if C f t a = true then some (.tup [.u64 (H f t s a), .i .i64 0]) else none := by kernel_rfl
theorem t_rHeld : Snd 47 heldS := by
  refine Sound.join (execFn_sound (ann := fun _ => []) (TableOK.cons t_rmay (TableOK.cons t_rcut TableOK.nil)) mixed Tryd.func47 (by kernel_rfl) 50) fun ds d hd => ?_
  split at hd
  · rename_i f t s a
    cases hd
    refine (nf_rHeld mayC mayC hldV fitV f t s a).trans ?_
    cases mayC f t a <;> rfl
  · cases hd
end Go.L08C
/-!
Chapter 05: what is made of floats and of whole numbers fits.
-/
namespace Go.L08C
open Go.L08
open Go.Ev Go.Proofs Go.RowKit Go.Wh Go.Fl

theorem wOK_okW {w : Int} (h : wOK w = true) : okW w = true := by rcases wOK_cases h with rfl | rfl <;> decide
theorem fit_and {w : Int} (hw : wOK w = true) (a : BitVec 64) : fitF w (a &&& maskF w) = true := by
  unfold fitF
  rw [wOK_okW hw, Bool.true_and]
  refine decide_eq_true ?_
  rw [BitVec.le_def, BitVec.toNat_and]
  exact Nat.and_le_right
theorem fit_of {w : Int} (hw : wOK w = true) {a : BitVec 64} (h : (a.toNat : Int) < pw w) : fitF w a = true := by
  unfold fitF
  rw [wOK_okW hw, Bool.true_and]
  refine decide_eq_true ?_
  rw [BitVec.le_def]
  rcases wOK_cases hw with rfl | rfl
  · have e : (maskF 32).toNat = 4294967295 := by decide
    have e2 : pw 32 = 4294967296 := by decide
    rw [e]; omega
  · have e : (maskF 64).toNat = 18446744073709551615 := by decide
    have := a.isLt
    rw [e]; omega
theorem fit_in {w : Int} (hw : wOK w = true) {a : BitVec 64} (h : fitF w a = true) : inF w a = true := by
  have h2 := (fitF_nat h).2
  rw [in_iff hw]
  rcases wOK_cases hw with rfl | rfl
  · have e2 : pw 32 = 4294967296 := by decide
    show a.toNat < 4294967296
    omega
  · exact a.isLt
theorem sgn_pos {w : Int} {a : BitVec 64} (h : 2 * (a.toNat : Int) < pw w) : sgnF w a = (a.toNat : Int) := by unfold sgnF; rw [if_pos h]
theorem num_facts {t : Int} (ht : wOK t = true) (s n : Bool) {x : Nat} (hx : x ≤ bnd t s n) : fitF t (numV t n (BitVec.ofNat 64 x)) = true ∧ intV t s (numV t n (BitVec.ofNat 64 x)) = sg n x := by
  have hb : bnd t s n < 2 ^ 64 ∧ (s = true → (bnd t s n : Int) ≤ pw t / 2) ∧ (s = true → n = false → (bnd t s n : Int) < pw t / 2) ∧ (n = false → (bnd t s n : Int) < pw t) ∧ (s = false → n = true → bnd t s n = 0) := by
    rcases wOK_cases ht with rfl | rfl <;> cases s <;> cases n <;> decide
  obtain ⟨b1, b2, b3, b4, b5⟩ := hb
  have ex : (BitVec.ofNat 64 x).toNat = x := by rw [BitVec.toNat_ofNat, Nat.mod_eq_of_lt (by omega)]
  have hpe : pw t % 2 = 0 := by rcases wOK_cases ht with rfl | rfl <;> decide
  cases n
  · have e : numV t false (BitVec.ofNat 64 x) = BitVec.ofNat 64 x := rfl
    rw [e]
    have hlt := b4 rfl
    refine ⟨fit_of ht (by rw [ex]; omega), ?_⟩
    cases s
    · rw [intF, ex]; rfl
    · have := b3 rfl rfl
      rw [intT, sgn_pos (by rw [ex]; omega), ex]; rfl
  · have e : numV t true (BitVec.ofNat 64 x) = 0#64 - BitVec.ofNat 64 x &&& maskF t := rfl
    rw [e]
    refine ⟨fit_and ht _, ?_⟩
    cases s
    · have h0 : x = 0 := by have := b5 rfl rfl; omega
      subst h0
      rw [intF]
      have : (0#64 - BitVec.ofNat 64 0 &&& maskF t) = 0#64 := by
        show (0#64 - 0#64 &&& maskF t) = 0#64
        rw [BitVec.sub_self, BitVec.zero_and]
      rw [this]; rfl
    · rw [intT]
      have e2 : 0#64 - BitVec.ofNat 64 x = BitVec.ofInt 64 (-(x : Int)) := by
        rw [BitVec.ofInt_neg, BitVec.ofInt_natCast, BitVec.zero_sub]
      have := b2 rfl
      have hp : 0 < pw t := by rcases wOK_cases ht with rfl | rfl <;> decide
      rw [e2, sgn_num (wOK_okW ht) (by omega) (by omega)]; rfl
/-- What is held, as a whole number. -/
theorem held_int {f t : Int} (ht : wOK t = true) (s : Bool) {a : BitVec 64} (hn : noW f a = false) : fitF t (hldV f t s a) = true ∧ intV t s (hldV f t s a) = sg (ng (fmW f) a.toNat) (clB' (fmW f) (bnd t s (ng (fmW f) a.toNat)) a.toNat) := by
  have e : hldV f t s a = numV t (ng (fmW f) a.toNat) (BitVec.ofNat 64 (clB' (fmW f) (bnd t s (ng (fmW f) a.toNat)) a.toNat)) := by
    have hn' : isNW f a = false := hn
    unfold hldV
    rw [hn', if_neg (by decide)]
    unfold clB'
    have ef : fitV f t s a = (fin (fmW f) a.toNat && decide (wh (fmW f) a.toNat ≤ bnd t s (ng (fmW f) a.toNat))) := rfl
    rw [ef]
    by_cases hc : (fin (fmW f) a.toNat && decide (wh (fmW f) a.toNat ≤ bnd t s (ng (fmW f) a.toNat))) = true
    · rw [if_pos hc, if_pos hc]; rfl
    · rw [if_neg hc, if_neg hc]; rfl
  rw [e]
  exact num_facts ht s _ (clB_le _ _ _)

theorem may_in {f t : Int} {a : BitVec 64} (hf : fitF f a = true) (h1 : wOK f = true) (h2 : wOK t = true) : mayC f t a = true := by
  have hi := fit_in h1 hf
  unfold inF at hi
  rw [Bool.and_eq_true] at hi
  have e : mayC f t a = (wOK f && wOK t && fiW f a) := rfl
  rw [e, h1, h2, hi.2]; rfl
abbrev hV : Int → Int → Bool → BitVec 64 → BitVec 64 := fun f t s a => ifF (mayC f t a) (hldV f t s a)
abbrev fV : Int → Int → Bool → BitVec 64 → BitVec 64 := fun f t s a => ifF (mayC f t a) (fltV t (intV f s a))
theorem fit_le {w : Int} {a : BitVec 64} (h : fitF w a = true) : a ≤ maskF w := by
  unfold fitF at h
  rw [Bool.and_eq_true] at h
  exact of_decide_eq_true h.2
theorem held_fits {f t : Int} (ht : wOK t = true) (s : Bool) (a : BitVec 64) : hV f t s a ≤ maskF t := by
  have z : 0#64 ≤ maskF t := by rw [BitVec.le_def]; exact Nat.zero_le _
  show (if mayC f t a = true then hldV f t s a else 0#64) ≤ _
  split
  · cases hn : noW f a
    · exact fit_le (held_int ht s hn).1
    · have e : hldV f t s a = 0#64 := by
        have hn' : isNW f a = true := hn
        unfold hldV
        rw [hn']; rfl
      rw [e]; exact z
  · exact z
theorem float_fits {f t : Int} (ht : wOK t = true) (s : Bool) (a : BitVec 64) : fV f t s a ≤ maskF t := by
  have z : 0#64 ≤ maskF t := by rw [BitVec.le_def]; exact Nat.zero_le _
  show (if mayC f t a = true then fltV t (intV f s a) else 0#64) ≤ _
  split
  · have hi := (flI_facts ht (intV f s a)).1
    have h2 := (in_iff ht).1 hi
    exact fit_le (fit_of ht (by
      rcases wOK_cases ht with rfl | rfl
      · have e2 : pw 32 = 4294967296 := by decide
        have h3 : (flI 32 (intV f s a)).toNat < 4294967296 := h2
        rw [e2]
        exact Int.ofNat_lt.2 h3
      · have e2 : pw 64 = 18446744073709551616 := by decide
        rw [e2]
        exact Int.ofNat_lt.2 (BitVec.isLt _)))
  · exact z
end Go.L08C
/-!
Chapter 05: a whole number of 32 bits that is made a long float, and cut, is itself.
-/
namespace Go.L08C
open Go.L08
open Go.Ev Go.Proofs Go.RowKit Go.Wh Go.Fl

/-- A whole number of 53 bits is had exactly. -/
theorem flt_exact {n : Int} (h0 : -4503599627370496 ≤ n) (h1 : n < 4503599627370496) : fin Ieee.double (fltV 64 n).toNat = true ∧ ng Ieee.double (fltV 64 n).toNat = decide (n < 0) ∧ wh Ieee.double (fltV 64 n).toNat = n.natAbs := by
  have hld : Ieee.double.leastPlace = -1074 := double_least
  have hBd : Ieee.double.binade = 4503599627370496 := by decide
  have hfd : (Ieee.double.fractionBits : Int) = 52 := rfl
  have hlog : n.natAbs.log2 ≤ 52 := by
    by_cases h0 : n.natAbs = 0
    · rw [h0]; decide
    · have : n.natAbs.log2 < 53 := (Nat.log2_lt h0).2 (by omega)
      omega
  obtain ⟨r, r1, r2⟩ := has_exact Ieee.double (by rw [hld]; omega) (by decide) (m := n.natAbs) (p := 0) (by omega) (by rw [hld]; omega)
    (by rw [hld, hfd, show ((2 ^ Ieee.double.exponentBits - 1 : Nat) : Int) = 2047 from by decide]; omega)
  have e := nearest_exact Ieee.double (by rw [hld]; omega) (decide (n < 0)) (m := n.natAbs) (p := 0) (by omega) r1 r2
  obtain ⟨a1, a2, a3⟩ := wo_word Ieee.double (decide (n < 0)) r1
  have ev : (fltV 64 n).toNat = Ieee.double.word (decide (n < 0)) r := by
    unfold fltV
    rw [BitVec.toNat_ofNat]
    show Ieee.double.nearest _ _ _ % 2 ^ 64 = _
    rw [e, Nat.mod_eq_of_lt]
    exact word_lt Ieee.double _ (Nat.lt_trans r1 (inf_lt Ieee.double))
  rw [ev]
  refine ⟨a1, a2, ?_⟩
  unfold wh
  rw [wo_val two_d a3, ← r2, sc_int, Nat.mul_div_cancel _ U_pos]
theorem int_inj {a b : BitVec 64} (ha : fitF 32 a = true) (hb : fitF 32 b = true) (s : Bool) (h : intV 32 s a = intV 32 s b) : a = b := by
  have h1 := (fitF_nat ha).2
  have h2 := (fitF_nat hb).2
  have e2 : pw 32 = 4294967296 := by decide
  rw [e2] at h1 h2
  apply BitVec.eq_of_toNat_eq
  cases s
  · rw [intF, intF] at h; omega
  · rw [intT, intT] at h
    unfold sgnF at h
    rw [e2] at h
    split at h <;> split at h <;> omega
theorem back32 {a : BitVec 64} (ha : fitF 32 a = true) (s : Bool) : hV 64 32 s (fV 32 64 s a) = a := by
  have hr : -4294967296 ≤ intV 32 s a ∧ intV 32 s a < 4294967296 := by
    have h1 := (fitF_nat ha).2
    have e2 : pw 32 = 4294967296 := by decide
    rw [e2] at h1
    cases s
    · rw [intF]; omega
    · have h2 := sgn_range ha
      rw [e2] at h2
      rw [intT]; omega
  have m1 : mayC 32 64 a = true := may_in ha rfl rfl
  have e1 : fV 32 64 s a = fltV 64 (intV 32 s a) := by show ifF (mayC 32 64 a) _ = _; rw [m1]; rfl
  rw [e1]
  obtain ⟨a1, a2, a3⟩ := flt_exact (n := intV 32 s a) (by omega) (by omega)
  have m2 : mayC 64 32 (fltV 64 (intV 32 s a)) = true := rfl
  have e3 : hV 64 32 s (fltV 64 (intV 32 s a)) = hldV 64 32 s (fltV 64 (intV 32 s a)) := by show ifF (mayC 64 32 _) _ = _; rw [m2]; rfl
  rw [e3]
  have hn : noW 64 (fltV 64 (intV 32 s a)) = false := fin_notN (f := Ieee.double) a1
  obtain ⟨f1, f2⟩ := held_int (f := 64) (t := 32) rfl s hn
  refine int_inj f1 ha s ?_
  rw [f2]
  have hb : (intV 32 s a).natAbs ≤ bnd 32 s (decide (intV 32 s a < 0)) := by
    have h1 := (fitF_nat ha).2
    have e2 : pw 32 = 4294967296 := by decide
    rw [e2] at h1
    cases s
    · rw [intF]
      have : decide ((a.toNat : Int) < 0) = false := decide_eq_false (by omega)
      rw [this]
      show _ ≤ 4294967295
      omega
    · have h2 := sgn_range ha
      rw [e2] at h2
      rw [intT]
      by_cases h0 : sgnF 32 a < 0
      · rw [decide_eq_true h0]
        show _ ≤ 2147483648
        omega
      · rw [decide_eq_false h0]
        show _ ≤ 2147483647
        omega
  have eg : ng (fmW 64) (fltV 64 (intV 32 s a)).toNat = decide (intV 32 s a < 0) := a2
  rw [eg]
  have ec : clB' (fmW 64) (bnd 32 s (decide (intV 32 s a < 0))) (fltV 64 (intV 32 s a)).toNat = (intV 32 s a).natAbs := by
    unfold clB'
    have q1 : fin (fmW 64) (fltV 64 (intV 32 s a)).toNat = true := a1
    have q2 : wh (fmW 64) (fltV 64 (intV 32 s a)).toNat = (intV 32 s a).natAbs := a3
    rw [q1, q2, decide_eq_true hb]; rfl
  rw [ec]
  unfold sg
  by_cases h0 : intV 32 s a < 0
  · rw [if_pos (decide_eq_true h0)]; omega
  · rw [if_neg (by simpa using h0)]; omega
end Go.L08C
