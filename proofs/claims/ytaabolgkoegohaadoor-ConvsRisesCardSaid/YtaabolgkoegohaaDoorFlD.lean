/-
  Part of the proof; what its functions and lemmas say stands in the text.
-/
import Derived.Test.YtaabolgkoegohaaDoorFlC
set_option linter.unusedSimpArgs false
set_option linter.unusedVariables false
/-!
Floats: the document's rounding on words without a sign.
-/
namespace Go.Fl
open Ieee Go.Ev Go.RowKit Go.Wh

/-- The exponent, as the text counts it. -/
def exV (d : Nat) (b : Int) (a : BitVec 64) : Int := IntKind.i64.wrap (sOfU .i64 (a >>> d) - b)
def shV' (d : Nat) (b : Int) (a : BitVec 64) : Nat := (BitVec.ofInt 64 (IntKind.i64.wrap ((d : Int) - exV d b a))).toNat
theorem exV_eq {d b : Nat} (hd : 1 ≤ d) (hd2 : d ≤ 52) (hb : b ≤ 1023) (a : BitVec 64) : exV d b a = ((a.toNat / 2 ^ d : Nat) : Int) - b := by
  have h1 : (a >>> d).toNat = a.toNat / 2 ^ d := by rw [BitVec.toNat_ushiftRight, Nat.shiftRight_eq_div_pow]
  have h2 : a.toNat / 2 ^ d < 2 ^ 63 := by
    rw [Nat.div_lt_iff_lt_mul (two_pos d)]
    have h3 : 2 ^ 1 ≤ 2 ^ d := Nat.pow_le_pow_right (by decide) hd
    have := a.isLt
    omega
  unfold exV
  rw [sU (by rw [h1]; exact h2), h1, wrap_in (by omega) (by omega)]
theorem shV_eq {d b : Nat} (hd : 1 ≤ d) (hd2 : d ≤ 52) (hb : b ≤ 1023) {a : BitVec 64} (h1 : b ≤ a.toNat / 2 ^ d) (h2 : a.toNat / 2 ^ d ≤ b + d) : shV' d b a = b + d - a.toNat / 2 ^ d := by
  unfold shV'
  rw [exV_eq hd hd2 hb, wrap_in (by omega) (by omega)]
  have e : ((d : Int) - (((a.toNat / 2 ^ d : Nat) : Int) - b)) = ((b + d - a.toNat / 2 ^ d : Nat) : Int) := by omega
  rw [e, BitVec.ofInt_natCast, BitVec.toNat_ofNat, Nat.mod_eq_of_lt (by omega)]
theorem mask_of {k : Nat} (hk : k < 64) : 1#64 <<< k - 1#64 = BitVec.ofNat 64 (2 ^ k - 1) := by
  have h1 : 2 ^ k < 2 ^ 64 := Nat.pow_lt_pow_right (by decide) hk
  have h2 := two_pos k
  apply BitVec.eq_of_toNat_eq
  rw [BitVec.toNat_sub, BitVec.toNat_shiftLeft, BitVec.toNat_ofNat, BitVec.toNat_ofNat, Nat.shiftLeft_eq]
  have e1 : 1 % 2 ^ 64 = 1 := by decide
  rw [e1, Nat.one_mul, Nat.mod_eq_of_lt h1]
  omega
theorem mask_and {k : Nat} (hk : k < 64) (a : BitVec 64) : (a &&& (1#64 <<< k - 1#64)).toNat = a.toNat % 2 ^ k := by
  have h1 : 2 ^ k < 2 ^ 64 := Nat.pow_lt_pow_right (by decide) hk
  rw [mask_of hk, BitVec.toNat_and, BitVec.toNat_ofNat, Nat.mod_eq_of_lt (a := 2 ^ k - 1) (by omega), Nat.and_two_pow_sub_one_eq_mod]
theorem mask_clr {k : Nat} (hk : k < 64) (a : BitVec 64) : (a &&& ~~~(1#64 <<< k - 1#64)).toNat = a.toNat - a.toNat % 2 ^ k := by
  have e : a &&& ~~~(1#64 <<< k - 1#64) = (a >>> k) <<< k := by
    rw [mask_of hk]
    apply BitVec.eq_of_getLsbD_eq
    intro i hi
    have t : (2 ^ k - 1).testBit i = decide (i < k) := Nat.testBit_two_pow_sub_one k i
    rw [BitVec.getLsbD_and, BitVec.getLsbD_not, BitVec.getLsbD_ofNat, BitVec.getLsbD_shiftLeft, BitVec.getLsbD_ushiftRight, t]
    by_cases h : i < k
    · simp [h, hi]
    · have : k + (i - k) = i := by omega
      simp [h, hi, this]
  have hd := Nat.div_add_mod a.toNat (2 ^ k)
  have hlt := a.isLt
  rw [e, BitVec.toNat_shiftLeft, BitVec.toNat_ushiftRight, Nat.shiftRight_eq_div_pow, Nat.shiftLeft_eq, Nat.mul_comm, Nat.mod_eq_of_lt (by omega)]
  omega
def upT (d : Nat) (b : Int) (one a : BitVec 64) : Option D := if (a == 0#64) = true then some (.u64 one) else some (.u64 (a + 1#64 <<< shV' d b a))
def odT (d : Nat) (b : Int) (fm ob a : BitVec 64) : Option D := if decide (exV d b a < 0) = false then (if decide ((d : Int) < exV d b a) = true then some (.bool false) else some (.bool ((a &&& fm ||| ob) >>> shV' d b a &&& 1#64 == 1#64))) else some (.bool false)
def mkV (d : Nat) (b : Int) (a : BitVec 64) : BitVec 64 := 1#64 <<< shV' d b a - 1#64
def whT4 (m : BitVec 64) (x y z : Bool) : Option D := some (.tup [.u64 m, .bool x, .bool y, .bool z])
def whoT (d : Nat) (b : Int) (fm a : BitVec 64) : Option D := if decide ((d : Int) ≤ exV d b a) = true then whT4 a true false false else if decide (exV d b a < 0) = true then
    (if (exV d b a == -1) = true then (if (exV d b a == -1) = true then whT4 0#64 (a == 0#64) (!(a &&& fm == 0#64)) (a &&& fm == 0#64) else whT4 0#64 (a == 0#64) (!(a &&& fm == 0#64)) false)
      else (if (exV d b a == -1) = true then whT4 0#64 (a == 0#64) false (a &&& fm == 0#64) else whT4 0#64 (a == 0#64) false false))
  else whT4 (a &&& ~~~(mkV d b a)) (a &&& mkV d b a == 0#64) (decide ((mkV d b a + 1#64) / 2#64 < a &&& mkV d b a)) (a &&& mkV d b a == (mkV d b a + 1#64) / 2#64)
theorem beq0 (x : BitVec 64) : (x == 0#64) = decide (x.toNat = 0) := by
  by_cases h : x.toNat = 0
  · have : x = 0#64 := BitVec.eq_of_toNat_eq h
    rw [this]; rfl
  · have : x ≠ 0#64 := fun e => h (by rw [e]; rfl)
    rw [decide_eq_false h]
    simpa using this
theorem who_eq {d b : Nat} (hd : 1 ≤ d) (hd2 : d ≤ 52) (hb2 : 2 ≤ b) (hb : b ≤ 1023) (a : BitVec 64) : whoT d b (1#64 <<< d - 1#64) a = whT4 (BitVec.ofNat 64 (wholeR b d a.toNat)) (exactR b d a.toNat) (moreR b d a.toNat) (halfR b d a.toNat) := by
  have ex := exV_eq (b := b) hd hd2 hb a
  have mfm := mask_and (k := d) (by omega) a
  unfold whoT wholeR exactR moreR halfR
  rw [ex]
  by_cases c1 : b + d ≤ a.toNat / 2 ^ d
  · rw [if_pos (decide_eq_true (by omega))]
    simp only [if_pos c1]
    unfold whT4
    rw [show BitVec.ofNat 64 a.toNat = a by apply BitVec.eq_of_toNat_eq; rw [BitVec.toNat_ofNat, Nat.mod_eq_of_lt a.isLt]]
  · rw [if_neg (by rw [decide_eq_true_eq]; omega)]
    simp only [if_neg c1]
    by_cases c2 : a.toNat / 2 ^ d < b
    · rw [if_pos (decide_eq_true (by omega))]
      simp only [if_pos c2]
      rw [beq0 a, beq0, mfm]
      have e1 : ((((a.toNat / 2 ^ d : Nat) : Int) - (b : Int)) == -1) = decide (a.toNat / 2 ^ d = b - 1) := by
        by_cases c3 : a.toNat / 2 ^ d = b - 1
        · rw [decide_eq_true c3]
          have : (((a.toNat / 2 ^ d : Nat) : Int) - (b : Int)) = -1 := by omega
          rw [this]; rfl
        · rw [decide_eq_false c3]
          have : ¬ (((a.toNat / 2 ^ d : Nat) : Int) - (b : Int)) = -1 := by omega
          simpa using this
      rw [e1]
      cases decide (a.toNat / 2 ^ d = b - 1)
      · rfl
      · simp only [if_true, Bool.true_and, decide_not, ne_eq]
    · rw [if_neg (by rw [decide_eq_true_eq]; omega)]
      simp only [if_neg c2]
      have hs := shV_eq (b := b) hd hd2 hb (a := a) (by omega) (by omega)
      obtain ⟨k, hk⟩ : ∃ k, b + d - a.toNat / 2 ^ d = k := ⟨_, rfl⟩
      rw [hk] at hs ⊢
      have hk1 : 1 ≤ k ∧ k ≤ 52 := by omega
      have em : mkV d b a = 1#64 <<< k - 1#64 := by unfold mkV; rw [hs]
      rw [em]
      have m1 := mask_and (k := k) (by omega) a
      have m2 := mask_clr (k := k) (by omega) a
      have hh : ((1#64 <<< k - 1#64 + 1#64) / 2#64).toNat = 2 ^ (k - 1) := by
        have h1 : 1#64 <<< k - 1#64 + 1#64 = 1#64 <<< k := BitVec.sub_add_cancel _ _
        have h2 : 2 ^ k < 2 ^ 64 := Nat.pow_lt_pow_right (by decide) (by omega)
        rw [h1, BitVec.toNat_udiv, BitVec.toNat_shiftLeft, Nat.shiftLeft_eq]
        have e1 : (1#64 : BitVec 64).toNat = 1 := rfl
        have e2 : (2#64 : BitVec 64).toNat = 2 := rfl
        rw [e1, e2, Nat.one_mul, Nat.mod_eq_of_lt h2]
        have e3 : 2 ^ k = 2 ^ (k - 1) * 2 := by rw [← Nat.pow_succ]; congr 1; omega
        rw [e3, Nat.mul_div_cancel _ (by decide)]
      unfold whT4
      have g1 : a &&& ~~~(1#64 <<< k - 1#64) = BitVec.ofNat 64 (a.toNat - a.toNat % 2 ^ k) := by
        apply BitVec.eq_of_toNat_eq
        rw [m2, BitVec.toNat_ofNat, Nat.mod_eq_of_lt (Nat.lt_of_le_of_lt (Nat.sub_le _ _) a.isLt)]
      have g2 : (a &&& 1#64 <<< k - 1#64 == 0#64) = decide (a.toNat % 2 ^ k = 0) := by rw [beq0, m1]
      have g3 : decide ((1#64 <<< k - 1#64 + 1#64) / 2#64 < a &&& 1#64 <<< k - 1#64) = decide (2 ^ (k - 1) < a.toNat % 2 ^ k) := by
        refine decide_eq_decide.2 ?_
        rw [BitVec.lt_def, hh, m1]
      have g4 : (a &&& 1#64 <<< k - 1#64 == (1#64 <<< k - 1#64 + 1#64) / 2#64) = decide (a.toNat % 2 ^ k = 2 ^ (k - 1)) := by
        rw [← hh, ← m1]
        by_cases c : (a &&& 1#64 <<< k - 1#64) = (1#64 <<< k - 1#64 + 1#64) / 2#64
        · rw [c]; simp
        · rw [decide_eq_false (fun e => c (BitVec.eq_of_toNat_eq e))]
          simpa using c
      rw [g1, g2, g3, g4]
theorem up_eq {d b : Nat} (hd : 1 ≤ d) (hd2 : d ≤ 52) (hb : b ≤ 1023) (a : BitVec 64) (h : a.toNat = 0 ∨ (b ≤ a.toNat / 2 ^ d ∧ a.toNat / 2 ^ d ≤ b + d)) (hl : a.toNat < 2 ^ 63) : upT d b (BitVec.ofNat 64 (b * 2 ^ d)) a = some (.u64 (BitVec.ofNat 64 (upR b d a.toNat))) := by
  unfold upT upR
  rw [beq0]
  by_cases h0 : a.toNat = 0
  · rw [if_pos (decide_eq_true h0), if_pos h0]
  · rw [if_neg (by rw [decide_eq_true_eq]; exact h0), if_neg h0]
    rcases h with h | ⟨h1, h2⟩
    · exact absurd h h0
    · have hs := shV_eq (b := b) hd hd2 hb h1 h2
      rw [hs]
      congr 2
      apply BitVec.eq_of_toNat_eq
      have hk : b + d - a.toNat / 2 ^ d ≤ 52 := by omega
      have h3 : 2 ^ (b + d - a.toNat / 2 ^ d) ≤ 2 ^ 52 := Nat.pow_le_pow_right (by decide) hk
      rw [BitVec.toNat_add, BitVec.toNat_shiftLeft, BitVec.toNat_ofNat, Nat.shiftLeft_eq]
      have e1 : 1 % 2 ^ 64 = 1 := by decide
      rw [e1, Nat.one_mul, Nat.mod_eq_of_lt (a := 2 ^ (b + d - a.toNat / 2 ^ d)) (by omega), BitVec.toNat_ofNat]
theorem od_eq {d b : Nat} (hd : 1 ≤ d) (hd2 : d ≤ 52) (hb : b ≤ 1023) (a : BitVec 64) : odT d b (1#64 <<< d - 1#64) (1#64 <<< d) a = some (.bool (oddR b d a.toNat)) := by
  have ex := exV_eq (b := b) hd hd2 hb a
  unfold odT oddR
  rw [ex]
  by_cases c1 : a.toNat / 2 ^ d < b
  · rw [if_neg (by rw [decide_eq_true (by omega)]; decide), if_pos (.inl c1)]
  · rw [if_pos (by rw [decide_eq_false (by omega)])]
    by_cases c2 : b + d < a.toNat / 2 ^ d
    · rw [if_pos (decide_eq_true (by omega)), if_pos (.inr c2)]
    · rw [if_neg (by rw [decide_eq_true_eq]; omega), if_neg (by omega)]
      have hs := shV_eq (b := b) hd hd2 hb (a := a) (by omega) (by omega)
      rw [hs]
      have m1 := mask_and (k := d) (by omega) a
      have hlt : a.toNat % 2 ^ d < 2 ^ d := Nat.mod_lt _ (two_pos d)
      have ht : (1#64 <<< d : BitVec 64).toNat = 2 ^ d := by
        have h2 : 2 ^ d < 2 ^ 64 := Nat.pow_lt_pow_right (by decide) (by omega)
        have e1 : 1 % 2 ^ 64 = 1 := by decide
        rw [BitVec.toNat_shiftLeft, BitVec.toNat_ofNat, Nat.shiftLeft_eq, e1, Nat.one_mul, Nat.mod_eq_of_lt h2]
      have ho : (a &&& (1#64 <<< d - 1#64) ||| 1#64 <<< d).toNat = a.toNat % 2 ^ d + 2 ^ d := by
        rw [BitVec.or_comm, or_two d ht (by rw [m1]; exact hlt), ht, m1]; omega
      have hb1 : ∀ x : BitVec 64, (x &&& 1#64 == 1#64) = decide (x.toNat % 2 = 1) := fun x => by
        have hx : (x &&& 1#64).toNat = x.toNat % 2 := by rw [BitVec.toNat_and]; exact Nat.and_one_is_mod _
        by_cases c : x.toNat % 2 = 1
        · rw [decide_eq_true c]
          have : x &&& 1#64 = 1#64 := BitVec.eq_of_toNat_eq (hx.trans c)
          rw [this]; rfl
        · rw [decide_eq_false c]
          have : x &&& 1#64 ≠ 1#64 := fun e => c (by rw [← hx, e]; rfl)
          simpa using this
      rw [hb1, BitVec.toNat_ushiftRight, ho, Nat.shiftRight_eq_div_pow]
end Go.Fl
/-!
Floats: a sign and a rung as one word.
-/
namespace Go.Fl
open Ieee Go.Ev Go.RowKit Go.Wh

theorem sg_or {w : Int} {a : BitVec 64} (ha : inF w a = true) {m : Nat} (hm : m < (fmW w).signWeight) : a &&& sgW w ||| BitVec.ofNat 64 m = BitVec.ofNat 64 ((fmW w).word (ng (fmW w) a.toNat) m) := by
  have hw : wOK w = true := by unfold inF at ha; rw [Bool.and_eq_true] at ha; exact ha.1
  obtain ⟨k, hk, hs, hf, _⟩ := sg_pow hw
  have e := and_ng ha
  rw [hf] at hm
  have hk2 : 2 ^ k < 2 ^ 64 := Nat.pow_lt_pow_right (by decide) hk
  have em : (BitVec.ofNat 64 m).toNat = m := by rw [BitVec.toNat_ofNat, Nat.mod_eq_of_lt (by omega)]
  rw [hs, BitVec.and_twoPow] at e ⊢
  cases hb : a.getLsbD k
  · rw [hb] at e
    have hn : ng (fmW w) a.toNat = false := by
      cases hq : ng (fmW w) a.toNat
      · rfl
      · rw [hq] at e; simp at e
    rw [hn]
    show 0#64 ||| _ = BitVec.ofNat 64 m
    rw [BitVec.zero_or]
  · rw [hb] at e
    have hz : (BitVec.twoPow 64 k == 0#64) = false := by
      have : BitVec.twoPow 64 k ≠ 0#64 := by
        intro h
        have h2 := congrArg (BitVec.getLsbD · k) h
        simp only [BitVec.getLsbD_twoPow, BitVec.getLsbD_zero] at h2
        simp [hk] at h2
      simpa using this
    have hn : ng (fmW w) a.toNat = true := by
      cases hq : ng (fmW w) a.toNat
      · rw [hq] at e; simp only [if_true] at e; rw [hz] at e; cases e
      · rfl
    rw [hn]
    have ht : (BitVec.twoPow 64 k).toNat = 2 ^ k := by rw [BitVec.toNat_twoPow, Nat.mod_eq_of_lt hk2]
    apply BitVec.eq_of_toNat_eq
    show (BitVec.twoPow 64 k ||| BitVec.ofNat 64 m).toNat = _
    rw [or_two k ht (by rw [em]; exact hm), ht, em, BitVec.toNat_ofNat, word_true, hf, Nat.mod_eq_of_lt]
    have : 2 ^ k * 2 ≤ 2 ^ 64 := by rw [← Nat.pow_succ]; exact Nat.pow_le_pow_right (by decide) hk
    omega
end Go.Fl
/-!
Floats: when the document goes up, it may.
-/
namespace Go.Fl
open Ieee Go.Ev Go.RowKit Go.Wh

theorem whole_le (b d r : Nat) : wholeR b d r ≤ r := by
  unfold wholeR
  split
  · exact Nat.le_refl _
  · split
    · exact Nat.zero_le _
    · exact Nat.sub_le _ _
theorem whole_place {b d r : Nat} (hd : 1 ≤ d) (c1 : ¬ b + d ≤ r / 2 ^ d) : wholeR b d r = 0 ∨ (b ≤ wholeR b d r / 2 ^ d ∧ wholeR b d r / 2 ^ d ≤ b + d) := by
  unfold wholeR
  rw [if_neg c1]
  by_cases c2 : r / 2 ^ d < b
  · left; rw [if_pos c2]
  · right
    rw [if_neg c2]
    obtain ⟨k, hk⟩ : ∃ k, b + d - r / 2 ^ d = k := ⟨_, rfl⟩
    have hdk : 2 ^ d = 2 ^ k * 2 ^ (d - k) := by rw [← Nat.pow_add]; congr 1; omega
    have hrm : r % 2 ^ d % 2 ^ k = r % 2 ^ k := Nat.mod_mod_of_dvd _ ⟨_, hdk⟩
    have hle : r % 2 ^ k ≤ r % 2 ^ d := by rw [← hrm]; exact Nat.mod_le _ _
    have hrs := Nat.div_add_mod r (2 ^ d)
    have hlt : r % 2 ^ d < 2 ^ d := Nat.mod_lt _ (two_pos d)
    rw [hk]
    have hm : r - r % 2 ^ k = 2 ^ d * (r / 2 ^ d) + (r % 2 ^ d - r % 2 ^ k) := by omega
    have hmd : (r - r % 2 ^ k) / 2 ^ d = r / 2 ^ d := by
      rw [hm, Nat.mul_add_div (two_pos d), Nat.div_eq_of_lt (show r % 2 ^ d - r % 2 ^ k < 2 ^ d by omega), Nat.add_zero]
    rw [hmd]
    omega
theorem goes_place {way : Toward} {s : Bool} {b d r : Nat} (h : goesR way s b d r = true) : ¬ b + d ≤ r / 2 ^ d := by
  intro c1
  unfold goesR exactR moreR halfR at h
  simp only [if_pos c1] at h
  cases way <;> simp at h
end Go.Fl
/-!
Floats: the document's rounding, as a word.
-/
namespace Go.Fl
open Ieee Go.Ev Go.RowKit Go.Wh

theorem round_lt (way : Toward) {w : Int} {a : Nat} (hn : isN (fmW w) a = false) : roundR way (ng (fmW w) a) (bW w) (dW w) (rg (fmW w) a) < (fmW w).signWeight := by
  rw [← rnN_rg way hn]
  exact rg_lt _ _
/-- Below the sign: the rung rounded; with the sign the word. -/
theorem rn_or (way : Toward) {w : Int} {a : BitVec 64} (ha : inF w a = true) (hn : noW w a = false) : a &&& sgW w ||| BitVec.ofNat 64 (roundR way (ng (fmW w) a.toNat) (bW w) (dW w) (rg (fmW w) a.toNat)) = rnW way w a := by
  rw [sg_or ha (round_lt way hn)]
  unfold rnW
  rw [hn]; rfl
theorem rg_64 (w : Int) (a : Nat) : rg (fmW w) a < 2 ^ 63 := rg_63 w a
/-- What is whole, as a word. -/
def whW (w : Int) (A : BitVec 64) : BitVec 64 := BitVec.ofNat 64 (wholeR (bW w) (dW w) A.toNat)
def upW (w : Int) (A : BitVec 64) : BitVec 64 := BitVec.ofNat 64 (upR (bW w) (dW w) A.toNat)
def upC (w : Int) (a : BitVec 64) : Bool := wOK w && (decide (a.toNat = 0 ∨ (bW w ≤ a.toNat / 2 ^ dW w ∧ a.toNat / 2 ^ dW w ≤ bW w + dW w)) && decide (a.toNat < 2 ^ 63))
theorem whW_nat {w : Int} {a : BitVec 64} (ha : inF w a = true) : (whW w (a &&& ~~~(sgW w))).toNat = wholeR (bW w) (dW w) (rg (fmW w) a.toNat) := by
  unfold whW
  rw [clr_rg ha, BitVec.toNat_ofNat, Nat.mod_eq_of_lt]
  have h1 := whole_le (bW w) (dW w) (rg (fmW w) a.toNat)
  have h2 := rg_63 w a.toNat
  omega
theorem dW_pos (w : Int) : 1 ≤ dW w := by unfold dW; split <;> decide
theorem goes_ok {way : Toward} {w : Int} {a : BitVec 64} (ha : inF w a = true) (hg : goesR way (ng (fmW w) a.toNat) (bW w) (dW w) (rg (fmW w) a.toNat) = true) : upC w (whW w (a &&& ~~~(sgW w))) = true := by
  have hw : wOK w = true := by unfold inF at ha; rw [Bool.and_eq_true] at ha; exact ha.1
  unfold upC
  rw [hw, whW_nat ha, Bool.true_and, Bool.and_eq_true]
  have h1 := whole_le (bW w) (dW w) (rg (fmW w) a.toNat)
  have h2 := rg_63 w a.toNat
  exact ⟨decide_eq_true (whole_place (dW_pos w) (goes_place hg)), decide_eq_true (by omega)⟩
theorem goes_yes (way : Toward) {w : Int} {a : BitVec 64} (ha : inF w a = true) (hn : noW w a = false) (hg : goesR way (ng (fmW w) a.toNat) (bW w) (dW w) (rg (fmW w) a.toNat) = true) : a &&& sgW w ||| upW w (whW w (a &&& ~~~(sgW w))) = rnW way w a := by
  rw [← rn_or way ha hn]
  unfold upW roundR
  rw [whW_nat ha, if_pos hg]
theorem goes_no (way : Toward) {w : Int} {a : BitVec 64} (ha : inF w a = true) (hn : noW w a = false) (hg : goesR way (ng (fmW w) a.toNat) (bW w) (dW w) (rg (fmW w) a.toNat) = false) : a &&& sgW w ||| whW w (a &&& ~~~(sgW w)) = rnW way w a := by
  rw [← rn_or way ha hn]
  unfold whW roundR
  rw [clr_rg ha, if_neg (by rw [hg]; decide)]
def roT (sg m : BitVec 64) (c2 : Bool) (u : BitVec 64) (g : Bool) : Option D := if g = true then (if c2 = true then some (.u64 (sg ||| u)) else none) else some (.u64 (sg ||| m))
theorem ro_ok (way : Toward) {w : Int} {a : BitVec 64} (ha : inF w a = true) (hn : noW w a = false) {g : Bool} (hg : g = goesR way (ng (fmW w) a.toNat) (bW w) (dW w) (rg (fmW w) a.toNat)) : roT (a &&& sgW w) (whW w (a &&& ~~~(sgW w))) (upC w (whW w (a &&& ~~~(sgW w)))) (upW w (whW w (a &&& ~~~(sgW w)))) g = some (.u64 (rnW way w a)) := by
  unfold roT
  cases hg' : g
  · rw [hg'] at hg
    rw [if_neg (by decide), goes_no way ha hn hg.symm]
  · rw [hg'] at hg
    rw [if_pos rfl, if_pos (goes_ok ha hg.symm), goes_yes way ha hn hg.symm]
end Go.Fl
