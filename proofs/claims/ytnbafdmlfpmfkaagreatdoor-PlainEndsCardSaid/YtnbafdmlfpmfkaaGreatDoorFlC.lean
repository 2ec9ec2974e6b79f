/-
  Part of the proof; what its functions and lemmas say stands in the text.
-/
import Derived.Test.YtnbafdmlfpmfkaaGreatDoorFlB
set_option linter.unusedSimpArgs false
set_option linter.unusedVariables false
namespace Go.Fl
open Ieee Go.Ev Go.RowKit Go.Wh
theorem sg_pow {w : Int} (h : wOK w = true) : ∃ k, k < 64 ∧ sgW w = BitVec.twoPow 64 k ∧ (fmW w).signWeight = 2 ^ k ∧ (BitVec.ofInt 64 (IntKind.i64.wrap (w - 1))).toNat = k := by
 rcases wOK_cases h with rfl | rfl
 ·exact ⟨31, by decide, by decide, rfl, by decide⟩
 ·exact ⟨63, by decide, by decide, rfl, by decide⟩
theorem in_iff {w : Int} {a : BitVec 64} (h : wOK w = true) : inF w a = true ↔ a.toNat < 2 * (fmW w).signWeight := by
 constructor
 ·exact in_lt
 ·intro hl
  rcases wOK_cases h with rfl | rfl
  ·exact in32 hl
  ·rfl
theorem hi_zero {k : Nat} {a : BitVec 64} (ha : a.toNat < 2 ^ (k + 1)) {i : Nat} (hi : k < i) : a.getLsbD i = false := Nat.testBit_lt_two_pow (Nat.lt_of_lt_of_le ha (Nat.pow_le_pow_right (by decide) hi))
theorem lt_of_bits {k : Nat} {a : BitVec 64} (h : ∀ i, k < i → i < 64 → a.getLsbD i = false) : a.toNat < 2 ^ (k + 1) := by
 apply Nat.lt_pow_two_of_testBit
 intro i hi
 by_cases h6 : i < 64
 ·exact h i (by omega) h6
 ·exact BitVec.getLsbD_of_ge a i (by omega)
theorem in_xor {w : Int} {a : BitVec 64} (h : inF w a = true) : inF w (a ^^^ sgW w) = true := by
 have hw : wOK w = true := by unfold inF at h; rw [Bool.and_eq_true] at h; exact h.1
 obtain ⟨k, hk, hs, hf, _⟩ := sg_pow hw
 have hl := in_lt h
 rw [in_iff hw]
 rw [hf] at hl ⊢
 rw [show 2 * 2 ^ k = 2 ^ (k + 1) by rw [Nat.pow_succ]; omega] at hl ⊢
 refine lt_of_bits fun i h1 h2 => ?_
 rw [BitVec.getLsbD_xor, hi_zero hl h1, hs, BitVec.getLsbD_twoPow]
 simp; omega
end Go.Fl
namespace Go.Fl
open Ieee Go.Ev Go.RowKit Go.Wh
def moreT (way : Toward) (s : Bool) (q t u : Nat) : Bool := match way with
 | .even => decide (u < 2 * t) || (decide (u = 2 * t) && decide (q % 2 = 1))
 | .down => s && decide (t ≠ 0)
 | .up => !s && decide (t ≠ 0)
 | .zero => false
theorem cut_more (way : Toward) (s : Bool) (n drop : Nat) : way.cut s n drop = n / 2 ^ drop + (moreT way s (n / 2 ^ drop) (n % 2 ^ drop) (2 ^ drop)).toNat := by
 cases way with
 | even => exact cut_even s n drop
 | zero => rw [cut_zero]; rfl
 | down =>
  unfold Toward.cut moreT
  simp only [Nat.one_shiftLeft]
  rcases Nat.lt_or_ge (n.log2 + 2) drop with h | h
  ·have hn : n < 2 ^ (n.log2 + 2) := Nat.lt_of_lt_of_le Nat.lt_log2_self (Nat.pow_le_pow_right (by decide) (by omega))
   have hd : n < 2 ^ drop := Nat.lt_trans hn (Nat.pow_lt_pow_right (by decide) h)
   rw [Nat.min_eq_right (by omega), Nat.div_eq_of_lt hn, Nat.mod_eq_of_lt hn, Nat.div_eq_of_lt hd, Nat.mod_eq_of_lt hd]
   congr 2
   cases s <;> simp [bne] <;> rfl
  ·rw [Nat.min_eq_left h]
   congr 2
   cases s <;> simp [bne] <;> rfl
 | up =>
  unfold Toward.cut moreT
  simp only [Nat.one_shiftLeft]
  rcases Nat.lt_or_ge (n.log2 + 2) drop with h | h
  ·have hn : n < 2 ^ (n.log2 + 2) := Nat.lt_of_lt_of_le Nat.lt_log2_self (Nat.pow_le_pow_right (by decide) (by omega))
   have hd : n < 2 ^ drop := Nat.lt_trans hn (Nat.pow_lt_pow_right (by decide) h)
   rw [Nat.min_eq_right (by omega), Nat.div_eq_of_lt hn, Nat.mod_eq_of_lt hn, Nat.div_eq_of_lt hd, Nat.mod_eq_of_lt hd]
   congr 2
   cases s <;> simp [bne] <;> rfl
  ·rw [Nat.min_eq_left h]
   congr 2
   cases s <;> simp [bne] <;> rfl
def vcut (way : Toward) (s : Bool) (v u : Nat) : Nat := v / u + (moreT way s (v / u) (v % u) u).toNat
theorem more_scale (way : Toward) (s : Bool) (q t u : Nat) {c : Nat} (hc : 0 < c) : moreT way s q (t * c) (u * c) = moreT way s q t u := by
 have z : t * c = 0 ↔ t = 0 := ⟨fun h => by rcases Nat.mul_eq_zero.1 h with h | h; · exact h
                                            ·omega, fun h => by rw [h, Nat.zero_mul]⟩
 cases way with
 | zero => rfl
 | down => unfold moreT; simp only [ne_eq, z]
 | up => unfold moreT; simp only [ne_eq, z]
 | even =>
  unfold moreT
  have e : 2 * (t * c) = 2 * t * c := by rw [Nat.mul_assoc]
  have h1 : u * c < 2 * t * c ↔ u < 2 * t := Nat.mul_lt_mul_right hc
  have h2 : u * c = 2 * t * c ↔ u = 2 * t := ⟨fun h => Nat.eq_of_mul_eq_mul_right hc h, fun h => by rw [h]⟩
  simp only [e, h1, h2]
theorem vcut_scale (way : Toward) (s : Bool) (v u : Nat) {c : Nat} (hc : 0 < c) : vcut way s (v * c) (u * c) = vcut way s v u := by
 unfold vcut
 rw [Nat.mul_div_mul_right _ _ hc, Nat.mul_mod_mul_right, more_scale way s _ _ _ hc]
theorem cut_v (way : Toward) (s : Bool) (m : Nat) {i : Int} (hi : -4000 ≤ i) : way.cut s (m <<< i.toNat) (-i).toNat = vcut way s (sc m i) U := by
 rw [cut_more, Nat.shiftLeft_eq]
 unfold U sc
 rw [Nat.one_mul]
 generalize hN : (0 + 4000 : Int).toNat = N
 have hN' : (N : Int) = 4000 := by omega
 rcases Int.lt_or_le i 0 with h | h
 ·have e1 : i.toNat = 0 := by omega
  have e2 : N = (-i).toNat + (i + 4000).toNat := by omega
  rw [e1, Nat.pow_zero, Nat.mul_one]
  conv => rhs; rw [e2, pow_add]
  rw [vcut_scale way s _ _ (two_pos _)]
  rfl
 ·have e1 : (-i).toNat = 0 := by omega
  have e2 : (i + 4000).toNat = i.toNat + N := by omega
  rw [e1, e2, pow_add, ← Nat.mul_assoc, Nat.pow_zero, Nat.div_one, Nat.mod_one]
  have e3 := vcut_scale way s (m * 2 ^ i.toNat) 1 (two_pos N)
  rw [Nat.one_mul] at e3
  rw [e3]
  unfold vcut
  rw [Nat.div_one, Nat.mod_one]
structure Half (f : Format) (b d : Nat) : Prop where
 two : Two f
 binade : f.binade = 2 ^ d
 least : f.leastPlace = 1 - (b : Int) - d
 b2 : 2 ≤ b
 d1 : 1 ≤ d
 fits : (b + d + 1) * f.binade ≤ f.infRung
theorem half_s : Half single 127 23 := ⟨two_s, rfl, by decide, by decide, by decide, by decide⟩
theorem half_d : Half double 1023 52 := ⟨two_d, rfl, by decide, by decide, by decide, by decide⟩
def wholeR (b d r : Nat) : Nat := if b + d ≤ r / 2 ^ d then r else if r / 2 ^ d < b then 0 else r - r % 2 ^ (b + d - r / 2 ^ d)
def exactR (b d r : Nat) : Bool := if b + d ≤ r / 2 ^ d then true else if r / 2 ^ d < b then decide (r = 0) else decide (r % 2 ^ (b + d - r / 2 ^ d) = 0)
def moreR (b d r : Nat) : Bool := if b + d ≤ r / 2 ^ d then false else if r / 2 ^ d < b then decide (r / 2 ^ d = b - 1) && decide (r % 2 ^ d ≠ 0) else decide (2 ^ (b + d - r / 2 ^ d - 1) < r % 2 ^ (b + d - r / 2 ^ d))
def halfR (b d r : Nat) : Bool := if b + d ≤ r / 2 ^ d then false else if r / 2 ^ d < b then decide (r / 2 ^ d = b - 1) && decide (r % 2 ^ d = 0) else decide (r % 2 ^ (b + d - r / 2 ^ d) = 2 ^ (b + d - r / 2 ^ d - 1))
def oddR (b d m : Nat) : Bool := if m / 2 ^ d < b ∨ b + d < m / 2 ^ d then false else decide ((m % 2 ^ d + 2 ^ d) / 2 ^ (b + d - m / 2 ^ d) % 2 = 1)
def upR (b d m : Nat) : Nat := if m = 0 then b * 2 ^ d else m + 2 ^ (b + d - m / 2 ^ d)
def goesR (way : Toward) (s : Bool) (b d r : Nat) : Bool := match way with
 | .up => !s && !exactR b d r
 | .down => s && !exactR b d r
 | .even => moreR b d r || (halfR b d r && oddR b d (wholeR b d r))
 | .zero => false
def roundR (way : Toward) (s : Bool) (b d r : Nat) : Nat := if goesR way s b d r = true then upR b d (wholeR b d r) else wholeR b d r
theorem val_e {f : Format} {d : Nat} (hB : f.binade = 2 ^ d) {r : Nat} (h : 1 ≤ r / 2 ^ d) : val f r = (2 ^ d + r % 2 ^ d) * 2 ^ (r / 2 ^ d - 1) := by
 unfold val
 rw [hB, if_neg]
 intro hc
 rw [Nat.div_eq_of_lt hc] at h
 omega
theorem val_small {f : Format} {d : Nat} (hB : f.binade = 2 ^ d) (r : Nat) : val f r < 2 ^ d * 2 ^ (r / 2 ^ d) := by
 by_cases h : r < 2 ^ d
 ·unfold val
  rw [hB, if_pos h, Nat.div_eq_of_lt h]; omega
 ·have h1 : 1 ≤ r / 2 ^ d := (Nat.one_le_div_iff (two_pos d)).2 (by omega)
  rw [val_e hB h1]
  have hm : r % 2 ^ d < 2 ^ d := Nat.mod_lt _ (two_pos d)
  calc (2 ^ d + r % 2 ^ d) * 2 ^ (r / 2 ^ d - 1) < (2 ^ d + 2 ^ d) * 2 ^ (r / 2 ^ d - 1) := Nat.mul_lt_mul_of_pos_right (by omega) (two_pos _)
   _ = 2 ^ d * 2 ^ (r / 2 ^ d - 1 + 1) := by rw [Nat.pow_succ, ← Nat.two_mul, Nat.mul_comm 2, Nat.mul_assoc, Nat.mul_comm 2]
   _ = 2 ^ d * 2 ^ (r / 2 ^ d) := by rw [Nat.sub_add_cancel h1]
def unitH (b d : Nat) : Nat := 2 ^ (b + d - 1)
theorem val_zero_iff {f : Format} {r : Nat} : val f r = 0 ↔ r = 0 := by
 constructor
 ·intro h
  rcases Nat.eq_zero_or_pos r with g | g
  ·exact g
  ·have := val_lt f g
   rw [val_zero] at this; omega
 ·rintro rfl; exact val_zero f
theorem round_ok {f : Format} {b d : Nat} (H : Half f b d) (way : Toward) (s : Bool) {r : Nat} (hr : r < f.infRung) : roundR way s b d r < f.infRung ∧ val f (roundR way s b d r) = vcut way s (val f r) (unitH b d) * unitH b d := by
 have hB := H.binade
 have b2 := H.b2
 have d1 := H.d1
 have hfit := H.fits
 rw [hB] at hfit
 by_cases c1 : b + d ≤ r / 2 ^ d
 ·have hv := val_e hB (r := r) (by omega)
  have hw : wholeR b d r = r := by unfold wholeR; rw [if_pos c1]
  have hg : goesR way s b d r = false := by
   unfold goesR exactR moreR halfR
   simp only [if_pos c1]
   cases way <;> simp
  have hR : roundR way s b d r = r := by unfold roundR; rw [hg, hw]; rfl
  rw [hR]
  refine ⟨hr, ?_⟩
  have e : val f r = (2 ^ d + r % 2 ^ d) * 2 ^ (r / 2 ^ d - 1 - (b + d - 1)) * unitH b d := by
   rw [hv, Nat.mul_assoc]
   congr 1
   unfold unitH
   rw [← Nat.pow_add]; congr 1; omega
  rw [e]
  generalize (2 ^ d + r % 2 ^ d) * 2 ^ (r / 2 ^ d - 1 - (b + d - 1)) = q
  have hpos : 0 < unitH b d := two_pos _
  unfold vcut
  rw [Nat.mul_div_cancel _ hpos, Nat.mul_mod_left]
  have : moreT way s q 0 (unitH b d) = false := by
   cases way <;> simp [moreT] <;> omega
  rw [this]; rfl
 ·by_cases c2 : r / 2 ^ d < b
  ·have hsm := val_small hB r
   have hu : unitH b d = 2 ^ d * 2 ^ (b - 1) := by unfold unitH; rw [← Nat.pow_add]; congr 1; omega
   have hlt : val f r < unitH b d := by
    rw [hu]
    exact Nat.lt_of_lt_of_le hsm (Nat.mul_le_mul_left _ (Nat.pow_le_pow_right (by decide) (by omega)))
   have hw : wholeR b d r = 0 := by unfold wholeR; rw [if_neg c1, if_pos c2]
   have hone : val f (b * 2 ^ d) = unitH b d := by
    have e1 : b * 2 ^ d / 2 ^ d = b := Nat.mul_div_cancel _ (two_pos d)
    rw [val_e hB (by rw [e1]; omega), e1, Nat.mul_mod_left, hu]; rfl
   have h1 : b * 2 ^ d < f.infRung := Nat.lt_of_lt_of_le (Nat.mul_lt_mul_of_pos_right (by omega : b < b + d + 1) (two_pos d)) hfit
   have hq : val f r / unitH b d = 0 := Nat.div_eq_of_lt hlt
   have ht : val f r % unitH b d = val f r := Nat.mod_eq_of_lt hlt
   have hg : goesR way s b d r = moreT way s 0 (val f r) (unitH b d) := by
    have z := @val_zero_iff f r
    cases way with
    | zero => rfl
    | up => unfold goesR exactR moreT; simp only [if_neg c1, if_pos c2, ne_eq, z, decide_not]
    | down => unfold goesR exactR moreT; simp only [if_neg c1, if_pos c2, ne_eq, z, decide_not]
    | even =>
     unfold goesR moreT
     have ho : oddR b d (wholeR b d r) = false := by
      rw [hw]; unfold oddR
      rw [if_pos (by left; rw [Nat.zero_div]; omega)]
     rw [ho, Bool.and_false, Bool.or_false]
     have e0 : decide (0 % 2 = 1) = false := by decide
     rw [e0, Bool.and_false, Bool.or_false]
     unfold moreR
     rw [if_neg c1, if_pos c2]
     by_cases c3 : r / 2 ^ d = b - 1
     ·rw [decide_eq_true c3, Bool.true_and]
      refine decide_eq_decide.2 ?_
      have hv := val_e hB (r := r) (by omega)
      have e2 : 2 * val f r = (2 ^ d + r % 2 ^ d) * 2 ^ (b - 1) := by
       rw [hv, c3, Nat.mul_comm 2, Nat.mul_assoc, ← Nat.pow_succ]; congr 2; omega
      rw [e2, hu, Nat.mul_lt_mul_right (two_pos _)]
      omega
     ·rw [decide_eq_false c3, Bool.false_and]
      refine (decide_eq_false ?_).symm
      intro h
      have : 2 ^ d * 2 ^ (r / 2 ^ d) * 2 ≤ unitH b d := by
       rw [hu, Nat.mul_assoc, ← Nat.pow_succ]
       exact Nat.mul_le_mul_left _ (Nat.pow_le_pow_right (by decide) (by omega))
      omega
   unfold vcut roundR
   rw [hq, ht, hg, hw]
   cases moreT way s 0 (val f r) (unitH b d)
   ·refine ⟨?_, ?_⟩
    ·show 0 < _
     omega
    ·show val f 0 = 0 * _
     rw [val_zero, Nat.zero_mul]
   ·have hup : upR b d 0 = b * 2 ^ d := rfl
    rw [if_pos rfl, hup]
    refine ⟨h1, ?_⟩
    rw [hone]
    show _ = 1 * _
    rw [Nat.one_mul]
  ·-- between: k digits stand behind the point
   obtain ⟨k, hk⟩ : ∃ k, b + d - r / 2 ^ d = k := ⟨_, rfl⟩
   obtain ⟨e, he⟩ : ∃ e, r / 2 ^ d = e := ⟨_, rfl⟩
   have hkd : 1 ≤ k ∧ k ≤ d := by omega
   have hv := val_e hB (r := r) (by omega)
   rw [he] at hv hk c1 c2
   have hdk : 2 ^ d = 2 ^ k * 2 ^ (d - k) := by rw [← Nat.pow_add]; congr 1; omega
   have hu : unitH b d = 2 ^ k * 2 ^ (e - 1) := by unfold unitH; rw [← Nat.pow_add]; congr 1; omega
   have hrm : r % 2 ^ d % 2 ^ k = r % 2 ^ k := Nat.mod_mod_of_dvd _ ⟨_, hdk⟩
   have hmod : (2 ^ d + r % 2 ^ d) % 2 ^ k = r % 2 ^ k := by
    rw [hdk, Nat.mul_add_mod, ← hdk, hrm]
   have hq : val f r / unitH b d = (2 ^ d + r % 2 ^ d) / 2 ^ k := by rw [hv, hu, Nat.mul_div_mul_right _ _ (two_pos _)]
   have ht : val f r % unitH b d = r % 2 ^ k * 2 ^ (e - 1) := by rw [hv, hu, Nat.mul_mod_mul_right, hmod]
   have hrs := Nat.div_add_mod r (2 ^ d)
   rw [he] at hrs
   have hlt : r % 2 ^ d < 2 ^ d := Nat.mod_lt _ (two_pos d)
   have hle : r % 2 ^ k ≤ r % 2 ^ d := by rw [← hrm]; exact Nat.mod_le _ _
   have hw : wholeR b d r = r - r % 2 ^ k := by unfold wholeR; rw [he, hk, if_neg c1, if_neg c2]
   -- the whole one's parts
   have hm : r - r % 2 ^ k = 2 ^ d * e + (r % 2 ^ d - r % 2 ^ k) := by omega
   have hmd : (r - r % 2 ^ k) / 2 ^ d = e := by
    rw [hm, Nat.mul_add_div (two_pos d), Nat.div_eq_of_lt (by omega), Nat.add_zero]
   have hmm : (r - r % 2 ^ k) % 2 ^ d = r % 2 ^ d - r % 2 ^ k := by
    rw [hm, Nat.mul_add_mod, Nat.mod_eq_of_lt (by omega)]
   obtain ⟨q, hQ⟩ : ∃ q, (2 ^ d + r % 2 ^ d) / 2 ^ k = q := ⟨_, rfl⟩
   have hqk : 2 ^ d + (r % 2 ^ d - r % 2 ^ k) = 2 ^ k * q := by
    have := Nat.div_add_mod (2 ^ d + r % 2 ^ d) (2 ^ k)
    rw [hmod, hQ] at this
    omega
   have hg : goesR way s b d r = moreT way s q (r % 2 ^ k) (2 ^ k) := by
    cases way with
    | zero => rfl
    | up => unfold goesR exactR moreT; simp only [he, hk, if_neg c1, if_neg c2, ne_eq, decide_not]
    | down => unfold goesR exactR moreT; simp only [he, hk, if_neg c1, if_neg c2, ne_eq, decide_not]
    | even =>
     unfold goesR moreT
     have ho : oddR b d (wholeR b d r) = decide (q % 2 = 1) := by
      rw [hw]; unfold oddR
      rw [hmd, hmm, hk, if_neg (by omega)]
      rw [show r % 2 ^ d - r % 2 ^ k + 2 ^ d = 2 ^ k * q by omega, Nat.mul_div_cancel_left _ (two_pos k)]
     rw [ho]
     unfold moreR halfR
     rw [he, hk, if_neg c1, if_neg c2, if_neg c1, if_neg c2]
     have h2 : 2 ^ k = 2 * 2 ^ (k - 1) := by rw [← Nat.pow_succ']; congr 1; omega
     have q1 : decide (2 ^ (k - 1) < r % 2 ^ k) = decide (2 ^ k < 2 * (r % 2 ^ k)) := decide_eq_decide.2 (by omega)
     have q2 : decide (r % 2 ^ k = 2 ^ (k - 1)) = decide (2 ^ k = 2 * (r % 2 ^ k)) := decide_eq_decide.2 (by omega)
     rw [q1, q2]
   unfold vcut roundR
   rw [hq, ht, hQ, hg, hw]
   have hms : moreT way s q (r % 2 ^ k * 2 ^ (e - 1)) (unitH b d) = moreT way s q (r % 2 ^ k) (2 ^ k) := by rw [hu]; exact more_scale way s q _ _ (two_pos _)
   rw [hms]
   cases moreT way s q (r % 2 ^ k) (2 ^ k)
   ·refine ⟨?_, ?_⟩
    ·show r - r % 2 ^ k < _
     omega
    ·show val f (r - r % 2 ^ k) = q * unitH b d
     rw [val_e hB (by rw [hmd]; omega), hmd, hmm, hqk, hu, Nat.mul_comm (2 ^ k) q, Nat.mul_assoc]
   ·rw [if_pos rfl]
    have hup : upR b d (r - r % 2 ^ k) = r - r % 2 ^ k + 2 ^ k := by
     unfold upR
     rw [hmd, hk, if_neg]
     intro h0
     rw [h0, Nat.zero_div] at hmd
     omega
    rw [hup]
    have hqs : 2 ^ d + (r % 2 ^ d - r % 2 ^ k) + 2 ^ k = 2 ^ k * (q + 1) := by rw [hqk, Nat.mul_succ]
    have hstep : r % 2 ^ d - r % 2 ^ k + 2 ^ k ≤ 2 ^ d := by
     have hz : (r % 2 ^ d - r % 2 ^ k) = 2 ^ k * (r % 2 ^ d / 2 ^ k) := by
      have := Nat.div_add_mod (r % 2 ^ d) (2 ^ k)
      rw [hrm] at this; omega
     have hl : r % 2 ^ d / 2 ^ k < 2 ^ (d - k) := by
      rw [Nat.div_lt_iff_lt_mul (two_pos k), Nat.mul_comm, ← hdk]; exact hlt
     have h9 : 2 ^ k * (r % 2 ^ d / 2 ^ k) + 2 ^ k ≤ 2 ^ k * 2 ^ (d - k) := by rw [← Nat.mul_succ]; exact Nat.mul_le_mul_left _ hl
     rw [← hdk] at h9
     rw [hz]
     exact h9
    refine ⟨?_, ?_⟩
    ·have h3 : r - r % 2 ^ k + 2 ^ k ≤ 2 ^ d * (e + 1) := by rw [hm, Nat.mul_succ]; omega
     refine Nat.lt_of_le_of_lt h3 (Nat.lt_of_lt_of_le ?_ hfit)
     rw [Nat.mul_comm]
     exact Nat.mul_lt_mul_of_pos_right (by omega) (two_pos d)
    ·show val f _ = (q + 1) * unitH b d
     rcases Nat.lt_or_ge (r % 2 ^ d - r % 2 ^ k + 2 ^ k) (2 ^ d) with h4 | h4
     ·have e1 : r - r % 2 ^ k + 2 ^ k = 2 ^ d * e + (r % 2 ^ d - r % 2 ^ k + 2 ^ k) := by omega
      have e2 : (r - r % 2 ^ k + 2 ^ k) / 2 ^ d = e := by rw [e1, Nat.mul_add_div (two_pos d), Nat.div_eq_of_lt h4, Nat.add_zero]
      have e3 : (r - r % 2 ^ k + 2 ^ k) % 2 ^ d = r % 2 ^ d - r % 2 ^ k + 2 ^ k := by rw [e1, Nat.mul_add_mod, Nat.mod_eq_of_lt h4]
      rw [val_e hB (by rw [e2]; omega), e2, e3, ← Nat.add_assoc, hqs, hu, Nat.mul_comm (2 ^ k) (q + 1), Nat.mul_assoc]
     ·have e0 : r % 2 ^ d - r % 2 ^ k + 2 ^ k = 2 ^ d := by omega
      have e1 : r - r % 2 ^ k + 2 ^ k = 2 ^ d * (e + 1) := by rw [Nat.mul_succ]; omega
      rw [e1, val_e hB (by rw [Nat.mul_div_cancel_left _ (two_pos d)]; omega), Nat.mul_div_cancel_left _ (two_pos d), Nat.mul_mod_right, Nat.add_zero, hu]
      have e5 : 2 ^ k * (q + 1) = 2 ^ d * 2 := by rw [← hqs]; omega
      rw [← Nat.mul_assoc, Nat.mul_comm (q + 1), e5, Nat.mul_assoc, ← Nat.pow_succ']
      congr 2; omega
end Go.Fl
namespace Go.Ev
open Go.RowKit Go.Fl
section
variable {P : Program} {G : List (Nat × SV)} {f : FuncId} {fn : Func} {e : Array Value → Sem Value}
noncomputable def intV (way : Ieee.Toward) (x : Nat) : Nat := Ieee.double.write ((Ieee.double.read x).integral way)
noncomputable def intS (way : Ieee.Toward) : Spec := guarded fun
 | [.f .f64 x] => some (!isN Ieee.double x, .f .f64 (intV way x))
 | [.nan .f64] => some (true, .nan .f64)
 | _ => none
theorem int_un (name : String) (way : Ieee.Toward) (x : Nat) : Extern.MathFloor.toIntegral name way #[.float .f64 x] = (match FloatKind.f64.decode x with
  | .nan s t => if FloatKind.f64.format.quiet t = t then (pure (.float .f64 x) : Sem Value) else (choose (.extern "math.Floor,Ceil,Trunc,RoundToEven.signallingNaN kept" 2)) >>= fun kept => pure (.float .f64 (if kept == 1 then x else FloatKind.f64.encode (.nan s (FloatKind.f64.format.quiet t))))
  | d => pure (.float .f64 (FloatKind.f64.encode (d.integral way)))) := rfl
theorem root_un (x : Nat) : Extern.MathSqrt.sqrt #[.float .f64 x] = (match FloatKind.f64.format.sqrt x with
  | some r => (pure (.float .f64 r) : Sem Value)
  | none => choose (.nanBits .f64 x x) >>= fun y => pure (.float .f64 y)) := rfl
theorem int_run {way : Ieee.Toward} {name : String} {x : Nat} (hx : isN Ieee.double x = false) (w : World) : (Extern.MathFloor.toIntegral name way #[.float .f64 x]).run P w = .ok (.float .f64 (intV way x)) w := by
 have e : FloatKind.f64.decode x = Ieee.double.read x := rfl
 rw [int_un, e]
 unfold intV
 cases hd : Ieee.double.read x with
 | nan s t =>
  have := isN_iff two_d x
  rw [hd, hx] at this
  cases this
 | infinity s => rfl
 | number s m i => rfl
theorem quiet_nan (s : Bool) (t : Nat) (ht : t < Ieee.double.binade) : nanOK .f64 (FloatKind.f64.encode (.nan s (FloatKind.f64.format.quiet t))) := by
 refine ⟨?_, write_lt two_d _⟩
 show (Ieee.double.read (Ieee.double.word s (Ieee.double.infRung + Ieee.double.quiet t % Ieee.double.binade))).isNaN = true
 have hq : Ieee.double.quiet t < Ieee.double.binade := by
  unfold Ieee.Format.quiet
  exact Nat.or_lt_two_pow (n := 52) ht (by decide)
 have hp : 0 < Ieee.double.quiet t := by
  unfold Ieee.Format.quiet
  have : (2 ^ 51 : Nat) ≤ t ||| 2 ^ (Ieee.double.fractionBits - 1) := Nat.right_le_or
  have h2 : (0 : Nat) < 2 ^ 51 := by decide
  omega
 rw [Nat.mod_eq_of_lt hq, Fl.read_nan Ieee.double s (by omega) ?_ (by decide)]
 ·rfl
 ·have e : Ieee.double.infRung + Ieee.double.binade = Ieee.double.signWeight := by decide
  omega
theorem int_nan {way : Ieee.Toward} {name : String} {x : Nat} (hx : nanOK .f64 x) (w : World) : ∃ v w', (Extern.MathFloor.toIntegral name way #[.float .f64 x]).run P w = .ok v w' ∧ (∃ y, v = .float .f64 y ∧ nanOK .f64 y) ∧ Below w.heap.size w w' := by
 have hn : isN Ieee.double x = true := by
  have := hx.1
  rw [show FloatKind.f64.decode x = Ieee.double.read x from rfl, isN_iff two_d] at this
  exact this
 have e : FloatKind.f64.decode x = .nan (ng Ieee.double x) (rg Ieee.double x - Ieee.double.infRung) := by
  show Ieee.double.read x = _
  rw [read_as, Fl.read_nan Ieee.double _ (of_decide_eq_true hn) (rg_lt _ x) (by decide)]
 have hb : rg Ieee.double x - Ieee.double.infRung < Ieee.double.binade := by
  have h1 := rg_lt Ieee.double x
  have h0 := of_decide_eq_true hn
  have hp : 0 < Ieee.double.binade := by decide
  have e : Ieee.double.infRung + Ieee.double.binade = Ieee.double.signWeight := by decide
  omega
 have hq := quiet_nan (ng Ieee.double x) _ hb
 rw [int_un, e]
 simp only
 by_cases hc : FloatKind.f64.format.quiet (rg Ieee.double x - Ieee.double.infRung) = rg Ieee.double x - Ieee.double.infRung
 ·rw [if_pos hc]
  exact ⟨_, w, rfl, ⟨x, rfl, hx⟩, Below.refl _ _⟩
 ·rw [if_neg hc]
  refine ⟨_, { w with drawn := w.drawn + 1 }, by simp [Question.forced]; rfl, ?_, below_drew w⟩
  refine ⟨_, rfl, ?_⟩
  split
  ·exact hx
  ·exact hq
theorem int_ok {way : Ieee.Toward} {name : String} (x : ExtF P f (Extern.MathFloor.toIntegral name way)) : Sound P G f (intS way) := by
 refine Sound.of_ptG fun ds d hd => ?_
 split at hd
 ·rename_i a
  simp only [Option.some.injEq, Prod.mk.injEq, Bool.not_eq_true'] at hd
  obtain ⟨h1, rfl⟩ := hd
  refine x.pt fun w args hl => ?_
  simp only [lie, lies] at hl
  obtain ⟨v, t, rfl, rfl, rfl⟩ := hl
  exact ⟨_, w, int_run h1 w, Below.refl _ _, by simp only [lies]⟩
 ·simp only [Option.some.injEq, Prod.mk.injEq] at hd
  obtain ⟨_, rfl⟩ := hd
  refine x.pt fun w args hl => ?_
  simp only [lie, lies] at hl
  obtain ⟨v, t, rfl, ⟨a, rfl, ha⟩, rfl⟩ := hl
  obtain ⟨v', w', h1, h2, h3⟩ := int_nan (P := P) (way := way) (name := name) ha w
  exact ⟨v', w', h1, h3, by simp only [lies]; exact h2⟩
 ·cases hd
noncomputable def rootS : Spec := gtwo fun
 | [.f .f64 x] => some (true, (Ieee.double.sqrt x).isNone, .nan .f64, .f .f64 ((Ieee.double.sqrt x).getD 0))
 | [.nan .f64] => some (true, true, .nan .f64, .nan .f64)
 | _ => none
theorem root_some {x r : Nat} (h : Ieee.double.sqrt x = some r) (w : World) : (Extern.MathSqrt.sqrt #[.float .f64 x]).run P w = .ok (.float .f64 r) w := by
 have e : FloatKind.f64.format.sqrt x = some r := h
 rw [root_un, e]
 rfl
theorem root_none {x : Nat} (h : Ieee.double.sqrt x = none) (w : World) : ∃ v w', (Extern.MathSqrt.sqrt #[.float .f64 x]).run P w = .ok v w' ∧ (∃ y, v = .float .f64 y ∧ nanOK .f64 y) ∧ Below w.heap.size w w' := by
 have e : FloatKind.f64.format.sqrt x = none := h
 refine ⟨.float .f64 ((Question.nanBits .f64 x x).cut (w.tape w.drawn (.nanBits .f64 x x))), { w with drawn := w.drawn + 1 }, ?_, ⟨_, rfl, cut_nan .f64 x x _⟩, below_drew w⟩
 rw [root_un, e]
 simp [Question.forced]
theorem sqrt_nan {x : Nat} (h : isN Ieee.double x = true) : Ieee.double.sqrt x = none := by
 unfold Ieee.Format.sqrt
 obtain ⟨u, hu⟩ := read_none two_d h
 rw [hu]; rfl
theorem root_ok (x : ExtF P f Extern.MathSqrt.sqrt) : Sound P G f rootS := by
 refine Fl.Sound.of_gtwo fun ds b d e hd => ?_
 split at hd
 ·rename_i a
  simp only [Option.some.injEq, Prod.mk.injEq, true_and] at hd
  obtain ⟨rfl, rfl, rfl⟩ := hd
  refine x.pt fun w args hl => ?_
  simp only [lie, lies] at hl
  obtain ⟨v, t, rfl, rfl, rfl⟩ := hl
  cases hs : Ieee.double.sqrt a with
  | none =>
   obtain ⟨v', w', h1, h2, h3⟩ := root_none (P := P) hs w
   exact ⟨v', w', h1, h3, by simp only [Option.isNone_none, if_true, lies]; exact h2⟩
  | some r => exact ⟨_, w, root_some hs w, Below.refl _ _, by simp [lies]⟩
 ·simp only [Option.some.injEq, Prod.mk.injEq, true_and] at hd
  obtain ⟨rfl, rfl, rfl⟩ := hd
  refine x.pt fun w args hl => ?_
  simp only [lie, lies] at hl
  obtain ⟨v, t, rfl, ⟨a, rfl, ha⟩, rfl⟩ := hl
  have hn : isN Ieee.double a = true := by
   have := ha.1
   rw [show FloatKind.f64.decode a = Ieee.double.read a from rfl, isN_iff two_d] at this
   exact this
  obtain ⟨v', w', h1, h2, h3⟩ := root_none (P := P) (sqrt_nan hn) w
  exact ⟨v', w', h1, h3, by simp only [if_true, lies]; exact h2⟩
 ·cases hd
end
end Go.Ev
namespace Go.Fl
open Ieee Go.Ev Go.RowKit Go.Wh
theorem unit_U {f : Format} {b d : Nat} (H : Half f b d) (hbd : b + d ≤ 3000) : U = unitH b d * 2 ^ (f.leastPlace + 4000).toNat := by
 have hl := H.least
 have d1 := H.d1
 unfold U sc unitH
 rw [Nat.one_mul, ← Nat.pow_add]
 congr 1
 omega
theorem round_sc {f : Format} {b d : Nat} (H : Half f b d) (hbd : b + d ≤ 3000) (way : Toward) (s : Bool) {r : Nat} (hr : r < f.infRung) : sc (val f (roundR way s b d r)) f.leastPlace = vcut way s (sc (val f r) f.leastPlace) U * U := by
 obtain ⟨_, h2⟩ := round_ok H way s hr
 have hU := unit_U H hbd
 have e : vcut way s (sc (val f r) f.leastPlace) U = vcut way s (val f r) (unitH b d) := by
  rw [hU]
  exact vcut_scale way s _ _ (two_pos _)
 rw [e]
 unfold sc
 rw [h2, hU, Nat.mul_assoc]
def bW (w : Int) : Nat := if w = 32 then 127 else 1023
def dW (w : Int) : Nat := if w = 32 then 23 else 52
theorem half_W {w : Int} : Half (fmW w) (bW w) (dW w) ∧ bW w + dW w ≤ 3000 := by
 unfold fmW bW dW
 split
 ·exact ⟨half_s, by decide⟩
 ·exact ⟨half_d, by decide⟩
theorem integral_rd {f : Format} (t : Two f) (way : Toward) {x : Nat} (hf : fin f x = true) : (f.read x).integral way = .number (ng f x) (vcut way (ng f x) (wo f x) U) 0 := by
 rw [read_fin hf]
 unfold Datum.integral
 simp only
 rw [cut_v way _ _ (pl_ge t x)]
 rfl
def rnN (way : Toward) (w : Int) (a : Nat) : Nat := (fmW w).word (ng (fmW w) a) (roundR way (ng (fmW w) a) (bW w) (dW w) (rg (fmW w) a))
theorem round_inf {b d r : Nat} (way : Toward) (s : Bool) (h : b + d ≤ r / 2 ^ d) : roundR way s b d r = r := by
 have hw : wholeR b d r = r := by unfold wholeR; rw [if_pos h]
 have hg : goesR way s b d r = false := by
  unfold goesR exactR moreR halfR
  simp only [if_pos h]
  cases way <;> simp
 unfold roundR
 rw [hg, hw]; rfl
theorem inf_far (w : Int) : bW w + dW w ≤ (fmW w).infRung / 2 ^ dW w := by
 unfold fmW bW dW
 split <;> decide
theorem rn_facts {w : Int} (way : Toward) {a : Nat} (hn : isN (fmW w) a = false) :
  fin (fmW w) (rnN way w a) = fin (fmW w) a ∧ isN (fmW w) (rnN way w a) = false ∧ ng (fmW w) (rnN way w a) = ng (fmW w) a ∧ (fin (fmW w) a = true → wo (fmW w) (rnN way w a) = vcut way (ng (fmW w) a) (wo (fmW w) a) U * U) ∧ (fin (fmW w) a = false → rnN way w a = (fmW w).word (ng (fmW w) a) (fmW w).infRung) ∧
  rg (fmW w) (rnN way w a) = roundR way (ng (fmW w) a) (bW w) (dW w) (rg (fmW w) a) := by
 obtain ⟨H, hbd⟩ := @half_W w
 cases hf : fin (fmW w) a
 ·have e := rg_inf hf hn
  have er : roundR way (ng (fmW w) a) (bW w) (dW w) (rg (fmW w) a) = (fmW w).infRung := by rw [e]; exact round_inf way _ (inf_far w)
  have ew : rnN way w a = (fmW w).word (ng (fmW w) a) (fmW w).infRung := by unfold rnN; rw [er]
  obtain ⟨h1, h2⟩ := word_mod (fmW w) (ng (fmW w) a) (inf_lt (fmW w))
  rw [er, ew]
  refine ⟨decide_eq_false ?_, decide_eq_false ?_, h2, fun h => (by cases h), fun _ => rfl, h1⟩
  ·show ¬ (fmW w).word _ _ % (fmW w).signWeight < _
   rw [h1]; exact Nat.lt_irrefl _
  ·show ¬ _ < (fmW w).word _ _ % (fmW w).signWeight
   rw [h1]; exact Nat.lt_irrefl _
 ·have hr := of_decide_eq_true hf
  obtain ⟨h1, _⟩ := round_ok H way (ng (fmW w) a) hr
  obtain ⟨a1, a2, a3⟩ := wo_word (fmW w) (ng (fmW w) a) h1
  refine ⟨a1, fin_notN a1, a2, fun _ => ?_, fun h => (by cases h), a3⟩
  have e1 : wo (fmW w) (rnN way w a) = sc (val (fmW w) (roundR way (ng (fmW w) a) (bW w) (dW w) (rg (fmW w) a))) (fmW w).leastPlace := wo_val H.two a3
  rw [e1, round_sc H hbd way _ hr, wo_val H.two rfl]
theorem near_wo {f : Format} (t : Two f) {z q : Nat} (hz : fin f z = true) (h : wo f z = q * U) (hl : z < 2 * f.signWeight) : f.nearest (ng f z) q 0 = z := by
 refine (nearest_exact f t.least.1 (ng f z) (m := q) (p := 0) (by decide) (of_decide_eq_true hz) ?_).trans (same_word hl)
 rw [sc_int, ← h, wo_val t rfl]
theorem rn_lt {w : Int} (way : Toward) {a : Nat} (hn : isN (fmW w) a = false) : rnN way w a < 2 * (fmW w).signWeight := by
 obtain ⟨_, _, _, _, _, h⟩ := rn_facts way hn
 have := rg_lt (fmW w) (rnN way w a)
 rw [h] at this
 exact word_lt (fmW w) _ this
theorem int_wd {w : Int} (way : Toward) {a : BitVec 64} (ha : inF w a = true) (hn : noW w a = false) : intV way (wdW w a) = wdW w (BitVec.ofNat 64 (rnN way w a.toNat)) ∧ inF w (BitVec.ofNat 64 (rnN way w a.toNat)) = true ∧ noW w (BitVec.ofNat 64 (rnN way w a.toNat)) = false := by
 have hn' : isN (fmW w) a.toNat = false := hn
 obtain ⟨f1, f2, f3, f4, f5, f6⟩ := rn_facts way hn'
 have hlt := rn_lt way hn'
 have hlt64 : rnN way w a.toNat < 2 ^ 64 := by
  refine Nat.lt_of_lt_of_le hlt ?_
  unfold fmW
  split <;> decide
 have et : (BitVec.ofNat 64 (rnN way w a.toNat)).toNat = rnN way w a.toNat := by rw [BitVec.toNat_ofNat, Nat.mod_eq_of_lt hlt64]
 have hno : noW w (BitVec.ofNat 64 (rnN way w a.toNat)) = false := by unfold noW; rw [et]; exact f2
 have hw : wOK w = true := by unfold inF at ha; rw [Bool.and_eq_true] at ha; exact ha.1
 have hin : inF w (BitVec.ofNat 64 (rnN way w a.toNat)) = true := by rw [in_iff hw, et]; exact hlt
 refine ⟨?_, hin, hno⟩
 unfold intV
 rcases wOK_cases hw with rfl | rfl
 ·show double.write ((double.read (lng a.toNat)).integral way) = lng (BitVec.ofNat 64 (rnN way 32 a.toNat)).toNat
  rw [et]
  cases hf : fin single a.toNat
  ·have l1 := lng_fin hn'
   rw [hf] at l1
   rw [read_infty two_d l1 (lng_notN hn')]
   have e5 : rnN way 32 a.toNat = single.word (ng single a.toNat) single.infRung := f5 hf
   rw [e5, lng_ng hn']
   unfold lng
   rw [read_inf single _ two_s.least.2.2]
   rfl
  ·have l1 := longer hf
   obtain ⟨l1, l2, l3⟩ := l1
   have l1' : fin double (lng a.toNat) = true := l1
   have l2' : ng double (lng a.toNat) = ng single a.toNat := l2
   have l3' : wo double (lng a.toNat) = wo single a.toNat := l3
   rw [integral_rd two_d way l1', l2', l3']
   have g1 : fin single (rnN way 32 a.toNat) = true := f1.trans hf
   obtain ⟨m1, m2, m3⟩ := longer g1
   have f3' : ng single (rnN way 32 a.toNat) = ng single a.toNat := f3
   have f4' : wo single (rnN way 32 a.toNat) = vcut way (ng single a.toNat) (wo single a.toNat) U * U := f4 hf
   have := near_wo (f := double) two_d (z := lng (rnN way 32 a.toNat)) m1 (m3.trans f4') (lng_bits f2)
   rw [show ng double (lng (rnN way 32 a.toNat)) = ng single a.toNat from m2.trans f3'] at this
   exact this
 ·show double.write ((double.read a.toNat).integral way) = (BitVec.ofNat 64 (rnN way 64 a.toNat)).toNat
  rw [et]
  cases hf : fin double a.toNat
  ·rw [read_infty two_d hf hn']
   exact (f5 hf).symm
  ·rw [integral_rd two_d way hf]
   have g1 : fin double (rnN way 64 a.toNat) = true := f1.trans hf
   have := near_wo (f := double) two_d (z := rnN way 64 a.toNat) g1 (f4 hf) hlt
   rw [show ng double (rnN way 64 a.toNat) = ng double a.toNat from f3] at this
   exact this
theorem bs_wd {w : Int} {a : BitVec 64} (ha : inF w a = true) (hn : noW w a = false) : bsC w (wdW w a) = true ∧ bsV w (wdW w a) = a := by
 rcases inF_cases ha with ⟨rfl, la⟩ | rfl
 ·have hn' : isN single a.toNat = false := hn
  refine ⟨?_, ?_⟩
  ·show (isN double (lng a.toNat) || fin single (single.write (double.read (lng a.toNat))) || !fin double (lng a.toNat)) = true
   rw [lng_back la hn', lng_fin hn']
   cases fin single a.toNat <;> cases isN double (lng a.toNat) <;> rfl
  ·show (if isN double (lng a.toNat) = true then naW 32 else if (32 : Int) = 32 then BitVec.ofNat 64 (single.write (double.read (lng a.toNat))) else BitVec.ofNat 64 (lng a.toNat)) = a
   rw [lng_notN hn', lng_back la hn']
   exact ofN_toNat a
 ·have hn' : isN double a.toNat = false := hn
  refine ⟨decide_eq_true a.isLt, ?_⟩
  show (if isN double a.toNat = true then naW 64 else if (64 : Int) = 32 then _ else BitVec.ofNat 64 a.toNat) = a
  rw [hn']
  exact ofN_toNat a
def rnW (way : Toward) (w : Int) (a : BitVec 64) : BitVec 64 := if noW w a = true then naW w else BitVec.ofNat 64 (rnN way w a.toNat)
theorem bs_int {w : Int} (way : Toward) {a : BitVec 64} (ha : inF w a = true) (hn : noW w a = false) : bsC w (intV way (wdW w a)) = true ∧ bsV w (intV way (wdW w a)) = rnW way w a := by
 obtain ⟨h1, h2, h3⟩ := int_wd way ha hn
 rw [h1]
 unfold rnW
 rw [hn]
 exact bs_wd h2 h3
end Go.Fl
namespace Go.Fl
open Ieee Go.Ev Go.RowKit Go.Wh
theorem val_le (f : Format) {r t : Nat} (h : val f r ≤ val f t) : r ≤ t := by
 rcases Nat.lt_or_ge t r with g | g
 ·have := val_lt f g; omega
 ·exact g
theorem rnW_num {w : Int} (way : Toward) {a : BitVec 64} (hn : noW w a = false) : (rnW way w a).toNat = rnN way w a.toNat ∧ noW w (rnW way w a) = false := by
 have hlt := rn_lt way (w := w) (a := a.toNat) hn
 have hlt64 : rnN way w a.toNat < 2 ^ 64 := by
  refine Nat.lt_of_lt_of_le hlt ?_
  unfold fmW
  split <;> decide
 have et : (BitVec.ofNat 64 (rnN way w a.toNat)).toNat = rnN way w a.toNat := by rw [BitVec.toNat_ofNat, Nat.mod_eq_of_lt hlt64]
 have e : rnW way w a = BitVec.ofNat 64 (rnN way w a.toNat) := by unfold rnW; rw [hn]; rfl
 refine ⟨by rw [e, et], ?_⟩
 unfold noW
 rw [e, et]
 exact (rn_facts way (w := w) (a := a.toNat) hn).2.1
theorem na_no {w : Int} (h : wOK w = true) : inF w (naW w) = true ∧ noW w (naW w) = true := by
 rcases wOK_cases h with rfl | rfl <;> exact ⟨by decide, by decide⟩
theorem rnW_in {w : Int} (way : Toward) {a : BitVec 64} (ha : inF w a = true) : inF w (rnW way w a) = true := by
 have hw : wOK w = true := by unfold inF at ha; rw [Bool.and_eq_true] at ha; exact ha.1
 cases hn : noW w a
 ·rw [in_iff hw, (rnW_num way hn).1]
  exact rn_lt way (w := w) (a := a.toNat) hn
 ·unfold rnW
  rw [hn]
  exact (na_no hw).1
end Go.Fl
namespace Go.Fl
open Ieee Go.Ev Go.RowKit Go.Wh
theorem wOK_in {w : Int} {a : BitVec 64} (h : inF w a = true) : wOK w = true := by
 unfold inF at h
 rw [Bool.and_eq_true] at h
 exact h.1
theorem in_le {w : Int} {a : BitVec 64} (h : inF w a = true) : a ≤ maskF w := by
 rw [BitVec.le_def]
 rcases inF_cases h with ⟨rfl, h2⟩ | rfl
 ·have e : (maskF 32).toNat = 4294967295 := by decide
  rw [e]; omega
 ·have e : (maskF 64).toNat = 18446744073709551615 := by decide
  have := a.isLt
  rw [e]; omega
theorem in_zero {w : Int} (h : wOK w = true) : inF w 0#64 = true := by rcases wOK_cases h with rfl | rfl <;> rfl
theorem in_bits {w : Int} {a b c : BitVec 64} (ha : inF w a = true) (hb : inF w b = true) (h : ∀ i, a.getLsbD i = false → b.getLsbD i = false → c.getLsbD i = false) : inF w c = true := by
 have hw := wOK_in ha
 obtain ⟨k, hk, hs, hf, _⟩ := sg_pow hw
 have la := in_lt ha
 have lb := in_lt hb
 rw [in_iff hw]
 rw [hf, show 2 * 2 ^ k = 2 ^ (k + 1) by rw [Nat.pow_succ]; omega] at la lb ⊢
 exact lt_of_bits fun i h1 _ => h i (hi_zero la h1) (hi_zero lb h1)
theorem in_or {w : Int} {a b : BitVec 64} (ha : inF w a = true) (hb : inF w b = true) : inF w (a ||| b) = true := in_bits ha hb fun i h1 h2 => by rw [BitVec.getLsbD_or, h1, h2]; rfl
theorem in_and {w : Int} {a : BitVec 64} (b : BitVec 64) (ha : inF w a = true) : inF w (a &&& b) = true := in_bits ha ha fun i h1 _ => by rw [BitVec.getLsbD_and, h1]; rfl
theorem in_nat {w : Int} (hw : wOK w = true) {x : Nat} (h : x < 2 * (fmW w).signWeight) : inF w (BitVec.ofNat 64 x) = true := by
 rw [in_iff hw, BitVec.toNat_ofNat]
 exact Nat.lt_of_le_of_lt (Nat.mod_le _ _) h
theorem in_cl {w : Int} (hw : wOK w = true) {r : Option Nat} (h : ∀ x, r = some x → x < 2 * (fmW w).signWeight) : inF w (clO w r) = true := by
 cases r with
 | none => exact (na_no hw).1
 | some x =>
  unfold clO
  simp only
  split
  ·exact (na_no hw).1
  ·exact in_nat hw (h x rfl)
theorem in_ls {w : Int} (neg : Bool) {a b : BitVec 64} (ha : inF w a = true) (hb : inF w b = true) : inF w (lsW neg w a b) = true := by
 unfold lsW
 split
 ·exact (na_no (wOK_in ha)).1
 ·split
  ·split
   ·exact in_or ha hb
   ·exact in_and _ ha
  ·split
   ·exact ha
   ·exact hb
theorem in_tw {w : Int} (o : BitVec 8) {a b : BitVec 64} (ha : inF w a = true) (hb : inF w b = true) : inF w (twW o w a b) = true := by
 have hw := wOK_in ha
 unfold twW
 split
 ·exact in_cl hw fun x hx => arN_lt (two_fm w) o hx
 ·split
  ·exact in_ls _ ha hb
  ·split
   ·exact in_ls _ ha hb
   ·split
    ·exact in_or (in_and _ ha) (in_and _ hb)
    ·split
     ·split
      ·exact hb
      ·exact ha
     ·split
      ·split
       ·exact hb
       ·exact ha
      ·exact in_zero hw
theorem tw_fits {w : Int} (hw : wOK w = true) (o : BitVec 8) (a b : BitVec 64) : ftwV o w a b ≤ maskF w := by
 unfold ftwV
 split
 ·rename_i hm
  obtain ⟨ha, hb⟩ := maW2 hm
  exact in_le (in_tw o ha hb)
 ·exact in_le (in_zero hw)
theorem in_bs {w : Int} (hw : wOK w = true) (x : Nat) : inF w (bsV w x) = true := by
 unfold bsV
 split
 ·exact (na_no hw).1
 ·rcases wOK_cases hw with rfl | rfl
  ·exact in_nat rfl (write_lt two_s _)
  ·rfl
end Go.Fl
