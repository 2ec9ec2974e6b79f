/-
  Part of the proof; what its functions and lemmas say stands in the text.
-/
import GoSem.Core.Float
import Derived.Test.YtnbafdmlfpmfkaaGreatDoorWhB
set_option linter.unusedSimpArgs false
set_option linter.unusedVariables false
namespace Go.Fl
open Ieee
theorem two_pos (n : Nat) : 0 < 2 ^ n := Nat.two_pow_pos n
theorem pow_add (a b : Nat) : (2 : Nat) ^ (a + b) = 2 ^ a * 2 ^ b := Nat.pow_add 2 a b
theorem cut_exact (neg : Bool) (q drop : Nat) : Toward.even.cut neg (q * 2 ^ drop) drop = q := by
 unfold Toward.cut
 by_cases hq : q = 0
 ·subst hq; simp
 ·have hn : q * 2 ^ drop ≠ 0 := Nat.mul_ne_zero hq (Nat.ne_of_gt (two_pos _))
  have hd : drop ≤ (q * 2 ^ drop).log2 := (Nat.le_log2 hn).2 (Nat.le_mul_of_pos_left _ (Nat.pos_of_ne_zero hq))
  have hm : min drop ((q * 2 ^ drop).log2 + 2) = drop := Nat.min_eq_left (Nat.le_trans hd (Nat.le_add_right _ _))
  simp only [hm, Nat.one_shiftLeft, Nat.mul_mod_left, Nat.mul_div_cancel _ (two_pos drop)]
  have h1 : ¬ 2 ^ drop < 2 * 0 := by simp
  have h2 : (2 ^ drop == 2 * 0) = false := by simp
  simp [h1, h2]
def val (f : Format) (r : Nat) : Nat := if r < f.binade then r else (f.binade + r % f.binade) * 2 ^ (r / f.binade - 1)
theorem binade_pos (f : Format) : 0 < f.binade := two_pos _
theorem word_false (f : Format) (r : Nat) : f.word false r = r := rfl
theorem word_true (f : Format) (r : Nat) : f.word true r = f.signWeight + r := rfl
theorem inf_lt (f : Format) : f.infRung < f.signWeight := by
 unfold Format.infRung Format.signWeight Format.binade
 rw [pow_add]
 exact Nat.mul_lt_mul_of_pos_right (by have := two_pos f.exponentBits; omega) (two_pos _)
theorem word_mod (f : Format) (s : Bool) {r : Nat} (h : r < f.signWeight) : f.word s r % f.signWeight = r ∧ (f.word s r / f.signWeight % 2 == 1) = s := by
 have hp : 0 < f.signWeight := two_pos _
 cases s
 ·rw [word_false, Nat.mod_eq_of_lt h, Nat.div_eq_of_lt h]
  exact ⟨rfl, rfl⟩
 ·rw [word_true, Nat.add_mod_left, Nat.mod_eq_of_lt h, Nat.add_div_left _ hp, Nat.div_eq_of_lt h]
  exact ⟨rfl, rfl⟩
theorem word_lt (f : Format) (s : Bool) {r : Nat} (h : r < f.signWeight) : f.word s r < 2 * f.signWeight := by
 cases s
 ·rw [word_false]; omega
 ·rw [word_true]; omega
def mag (f : Format) (r : Nat) : Nat := if r < f.binade then r else f.binade + r % f.binade
def up (f : Format) (r : Nat) : Nat := if r < f.binade then 0 else r / f.binade - 1
theorem val_parts (f : Format) (r : Nat) : val f r = mag f r * 2 ^ up f r := by
 unfold val mag up
 split
 ·simp
 ·rfl
theorem read_word (f : Format) (s : Bool) {r : Nat} (h : r < f.infRung) : f.read (f.word s r) = .number s (mag f r) (f.leastPlace + (up f r : Nat)) := by
 obtain ⟨h1, h2⟩ := word_mod f s (Nat.lt_trans h (inf_lt f))
 unfold Format.read mag up
 simp only [h1, h2, h, if_true]
 split
 ·simp
 ·rfl
theorem read_inf (f : Format) (s : Bool) (hB : f.binade ≤ f.infRung) : f.read (f.word s f.infRung) = .infinity s := by
 obtain ⟨h1, h2⟩ := word_mod f s (inf_lt f)
 unfold Format.read
 simp only [h1, h2]
 rw [if_neg (by omega), if_neg (by omega)]
 simp
theorem read_nan (f : Format) (s : Bool) {r : Nat} (h : f.infRung < r) (hl : r < f.signWeight) (hB : f.binade ≤ f.infRung) : f.read (f.word s r) = .nan s (r - f.infRung) := by
 obtain ⟨h1, h2⟩ := word_mod f s hl
 unfold Format.read
 simp only [h1, h2]
 rw [if_neg (by omega), if_neg (by omega), if_neg (by omega)]
theorem word_of (f : Format) {x : Nat} (h : x < 2 * f.signWeight) : x = f.word (x / f.signWeight % 2 == 1) (x % f.signWeight) := by
 have hp : 0 < f.signWeight := two_pos _
 have e := Nat.div_add_mod x f.signWeight
 have hd : x / f.signWeight < 2 := by rw [Nat.div_lt_iff_lt_mul hp]; exact h
 revert e hd
 generalize x / f.signWeight = d
 intro e hd
 match d, hd with
 | 0, _ =>
  simp only [Nat.mul_zero, Nat.zero_add] at e
  exact e.symm
 | 1, _ =>
  simp only [Nat.mul_one] at e
  exact e.symm
theorem mag_lt (f : Format) (r : Nat) : mag f r < 2 * f.binade := by
 have := Nat.mod_lt r (binade_pos f)
 unfold mag
 split <;> omega
theorem mag_ge {f : Format} {r : Nat} (h : up f r ≠ 0) : f.binade ≤ mag f r := by
 unfold up at h
 unfold mag
 split at h
 ·exact absurd rfl h
 ·rename_i hr; rw [if_neg hr]; omega
theorem rung_parts (f : Format) (r : Nat) : r = up f r * f.binade + mag f r := by
 unfold up mag
 split
 ·simp
 ·rename_i h
  have hd : 1 ≤ r / f.binade := (Nat.one_le_div_iff (binade_pos f)).2 (by omega)
  have e := Nat.div_add_mod r f.binade
  obtain ⟨k, hk⟩ : ∃ k, r / f.binade = k + 1 := ⟨r / f.binade - 1, by omega⟩
  rw [hk] at e ⊢
  simp only [Nat.add_sub_cancel]
  rw [Nat.mul_comm, Nat.succ_mul] at e
  omega
theorem of_parts (f : Format) {L kept : Nat} (h1 : kept < 2 * f.binade) (h2 : L ≠ 0 → f.binade ≤ kept) : mag f (L * f.binade + kept) = kept ∧ up f (L * f.binade + kept) = L := by
 have hp := binade_pos f
 unfold mag up
 by_cases hL : L = 0
 ·subst hL
  simp only [Nat.zero_mul, Nat.zero_add]
  by_cases hk : kept < f.binade
  ·rw [if_pos hk, if_pos hk]; exact ⟨rfl, rfl⟩
  ·rw [if_neg hk, if_neg hk]
   have e1 : kept / f.binade = 1 := by
    rw [Nat.div_eq_iff hp]; omega
   have e2 := Nat.div_add_mod kept f.binade
   rw [e1] at e2 ⊢
   omega
 ·have hk := h2 hL
  have hge : f.binade ≤ L * f.binade := Nat.le_mul_of_pos_left _ (Nat.pos_of_ne_zero hL)
  rw [if_neg (by omega), if_neg (by omega)]
  have e1 : (L * f.binade + kept) / f.binade = L + kept / f.binade := by rw [Nat.add_comm, Nat.add_mul_div_right _ _ hp, Nat.add_comm]
  have e2 : (L * f.binade + kept) % f.binade = kept % f.binade := by rw [Nat.add_comm, Nat.add_mul_mod_self_right]
  have e3 : kept / f.binade = 1 := by rw [Nat.div_eq_iff hp]; omega
  have e4 := Nat.div_add_mod kept f.binade
  rw [e3] at e4
  rw [e1, e2, e3]
  omega
def sc (m : Nat) (p : Int) : Nat := m * 2 ^ (p + 4000).toNat
theorem sc_up {m : Nat} {p : Int} (h : -4000 ≤ p) (k : Nat) : sc m (p + k) = sc (m * 2 ^ k) p := by
 unfold sc
 have : (p + (k : Int) + 4000).toNat = k + (p + 4000).toNat := by omega
 rw [this, pow_add, Nat.mul_assoc]
theorem sc_zero (p : Int) : sc 0 p = 0 := by simp [sc]
theorem sc_pos {m : Nat} (h : m ≠ 0) (p : Int) : 0 < sc m p := Nat.mul_pos (Nat.pos_of_ne_zero h) (two_pos _)
theorem nearest_exact (f : Format) (hl : -4000 ≤ f.leastPlace) (neg : Bool) {m : Nat} {p : Int} (hp : -4000 ≤ p) {r : Nat} (hr : r < f.infRung) (h : sc m p = sc (val f r) f.leastPlace) : f.nearest neg m p = f.word neg r := by
 unfold Format.nearest
 by_cases hm : m = 0
 ·subst hm
  rw [if_pos rfl]
  rw [sc_zero] at h
  have : val f r = 0 := by
   rcases Nat.eq_zero_or_pos (val f r) with h0 | h0
   ·exact h0
   ·have := sc_pos (Nat.ne_of_gt h0) f.leastPlace; omega
  have hr0 : r = 0 := by
   unfold val at this
   split at this
   ·exact this
   ·have hb := binade_pos f
    have := two_pos (r / f.binade - 1)
    have : (f.binade + r % f.binade) * 2 ^ (r / f.binade - 1) ≠ 0 := Nat.mul_ne_zero (by omega) (by omega)
    contradiction
  rw [hr0]
 ·rw [if_neg hm]
  have hL1 := Nat.log2_self_le hm
  have hL2 := @Nat.lt_log2_self m
  have hg : mag f r ≠ 0 := by
   intro h0
   rw [val_parts, h0, Nat.zero_mul, sc_zero] at h
   have := sc_pos hm p; omega
  -- the exponents: m * 2 ^ (p + 4000) = mag * 2 ^ (up + least + 4000)
  have e : m * 2 ^ (p + 4000).toNat = mag f r * 2 ^ (up f r + (f.leastPlace + 4000).toNat) := by
   have : sc (val f r) f.leastPlace = mag f r * 2 ^ (up f r + (f.leastPlace + 4000).toNat) := by
    rw [val_parts]; unfold sc; rw [pow_add, Nat.mul_assoc]
   rw [← this]; exact h
  have hB : f.binade = 2 ^ f.fractionBits := rfl
  have hmag := mag_lt f r
  -- logs
  have lg : m.log2 + (p + 4000).toNat = (mag f r).log2 + (up f r + (f.leastPlace + 4000).toNat) := by
   have l1 : (m * 2 ^ (p + 4000).toNat).log2 = m.log2 + (p + 4000).toNat := by
    refine (Nat.log2_eq_iff (Nat.mul_ne_zero hm (Nat.ne_of_gt (two_pos _)))).2 ⟨?_, ?_⟩
    ·rw [pow_add]; exact Nat.mul_le_mul_right _ hL1
    ·rw [show m.log2 + (p + 4000).toNat + 1 = (m.log2 + 1) + (p + 4000).toNat by omega, pow_add]
     exact Nat.mul_lt_mul_of_pos_right hL2 (two_pos _)
   have l2 : (mag f r * 2 ^ (up f r + (f.leastPlace + 4000).toNat)).log2 = (mag f r).log2 + (up f r + (f.leastPlace + 4000).toNat) := by
    refine (Nat.log2_eq_iff (Nat.mul_ne_zero hg (Nat.ne_of_gt (two_pos _)))).2 ⟨?_, ?_⟩
    ·rw [pow_add (mag f r).log2]; exact Nat.mul_le_mul_right _ (Nat.log2_self_le hg)
    ·rw [show (mag f r).log2 + (up f r + (f.leastPlace + 4000).toNat) + 1 = ((mag f r).log2 + 1) + (up f r + (f.leastPlace + 4000).toNat) by omega, pow_add ((mag f r).log2 + 1)]
     exact Nat.mul_lt_mul_of_pos_right Nat.lt_log2_self (two_pos _)
   rw [← l1, e, l2]
  have hfb : (mag f r).log2 ≤ f.fractionBits := by
   have : (mag f r).log2 < f.fractionBits + 1 := (Nat.log2_lt hg).2 (by rw [Nat.pow_succ, Nat.mul_comm]; exact hmag)
   omega
  have hlast : max (p + (m.log2 : Int) - (f.fractionBits : Int)) f.leastPlace = f.leastPlace + (up f r : Int) := by
   by_cases hu : up f r = 0
   ·rw [hu]; omega
   ·have h1 : f.fractionBits ≤ (mag f r).log2 := (Nat.le_log2 hg).2 (mag_ge hu)
    omega
  simp only [hlast]
  have hkept : Toward.even.cut neg (m <<< (p - (f.leastPlace + (up f r : Int))).toNat) ((f.leastPlace + (up f r : Int)) - p).toNat = mag f r := by
   rw [Nat.shiftLeft_eq]
   rcases Int.le_total (f.leastPlace + (up f r : Int)) p with hle | hle
   ·have z : ((f.leastPlace + (up f r : Int)) - p).toNat = 0 := by omega
    rw [z]
    have x := cut_exact neg (m * 2 ^ (p - (f.leastPlace + (up f r : Int))).toNat) 0
    rw [Nat.pow_zero, Nat.mul_one] at x
    rw [x]
    refine Nat.eq_of_mul_eq_mul_right (two_pos (up f r + (f.leastPlace + 4000).toNat)) ?_
    rw [Nat.mul_assoc, ← pow_add, ← e]
    congr 2
    omega
   ·have z : (p - (f.leastPlace + (up f r : Int))).toNat = 0 := by omega
    rw [z, Nat.pow_zero, Nat.mul_one]
    have : m = mag f r * 2 ^ ((f.leastPlace + (up f r : Int)) - p).toNat := by
     refine Nat.eq_of_mul_eq_mul_right (two_pos (p + 4000).toNat) ?_
     rw [Nat.mul_assoc, ← pow_add, e]
     congr 2
     omega
    conv => lhs; arg 3; rw [this]
    exact cut_exact neg _ _
  rw [hkept]
  have z : (f.leastPlace + (up f r : Int) - f.leastPlace).toNat = up f r := by omega
  rw [z, ← rung_parts, Nat.min_eq_left (Nat.le_of_lt hr)]
theorem has_exact (f : Format) (hl : -4000 ≤ f.leastPlace) (he : 2 ≤ f.exponentBits) {m : Nat} {p : Int} (hm : m < 2 * f.binade) (hp : f.leastPlace ≤ p) (hb : p + (m.log2 : Int) - f.fractionBits - f.leastPlace + 2 ≤ ((2 ^ f.exponentBits - 1 : Nat) : Int)) :
  ∃ r, r < f.infRung ∧ sc m p = sc (val f r) f.leastPlace := by
 have h4 : 4 ≤ 2 ^ f.exponentBits := Nat.pow_le_pow_right (n := 2) (by decide) he
 have hB : f.binade = 2 ^ f.fractionBits := rfl
 have hBp := binade_pos f
 have fin : ∀ L kept : Nat, kept < 2 * f.binade → (L ≠ 0 → f.binade ≤ kept) → L + 2 ≤ 2 ^ f.exponentBits - 1 → sc m p = sc (kept * 2 ^ L) f.leastPlace → ∃ r, r < f.infRung ∧ sc m p = sc (val f r) f.leastPlace := by
  intro L kept h1 h2 h3 h5
  refine ⟨L * f.binade + kept, ?_, ?_⟩
  ·unfold Format.infRung
   have : (L + 2) * f.binade ≤ (2 ^ f.exponentBits - 1) * f.binade := Nat.mul_le_mul_right _ h3
   rw [Nat.add_mul] at this
   omega
  ·obtain ⟨e1, e2⟩ := of_parts f h1 h2
   rw [val_parts, e1, e2]
   exact h5
 by_cases h0 : m = 0
 ·subst h0
  exact fin 0 0 (by omega) (by omega) (by omega) (by rw [sc_zero, Nat.zero_mul, sc_zero])
 ·have hL1 := Nat.log2_self_le h0
  have hL2 := @Nat.lt_log2_self m
  have hfb : m.log2 ≤ f.fractionBits := by
   have : m.log2 < f.fractionBits + 1 := (Nat.log2_lt h0).2 (by rw [Nat.pow_succ, Nat.mul_comm]; exact hm)
   omega
  obtain ⟨k, hk⟩ : ∃ k : Nat, p - max (p + (m.log2 : Int) - f.fractionBits) f.leastPlace = k := ⟨(p - max (p + (m.log2 : Int) - f.fractionBits) f.leastPlace).toNat, by omega⟩
  obtain ⟨L, hL⟩ : ∃ L : Nat, max (p + (m.log2 : Int) - f.fractionBits) f.leastPlace - f.leastPlace = L := ⟨(max (p + (m.log2 : Int) - f.fractionBits) f.leastPlace - f.leastPlace).toNat, by omega⟩
  have hkf : m.log2 + k ≤ f.fractionBits := by omega
  refine fin L (m * 2 ^ k) ?_ ?_ (by omega) ?_
  ·have : m * 2 ^ k < 2 ^ (m.log2 + 1) * 2 ^ k := Nat.mul_lt_mul_of_pos_right hL2 (two_pos _)
   have h6 : 2 ^ (m.log2 + 1) * 2 ^ k ≤ 2 * f.binade := by
    rw [← pow_add, hB, show 2 * 2 ^ f.fractionBits = 2 ^ (f.fractionBits + 1) by rw [Nat.pow_succ]; omega]
    exact Nat.pow_le_pow_right (by decide) (by omega)
   omega
  ·intro hL0
   have : m.log2 + k = f.fractionBits := by omega
   rw [hB, ← this, pow_add]
   exact Nat.mul_le_mul_right _ hL1
  ·rw [Nat.mul_assoc, ← pow_add, ← sc_up hl]
   congr 1
   omega
theorem single_least : single.leastPlace = -149 := by decide
theorem double_least : double.leastPlace = -1074 := by decide
end Go.Fl
namespace Go.Fl
open Ieee
def sg (s : Bool) (x : Nat) : Int := if s = true then -(x : Int) else (x : Int)
theorem signed_eq (s : Bool) (m k : Nat) : signed s m k = sg s (m * 2 ^ k) := by
 unfold signed sg
 rw [Nat.shiftLeft_eq]
theorem cmp_scale {a b : Int} {c : Nat} (hc : 0 < c) : compare (a * c) (b * c) = compare a b := by
 have hc' : (0 : Int) < (c : Int) := by omega
 rcases Int.lt_trichotomy a b with h | h | h
 ·have h2 : a * c < b * c := Int.mul_lt_mul_of_pos_right h hc'
  rw [Int.compare_eq_lt.2 h, Int.compare_eq_lt.2 h2]
 ·subst h; rw [Int.compare_eq_eq.2 rfl, Int.compare_eq_eq.2 rfl]
 ·have h2 : b * c < a * c := Int.mul_lt_mul_of_pos_right h hc'
  rw [Int.compare_eq_gt.2 h, Int.compare_eq_gt.2 h2]
theorem sg_mul (s : Bool) (m c : Nat) : sg s m * (c : Int) = sg s (m * c) := by
 unfold sg
 split
 ·rw [Int.natCast_mul, Int.neg_mul]
 ·rw [Int.natCast_mul]
theorem sc_base {m : Nat} {i b : Int} (hb : -4000 ≤ b) (h : b ≤ i) : sc m i = m * 2 ^ (i - b).toNat * 2 ^ (b + 4000).toNat := by
 unfold sc
 rw [Nat.mul_assoc, ← pow_add]
 congr 2
 omega
theorem order_num (s : Bool) (m : Nat) (i : Int) (t : Bool) (n : Nat) (j : Int) (hi : -4000 ≤ i) (hj : -4000 ≤ j) :
  Datum.order (.number s m i) (.number t n j) = some (compare (sg s (sc m i)) (sg t (sc n j))) := by
 unfold Datum.order
 simp only [signed_eq]
 have hb : -4000 ≤ min i j := by omega
 rw [sc_base hb (Int.min_le_left i j), sc_base hb (Int.min_le_right i j), ← sg_mul s (m * 2 ^ (i - min i j).toNat), ← sg_mul t (n * 2 ^ (j - min i j).toNat), cmp_scale (two_pos _)]
theorem cut_zero (neg : Bool) (n drop : Nat) : Toward.zero.cut neg n drop = n / 2 ^ drop := by
 unfold Toward.cut
 simp only [Nat.one_shiftLeft, Bool.toNat_false, Nat.add_zero]
 rcases Nat.le_total drop (n.log2 + 2) with h | h
 ·rw [Nat.min_eq_left h]
 ·rw [Nat.min_eq_right h]
  have h1 : n < 2 ^ (n.log2 + 2) := Nat.lt_trans Nat.lt_log2_self (Nat.pow_lt_pow_right (by decide) (by omega))
  have h2 : n < 2 ^ drop := Nat.lt_of_lt_of_le h1 (Nat.pow_le_pow_right (by decide) h)
  rw [Nat.div_eq_of_lt h1, Nat.div_eq_of_lt h2]
def U : Nat := sc 1 0
theorem U_pos : 0 < U := sc_pos (by decide) 0
theorem sc_div (m : Nat) {i : Int} (hi : -4000 ≤ i) : sc m i / U = m * 2 ^ i.toNat / 2 ^ (-i).toNat := by
 unfold U sc
 rw [Nat.one_mul]
 generalize hN : (0 + 4000 : Int).toNat = N
 have hN' : (N : Int) = 4000 := by omega
 rcases Int.le_total 0 i with h | h
 ·have e1 : (-i).toNat = 0 := by omega
  have e2 : (i + 4000).toNat = i.toNat + N := by omega
  rw [e1, e2, Nat.pow_zero, Nat.div_one, pow_add, ← Nat.mul_assoc, Nat.mul_div_cancel _ (two_pos _)]
 ·have e1 : i.toNat = 0 := by omega
  have e2 : N = (-i).toNat + (i + 4000).toNat := by omega
  rw [e1, Nat.pow_zero, Nat.mul_one]
  conv => lhs; rw [e2, pow_add]
  rw [Nat.mul_div_mul_right _ _ (two_pos _)]
theorem toInt_num (s : Bool) (m : Nat) (i : Int) (hi : -4000 ≤ i) : Datum.toInt .zero (.number s m i) = some (sg s (sc m i / U)) := by
 unfold Datum.toInt Datum.integral
 simp only [signed_eq, Nat.pow_zero, Nat.mul_one, cut_zero]
 rw [sc_div m hi, Nat.shiftLeft_eq]
theorem cut_even (neg : Bool) (n drop : Nat) : Toward.even.cut neg n drop = n / 2 ^ drop + (decide (2 ^ drop < 2 * (n % 2 ^ drop)) || (decide (2 ^ drop = 2 * (n % 2 ^ drop)) && decide (n / 2 ^ drop % 2 = 1))).toNat := by
 unfold Toward.cut
 simp only [Nat.one_shiftLeft]
 rcases Nat.le_total drop (n.log2 + 2) with h | h
 ·rw [Nat.min_eq_left h]
  rfl
 ·rw [Nat.min_eq_right h]
  have h1 : n < 2 ^ (n.log2 + 1) := Nat.lt_log2_self
  have h2 : 2 ^ (n.log2 + 2) = 2 * 2 ^ (n.log2 + 1) := by rw [Nat.pow_succ]; omega
  have h3 : 2 ^ (n.log2 + 2) ≤ 2 ^ drop := Nat.pow_le_pow_right (by decide) h
  have e1 : n / 2 ^ (n.log2 + 2) = 0 := Nat.div_eq_of_lt (by omega)
  have e2 : n % 2 ^ (n.log2 + 2) = n := Nat.mod_eq_of_lt (by omega)
  have e3 : n / 2 ^ drop = 0 := Nat.div_eq_of_lt (by omega)
  have e4 : n % 2 ^ drop = n := Nat.mod_eq_of_lt (by omega)
  rw [e1, e2, e3, e4]
  have n1 : ¬ 2 ^ (n.log2 + 2) < 2 * n := by omega
  have n2 : ¬ 2 ^ drop < 2 * n := by omega
  simp [n1, n2]
end Go.Fl
namespace Go.Fl
open Ieee Go.Ev Go.RowKit Go.Wh
theorem ofInt_small {n : Int} (h0 : 0 ≤ n) (h1 : n < 18446744073709551616) : (BitVec.ofInt 64 n).toNat = n.toNat := by
 rw [BitVec.toNat_ofInt]
 omega
end Go.Fl
namespace Go.Fl
open Ieee Go.Ev Go.RowKit Go.Wh
theorem or_two (k : Nat) {x y : BitVec 64} (h1 : x.toNat = 2 ^ k) (h2 : y.toNat < 2 ^ k) : (x ||| y).toNat = x.toNat + y.toNat := by
 rw [BitVec.toNat_or, h1]
 have := Nat.two_pow_add_eq_or_of_lt h2 1
 rw [Nat.mul_one] at this
 exact this.symm
theorem kept_bound (neg : Bool) {n k c : Nat} (h : n < 2 ^ (c + k)) : Toward.even.cut neg n k ≤ 2 ^ c := by
 rw [cut_even]
 have hp := two_pos k
 have : n / 2 ^ k < 2 ^ c := by rw [Nat.div_lt_iff_lt_mul hp, ← pow_add]; exact h
 generalize (decide (2 ^ k < 2 * (n % 2 ^ k)) || (decide (2 ^ k = 2 * (n % 2 ^ k)) && decide (n / 2 ^ k % 2 = 1))) = c
 cases c <;> simp <;> omega
theorem cut_sign (s t : Bool) (n k : Nat) : Toward.even.cut s n k = Toward.even.cut t n k := by rw [cut_even, cut_even]
end Go.Fl
