/-
  Part of the proof; what its functions and lemmas say stands in the text.
-/
import Derived.Test.YtimaanpcglbnpaaDoorFlC
set_option linter.unusedSimpArgs false
set_option linter.unusedVariables false
/-!
Floats: the nearest one keeps the order; roots are not too great.
-/
namespace Go.Fl
open Ieee Go.Ev Go.RowKit Go.Wh

theorem val_kept (f : Format) {T k : Nat} (h1 : k ≤ 2 * f.binade) (h2 : T ≠ 0 → f.binade ≤ k) : val f (T * f.binade + k) = k * 2 ^ T := by
  rcases Nat.lt_or_ge k (2 * f.binade) with h | h
  · obtain ⟨a1, a2⟩ := of_parts f (L := T) h h2
    rw [val_parts, a1, a2]
  · have e : k = 2 * f.binade := by omega
    have hp := binade_pos f
    obtain ⟨a1, a2⟩ := of_parts f (L := T + 1) (kept := f.binade) (by omega) (fun _ => Nat.le_refl _)
    have e2 : T * f.binade + k = (T + 1) * f.binade + f.binade := by rw [e, Nat.add_mul]; omega
    rw [e2, val_parts, a1, a2, e, Nat.pow_succ, Nat.mul_comm 2, Nat.mul_assoc, Nat.mul_comm 2]
/-- The rung before infinity cuts it. -/
theorem nearest_parts (f : Format) (hl : -4000 ≤ f.leastPlace) (s : Bool) {m : Nat} (hm : m ≠ 0) {p : Int} (hp : -4000 ≤ p) :
    ∃ T n k, f.nearest s m p = f.word s (min (T * f.binade + Toward.even.cut s n k) f.infRung) ∧ n * (2 ^ T * 2 ^ (f.leastPlace + 4000).toNat) = sc m p * 2 ^ k ∧ n < 2 ^ (f.fractionBits + 1 + k) ∧ (T ≠ 0 → 2 ^ (f.fractionBits + k) ≤ n) := by
  obtain ⟨last, hlast⟩ : ∃ last, max (p + m.log2 - f.fractionBits) f.leastPlace = last := ⟨_, rfl⟩
  have hlm : 2 ^ m.log2 ≤ m := Nat.log2_self_le hm
  have hlm2 : m < 2 ^ (m.log2 + 1) := Nat.lt_log2_self
  refine ⟨(last - f.leastPlace).toNat, m <<< (p - last).toNat, (last - p).toNat, ?_, ?_, ?_, ?_⟩
  · unfold Format.nearest
    rw [if_neg hm]
    simp only [hlast]
  · rw [Nat.shiftLeft_eq]
    unfold sc
    rw [← Nat.pow_add, Nat.mul_assoc, ← Nat.pow_add, Nat.mul_assoc, ← Nat.pow_add]
    congr 2
    omega
  · rw [Nat.shiftLeft_eq]
    calc m * 2 ^ (p - last).toNat < 2 ^ (m.log2 + 1) * 2 ^ (p - last).toNat := Nat.mul_lt_mul_of_pos_right hlm2 (two_pos _)
      _ = 2 ^ (m.log2 + 1 + (p - last).toNat) := by rw [← Nat.pow_add]
      _ ≤ 2 ^ (f.fractionBits + 1 + (last - p).toNat) := Nat.pow_le_pow_right (by decide) (by omega)
  · intro hT
    rw [Nat.shiftLeft_eq]
    calc 2 ^ (f.fractionBits + (last - p).toNat) ≤ 2 ^ (m.log2 + (p - last).toNat) := Nat.pow_le_pow_right (by decide) (by omega)
      _ = 2 ^ m.log2 * 2 ^ (p - last).toNat := by rw [← Nat.pow_add]
      _ ≤ m * 2 ^ (p - last).toNat := Nat.mul_le_mul_right _ hlm
theorem nearest_le (f : Format) (hl : -4000 ≤ f.leastPlace) (s : Bool) {m : Nat} {p : Int} (hp : -4000 ≤ p) {t : Nat} (h : sc m p ≤ sc (val f t) f.leastPlace) : ∃ r, r ≤ t ∧ r ≤ f.infRung ∧ f.nearest s m p = f.word s r := by
  by_cases hm : m = 0
  · refine ⟨0, Nat.zero_le _, Nat.zero_le _, ?_⟩
    unfold Format.nearest
    rw [if_pos hm]
  · obtain ⟨T, n, k, e1, e2, e3, e4⟩ := nearest_parts f hl s hm hp
    refine ⟨_, ?_, Nat.min_le_right _ _, e1⟩
    refine Nat.le_trans (Nat.min_le_left _ _) ?_
    have hB : f.binade = 2 ^ f.fractionBits := rfl
    have k1 : Toward.even.cut s n k ≤ 2 * f.binade := by
      rw [hB, ← Nat.pow_succ']
      exact kept_bound s e3
    have hS : 0 < 2 ^ (f.leastPlace + 4000).toNat := two_pos _
    have hK : 0 < 2 ^ k := two_pos k
    have hX : sc m p * 2 ^ k ≤ val f t * 2 ^ (f.leastPlace + 4000).toNat * 2 ^ k := Nat.mul_le_mul_right _ h
    rw [← e2] at hX
    have hdm := Nat.div_add_mod n (2 ^ k)
    have hq1 : T ≠ 0 → f.binade ≤ n / 2 ^ k := fun hT => by
      rw [Nat.le_div_iff_mul_le hK, hB, ← Nat.pow_add]
      exact e4 hT
    rw [cut_more] at k1 ⊢
    cases hmore : moreT .even s (n / 2 ^ k) (n % 2 ^ k) (2 ^ k)
    · rw [hmore] at k1
      have kq : n / 2 ^ k ≤ 2 * f.binade := k1
      show T * f.binade + n / 2 ^ k ≤ t
      refine val_le f ?_
      rw [val_kept f kq hq1]
      have h5 : n / 2 ^ k * 2 ^ k ≤ n := Nat.div_mul_le_self _ _
      have h6 : n / 2 ^ k * 2 ^ k * (2 ^ T * 2 ^ (f.leastPlace + 4000).toNat) ≤ val f t * 2 ^ (f.leastPlace + 4000).toNat * 2 ^ k := Nat.le_trans (Nat.mul_le_mul_right _ h5) hX
      have h7 : n / 2 ^ k * 2 ^ T * (2 ^ (f.leastPlace + 4000).toNat * 2 ^ k) ≤ val f t * (2 ^ (f.leastPlace + 4000).toNat * 2 ^ k) := by
        have a1 : n / 2 ^ k * 2 ^ k * (2 ^ T * 2 ^ (f.leastPlace + 4000).toNat) = n / 2 ^ k * 2 ^ T * (2 ^ (f.leastPlace + 4000).toNat * 2 ^ k) := by ac_rfl
        rw [a1, Nat.mul_assoc (val f t)] at h6
        exact h6
      exact Nat.le_of_mul_le_mul_right h7 (Nat.mul_pos hS hK)
    · rw [hmore] at k1
      have kq : n / 2 ^ k + 1 ≤ 2 * f.binade := k1
      show T * f.binade + (n / 2 ^ k + 1) ≤ t
      apply Nat.le_of_not_lt
      intro hc
      have h5 : t ≤ T * f.binade + n / 2 ^ k := by omega
      have h6 : val f t ≤ n / 2 ^ k * 2 ^ T := by
        rw [← val_kept f (by omega) hq1]
        rcases Nat.lt_or_eq_of_le h5 with g | g
        · exact Nat.le_of_lt (val_lt f g)
        · rw [g]; exact Nat.le_refl _
      have h7 : n * (2 ^ T * 2 ^ (f.leastPlace + 4000).toNat) ≤ n / 2 ^ k * 2 ^ k * (2 ^ T * 2 ^ (f.leastPlace + 4000).toNat) := by
        refine Nat.le_trans hX ?_
        have a1 : n / 2 ^ k * 2 ^ k * (2 ^ T * 2 ^ (f.leastPlace + 4000).toNat) = n / 2 ^ k * 2 ^ T * (2 ^ (f.leastPlace + 4000).toNat * 2 ^ k) := by ac_rfl
        rw [a1, Nat.mul_assoc (val f t)]
        exact Nat.mul_le_mul_right _ h6
      have h8 : n ≤ n / 2 ^ k * 2 ^ k := Nat.le_of_mul_le_mul_right h7 (Nat.mul_pos (two_pos T) hS)
      have h9 : n % 2 ^ k = 0 := by rw [Nat.mul_comm] at h8; omega
      rw [h9] at hmore
      unfold moreT at hmore
      simp at hmore
/-! ### Roots -/
theorem rootFrom_lt (n : Nat) : ∀ (todo root : Nat), Datum.rootFrom n todo root < root + 2 ^ todo
  | 0, root => by unfold Datum.rootFrom; rw [Nat.pow_zero]; omega
  | todo + 1, root => by
    unfold Datum.rootFrom
    simp only [Nat.one_shiftLeft]
    have hp := two_pos todo
    split
    · have := rootFrom_lt n todo (root + 2 ^ todo)
      rw [Nat.pow_succ]; omega
    · have := rootFrom_lt n todo root
      rw [Nat.pow_succ]; omega
theorem val_pow {f : Format} {b d : Nat} (H : Half f b d) (hbd : b + d ≤ 3000) (j : Nat) : sc (val f ((b + j) * 2 ^ d)) f.leastPlace = 2 ^ j * U := by
  have e1 : (b + j) * 2 ^ d / 2 ^ d = b + j := Nat.mul_div_cancel _ (two_pos d)
  have b2 := H.b2
  have d1 := H.d1
  rw [val_e H.binade (by rw [e1]; omega), e1, Nat.mul_mod_left, Nat.add_zero, unit_U H hbd]
  have h : 2 ^ d * 2 ^ (b + j - 1) = 2 ^ j * 2 ^ (b + d - 1) := by rw [← Nat.pow_add, ← Nat.pow_add]; congr 1; omega
  unfold sc unitH
  rw [h, Nat.mul_assoc]
theorem val_mono (f : Format) {r t : Nat} (h : r ≤ t) : val f r ≤ val f t := by
  rcases Nat.lt_or_eq_of_le h with g | g
  · exact Nat.le_of_lt (val_lt f g)
  · rw [g]; exact Nat.le_refl _
/-- What is not too great is a short float. -/
theorem short_of_bound {s : Bool} {P : Nat} {pl' : Int} (hp : -4000 ≤ pl') (h : sc P pl' ≤ 2 ^ 66 * U) : shO (double.write (.number s P pl')) = true ∧ isN double (double.write (.number s P pl')) = false := by
  show shO (double.nearest s P pl') = true ∧ isN double (double.nearest s P pl') = false
  have hd := val_pow half_d (by decide) 66
  have hs := val_pow half_s (by decide) 66
  obtain ⟨r, h1, _, e⟩ := nearest_le double two_d.least.1 s hp (t := (1023 + 66) * 2 ^ 52) (by rw [hd]; exact h)
  have hr : r < double.infRung := Nat.lt_of_le_of_lt h1 (by decide)
  obtain ⟨a1, a2, a3⟩ := wo_word double s hr
  rw [e]
  refine ⟨?_, fin_notN a1⟩
  unfold shO
  have hw : sc (mg double (double.word s r)) (pl double (double.word s r)) ≤ 2 ^ 66 * U := by
    have e2 : sc (mg double (double.word s r)) (pl double (double.word s r)) = sc (val double r) double.leastPlace := wo_val two_d a3
    rw [e2, ← hd]
    exact Nat.mul_le_mul_right _ (val_mono double h1)
  obtain ⟨q, q1, _, q3⟩ := nearest_le single two_s.least.1 (ng double (double.word s r)) (pl_ge two_d _) (t := (127 + 66) * 2 ^ 23) (by rw [hs]; exact hw)
  have hq : q < single.infRung := Nat.lt_of_le_of_lt q1 (by decide)
  have e3 : single.write (double.read (double.word s r)) = single.word (ng double (double.word s r)) q := by
    rw [read_fin a1]
    exact q3
  rw [e3, (wo_word single _ hq).1]
  simp
/-- A root of a short float is one. -/
theorem sqrt_short {a r : Nat} (hn : isN single a = false) (h : double.sqrt (lng a) = some r) : shO r = true := by
  unfold Format.sqrt at h
  cases hf : fin single a
  · have l1 := lng_fin hn
    rw [hf] at l1
    have l2 := lng_notN hn
    rw [read_infty two_d l1 l2] at h
    unfold Datum.root at h
    cases hs : ng double (lng a)
    · rw [hs] at h
      have e : double.write (.infinity false) = r := by simpa using h
      rw [← e]
      decide
    · rw [hs] at h; simp at h
  · obtain ⟨l1, l2, l3⟩ := longer hf
    have l1' : fin double (lng a) = true := l1
    have l3' : sc (mg double (lng a)) (pl double (lng a)) = wo single a := l3
    rw [read_fin l1'] at h
    have hmx : wo single a < 2 ^ 128 * U := by
      have e1 := wo_val two_s (rfl : rg single a = rg single a)
      have e2 := val_pow half_s (by decide) 128
      rw [e1, ← e2]
      refine Nat.mul_lt_mul_of_pos_right (val_lt single ?_) (two_pos _)
      have := of_decide_eq_true hf
      have hi : single.infRung = (127 + 128) * 2 ^ 23 := by decide
      omega
    obtain ⟨m, hm⟩ : ∃ m, mg double (lng a) = m := ⟨_, rfl⟩
    obtain ⟨i, hi⟩ : ∃ i, pl double (lng a) = i := ⟨_, rfl⟩
    have hil : -1074 ≤ i := by
      rw [← hi]; unfold pl; rw [double_least]; omega
    rw [hm, hi] at h l3'
    unfold Datum.root at h
    simp only at h
    by_cases h0 : m = 0
    · rw [if_pos h0] at h
      have e : double.write (.number (ng double (lng a)) m i) = r := by simpa using h
      rw [← e]
      refine (short_of_bound (by omega) ?_).1
      rw [h0, sc_zero]; exact Nat.zero_le _
    · rw [if_neg h0] at h
      cases hs : ng double (lng a)
      · rw [hs] at h
        simp only [Bool.false_eq_true, if_false] at h
        have e := Option.some.inj h
        rw [← e]
        obtain ⟨more, hmore⟩ : ∃ more, 2 * (double.fractionBits + 2) - m.log2 + ((i - ((2 * (double.fractionBits + 2) - m.log2 : Nat) : Int)) % 2).toNat = more := ⟨_, rfl⟩
        rw [hmore]
        have hml : more ≤ 2 * 54 + 1 := by
          have : double.fractionBits = 52 := rfl
          omega
        have hlm : 2 ^ m.log2 ≤ m := Nat.log2_self_le h0
        have hU : 0 < U := U_pos
        have hexp : (m.log2 : Int) + i < 128 := by
          apply Int.lt_of_not_ge
          intro hc
          have g1 : 2 ^ 128 * U ≤ sc m i := by
            have hUU : U = 2 ^ (0 + 4000 : Int).toNat := by unfold U sc; rw [Nat.one_mul]
            unfold sc
            rw [hUU, ← Nat.pow_add]
            refine Nat.le_trans (Nat.pow_le_pow_right (by decide) ?_) (Nat.le_trans (Nat.le_of_eq (Nat.pow_add 2 m.log2 (i + 4000).toNat)) (Nat.mul_le_mul_right _ hlm))
            omega
          omega
        have hlog : (m <<< more).log2 = m.log2 + more := by
          rw [Nat.shiftLeft_eq]
          refine (Nat.log2_eq_iff (Nat.mul_ne_zero h0 (Nat.ne_of_gt (two_pos more)))).2 ⟨?_, ?_⟩
          · rw [Nat.pow_add]; exact Nat.mul_le_mul_right _ hlm
          · have : m < 2 ^ (m.log2 + 1) := Nat.lt_log2_self
            rw [show m.log2 + more + 1 = m.log2 + 1 + more by omega, Nat.pow_add]
            exact Nat.mul_lt_mul_of_pos_right this (two_pos _)
        have hroot := rootFrom_lt (m <<< more) ((m <<< more).log2 / 2 + 1) 0
        rw [hlog] at hroot
        rw [hlog]
        generalize Datum.rootFrom (m <<< more) ((m.log2 + more) / 2 + 1) 0 = whole at hroot ⊢
        refine (short_of_bound (by omega) ?_).1
        have hP : 2 * whole + (whole * whole != m <<< more).toNat ≤ 2 ^ ((m.log2 + more) / 2 + 2) := by
          have : (whole * whole != m <<< more).toNat ≤ 1 := Bool.toNat_le _
          rw [Nat.pow_succ]; omega
        have hUU : U = 2 ^ (0 + 4000 : Int).toNat := by unfold U sc; rw [Nat.one_mul]
        refine Nat.le_trans (Nat.mul_le_mul_right _ hP) ?_
        rw [hUU, ← Nat.pow_add, ← Nat.pow_add]
        exact Nat.pow_le_pow_right (by decide) (by omega)
      · rw [hs] at h; simp at h
end Go.Fl
/-!
Floats: the document's rounding on words without a sign.
-/
namespace Go.Fl
open Ieee Go.Ev Go.RowKit Go.Wh

/-- The exponent, as the text counts it. -/
def exV (d : Nat) (b : Int) (a : BitVec 64) : Int := IntKind.i64.wrap (sOfU .i64 (a >>> d) - b)
def shV' (d : Nat) (b : Int) (a : BitVec 64) : Nat := (BitVec.ofInt 64 (IntKind.i64.wrap ((d : Int) - exV d b a))).toNat
theorem exV_eq {d b : Nat} (hd : 1 ≤ d) (hd2 : d ≤ 52) (hb : b ≤ 1023) (a : BitVec 64) : exV d b a = ((a.toNat / 2 ^ d : Nat) : Int) - b := by
  have h1 : (a >>> d).toNat = a.toNat / 2 ^ d := by rw [BitVec.toNat_ushiftRight, Nat.shiftRight_eq_div_pow]
  have h2 : a.toNat / 2 ^ d < 2 ^ 63 := by
    rw [Nat.div_lt_iff_lt_mul (two_pos d)]
    have h3 : 2 ^ 1 ≤ 2 ^ d := Nat.pow_le_pow_right (by decide) hd
    have := a.isLt
    omega
  unfold exV
  rw [sU (by rw [h1]; exact h2), h1, wrap_in (by omega) (by omega)]
theorem shV_eq {d b : Nat} (hd : 1 ≤ d) (hd2 : d ≤ 52) (hb : b ≤ 1023) {a : BitVec 64} (h1 : b ≤ a.toNat / 2 ^ d) (h2 : a.toNat / 2 ^ d ≤ b + d) : shV' d b a = b + d - a.toNat / 2 ^ d := by
  unfold shV'
  rw [exV_eq hd hd2 hb, wrap_in (by omega) (by omega)]
  have e : ((d : Int) - (((a.toNat / 2 ^ d : Nat) : Int) - b)) = ((b + d - a.toNat / 2 ^ d : Nat) : Int) := by omega
  rw [e, BitVec.ofInt_natCast, BitVec.toNat_ofNat, Nat.mod_eq_of_lt (by omega)]
theorem mask_of {k : Nat} (hk : k < 64) : 1#64 <<< k - 1#64 = BitVec.ofNat 64 (2 ^ k - 1) := by
  have h1 : 2 ^ k < 2 ^ 64 := Nat.pow_lt_pow_right (by decide) hk
  have h2 := two_pos k
  apply BitVec.eq_of_toNat_eq
  rw [BitVec.toNat_sub, BitVec.toNat_shiftLeft, BitVec.toNat_ofNat, BitVec.toNat_ofNat, Nat.shiftLeft_eq]
  have e1 : 1 % 2 ^ 64 = 1 := by decide
  rw [e1, Nat.one_mul, Nat.mod_eq_of_lt h1]
  omega
theorem mask_and {k : Nat} (hk : k < 64) (a : BitVec 64) : (a &&& (1#64 <<< k - 1#64)).toNat = a.toNat % 2 ^ k := by
  have h1 : 2 ^ k < 2 ^ 64 := Nat.pow_lt_pow_right (by decide) hk
  rw [mask_of hk, BitVec.toNat_and, BitVec.toNat_ofNat, Nat.mod_eq_of_lt (a := 2 ^ k - 1) (by omega), Nat.and_two_pow_sub_one_eq_mod]
theorem mask_clr {k : Nat} (hk : k < 64) (a : BitVec 64) : (a &&& ~~~(1#64 <<< k - 1#64)).toNat = a.toNat - a.toNat % 2 ^ k := by
  have e : a &&& ~~~(1#64 <<< k - 1#64) = (a >>> k) <<< k := by
    rw [mask_of hk]
    apply BitVec.eq_of_getLsbD_eq
    intro i hi
    have t : (2 ^ k - 1).testBit i = decide (i < k) := Nat.testBit_two_pow_sub_one k i
    rw [BitVec.getLsbD_and, BitVec.getLsbD_not, BitVec.getLsbD_ofNat, BitVec.getLsbD_shiftLeft, BitVec.getLsbD_ushiftRight, t]
    by_cases h : i < k
    · simp [h, hi]
    · have : k + (i - k) = i := by omega
      simp [h, hi, this]
  have hd := Nat.div_add_mod a.toNat (2 ^ k)
  have hlt := a.isLt
  rw [e, BitVec.toNat_shiftLeft, BitVec.toNat_ushiftRight, Nat.shiftRight_eq_div_pow, Nat.shiftLeft_eq, Nat.mul_comm, Nat.mod_eq_of_lt (by omega)]
  omega
def upT (d : Nat) (b : Int) (one a : BitVec 64) : Option D := if (a == 0#64) = true then some (.u64 one) else some (.u64 (a + 1#64 <<< shV' d b a))
def odT (d : Nat) (b : Int) (fm ob a : BitVec 64) : Option D := if decide (exV d b a < 0) = false then (if decide ((d : Int) < exV d b a) = true then some (.bool false) else some (.bool ((a &&& fm ||| ob) >>> shV' d b a &&& 1#64 == 1#64))) else some (.bool false)
def mkV (d : Nat) (b : Int) (a : BitVec 64) : BitVec 64 := 1#64 <<< shV' d b a - 1#64
def whT4 (m : BitVec 64) (x y z : Bool) : Option D := some (.tup [.u64 m, .bool x, .bool y, .bool z])
def whoT (d : Nat) (b : Int) (fm a : BitVec 64) : Option D := if decide ((d : Int) ≤ exV d b a) = true then whT4 a true false false else if decide (exV d b a < 0) = true then
    (if (exV d b a == -1) = true then (if (exV d b a == -1) = true then whT4 0#64 (a == 0#64) (!(a &&& fm == 0#64)) (a &&& fm == 0#64) else whT4 0#64 (a == 0#64) (!(a &&& fm == 0#64)) false)
      else (if (exV d b a == -1) = true then whT4 0#64 (a == 0#64) false (a &&& fm == 0#64) else whT4 0#64 (a == 0#64) false false))
  else whT4 (a &&& ~~~(mkV d b a)) (a &&& mkV d b a == 0#64) (decide ((mkV d b a + 1#64) / 2#64 < a &&& mkV d b a)) (a &&& mkV d b a == (mkV d b a + 1#64) / 2#64)
theorem beq0 (x : BitVec 64) : (x == 0#64) = decide (x.toNat = 0) := by
  by_cases h : x.toNat = 0
  · have : x = 0#64 := BitVec.eq_of_toNat_eq h
    rw [this]; rfl
  · have : x ≠ 0#64 := fun e => h (by rw [e]; rfl)
    rw [decide_eq_false h]
    simpa using this
theorem who_eq {d b : Nat} (hd : 1 ≤ d) (hd2 : d ≤ 52) (hb2 : 2 ≤ b) (hb : b ≤ 1023) (a : BitVec 64) : whoT d b (1#64 <<< d - 1#64) a = whT4 (BitVec.ofNat 64 (wholeR b d a.toNat)) (exactR b d a.toNat) (moreR b d a.toNat) (halfR b d a.toNat) := by
  have ex := exV_eq (b := b) hd hd2 hb a
  have mfm := mask_and (k := d) (by omega) a
  unfold whoT wholeR exactR moreR halfR
  rw [ex]
  by_cases c1 : b + d ≤ a.toNat / 2 ^ d
  · rw [if_pos (decide_eq_true (by omega))]
    simp only [if_pos c1]
    unfold whT4
    rw [show BitVec.ofNat 64 a.toNat = a by apply BitVec.eq_of_toNat_eq; rw [BitVec.toNat_ofNat, Nat.mod_eq_of_lt a.isLt]]
  · rw [if_neg (by rw [decide_eq_true_eq]; omega)]
    simp only [if_neg c1]
    by_cases c2 : a.toNat / 2 ^ d < b
    · rw [if_pos (decide_eq_true (by omega))]
      simp only [if_pos c2]
      rw [beq0 a, beq0, mfm]
      have e1 : ((((a.toNat / 2 ^ d : Nat) : Int) - (b : Int)) == -1) = decide (a.toNat / 2 ^ d = b - 1) := by
        by_cases c3 : a.toNat / 2 ^ d = b - 1
        · rw [decide_eq_true c3]
          have : (((a.toNat / 2 ^ d : Nat) : Int) - (b : Int)) = -1 := by omega
          rw [this]; rfl
        · rw [decide_eq_false c3]
          have : ¬ (((a.toNat / 2 ^ d : Nat) : Int) - (b : Int)) = -1 := by omega
          simpa using this
      rw [e1]
      cases decide (a.toNat / 2 ^ d = b - 1)
      · rfl
      · simp only [if_true, Bool.true_and, decide_not, ne_eq]
    · rw [if_neg (by rw [decide_eq_true_eq]; omega)]
      simp only [if_neg c2]
      have hs := shV_eq (b := b) hd hd2 hb (a := a) (by omega) (by omega)
      obtain ⟨k, hk⟩ : ∃ k, b + d - a.toNat / 2 ^ d = k := ⟨_, rfl⟩
      rw [hk] at hs ⊢
      have hk1 : 1 ≤ k ∧ k ≤ 52 := by omega
      have em : mkV d b a = 1#64 <<< k - 1#64 := by unfold mkV; rw [hs]
      rw [em]
      have m1 := mask_and (k := k) (by omega) a
      have m2 := mask_clr (k := k) (by omega) a
      have hh : ((1#64 <<< k - 1#64 + 1#64) / 2#64).toNat = 2 ^ (k - 1) := by
        have h1 : 1#64 <<< k - 1#64 + 1#64 = 1#64 <<< k := BitVec.sub_add_cancel _ _
        have h2 : 2 ^ k < 2 ^ 64 := Nat.pow_lt_pow_right (by decide) (by omega)
        rw [h1, BitVec.toNat_udiv, BitVec.toNat_shiftLeft, Nat.shiftLeft_eq]
        have e1 : (1#64 : BitVec 64).toNat = 1 := rfl
        have e2 : (2#64 : BitVec 64).toNat = 2 := rfl
        rw [e1, e2, Nat.one_mul, Nat.mod_eq_of_lt h2]
        have e3 : 2 ^ k = 2 ^ (k - 1) * 2 := by rw [← Nat.pow_succ]; congr 1; omega
        rw [e3, Nat.mul_div_cancel _ (by decide)]
      unfold whT4
      have g1 : a &&& ~~~(1#64 <<< k - 1#64) = BitVec.ofNat 64 (a.toNat - a.toNat % 2 ^ k) := by
        apply BitVec.eq_of_toNat_eq
        rw [m2, BitVec.toNat_ofNat, Nat.mod_eq_of_lt (Nat.lt_of_le_of_lt (Nat.sub_le _ _) a.isLt)]
      have g2 : (a &&& 1#64 <<< k - 1#64 == 0#64) = decide (a.toNat % 2 ^ k = 0) := by rw [beq0, m1]
      have g3 : decide ((1#64 <<< k - 1#64 + 1#64) / 2#64 < a &&& 1#64 <<< k - 1#64) = decide (2 ^ (k - 1) < a.toNat % 2 ^ k) := by
        refine decide_eq_decide.2 ?_
        rw [BitVec.lt_def, hh, m1]
      have g4 : (a &&& 1#64 <<< k - 1#64 == (1#64 <<< k - 1#64 + 1#64) / 2#64) = decide (a.toNat % 2 ^ k = 2 ^ (k - 1)) := by
        rw [← hh, ← m1]
        by_cases c : (a &&& 1#64 <<< k - 1#64) = (1#64 <<< k - 1#64 + 1#64) / 2#64
        · rw [c]; simp
        · rw [decide_eq_false (fun e => c (BitVec.eq_of_toNat_eq e))]
          simpa using c
      rw [g1, g2, g3, g4]
theorem up_eq {d b : Nat} (hd : 1 ≤ d) (hd2 : d ≤ 52) (hb : b ≤ 1023) (a : BitVec 64) (h : a.toNat = 0 ∨ (b ≤ a.toNat / 2 ^ d ∧ a.toNat / 2 ^ d ≤ b + d)) (hl : a.toNat < 2 ^ 63) : upT d b (BitVec.ofNat 64 (b * 2 ^ d)) a = some (.u64 (BitVec.ofNat 64 (upR b d a.toNat))) := by
  unfold upT upR
  rw [beq0]
  by_cases h0 : a.toNat = 0
  · rw [if_pos (decide_eq_true h0), if_pos h0]
  · rw [if_neg (by rw [decide_eq_true_eq]; exact h0), if_neg h0]
    rcases h with h | ⟨h1, h2⟩
    · exact absurd h h0
    · have hs := shV_eq (b := b) hd hd2 hb h1 h2
      rw [hs]
      congr 2
      apply BitVec.eq_of_toNat_eq
      have hk : b + d - a.toNat / 2 ^ d ≤ 52 := by omega
      have h3 : 2 ^ (b + d - a.toNat / 2 ^ d) ≤ 2 ^ 52 := Nat.pow_le_pow_right (by decide) hk
      rw [BitVec.toNat_add, BitVec.toNat_shiftLeft, BitVec.toNat_ofNat, Nat.shiftLeft_eq]
      have e1 : 1 % 2 ^ 64 = 1 := by decide
      rw [e1, Nat.one_mul, Nat.mod_eq_of_lt (a := 2 ^ (b + d - a.toNat / 2 ^ d)) (by omega), BitVec.toNat_ofNat]
theorem od_eq {d b : Nat} (hd : 1 ≤ d) (hd2 : d ≤ 52) (hb : b ≤ 1023) (a : BitVec 64) : odT d b (1#64 <<< d - 1#64) (1#64 <<< d) a = some (.bool (oddR b d a.toNat)) := by
  have ex := exV_eq (b := b) hd hd2 hb a
  unfold odT oddR
  rw [ex]
  by_cases c1 : a.toNat / 2 ^ d < b
  · rw [if_neg (by rw [decide_eq_true (by omega)]; decide), if_pos (.inl c1)]
  · rw [if_pos (by rw [decide_eq_false (by omega)])]
    by_cases c2 : b + d < a.toNat / 2 ^ d
    · rw [if_pos (decide_eq_true (by omega)), if_pos (.inr c2)]
    · rw [if_neg (by rw [decide_eq_true_eq]; omega), if_neg (by omega)]
      have hs := shV_eq (b := b) hd hd2 hb (a := a) (by omega) (by omega)
      rw [hs]
      have m1 := mask_and (k := d) (by omega) a
      have hlt : a.toNat % 2 ^ d < 2 ^ d := Nat.mod_lt _ (two_pos d)
      have ht : (1#64 <<< d : BitVec 64).toNat = 2 ^ d := by
        have h2 : 2 ^ d < 2 ^ 64 := Nat.pow_lt_pow_right (by decide) (by omega)
        have e1 : 1 % 2 ^ 64 = 1 := by decide
        rw [BitVec.toNat_shiftLeft, BitVec.toNat_ofNat, Nat.shiftLeft_eq, e1, Nat.one_mul, Nat.mod_eq_of_lt h2]
      have ho : (a &&& (1#64 <<< d - 1#64) ||| 1#64 <<< d).toNat = a.toNat % 2 ^ d + 2 ^ d := by
        rw [BitVec.or_comm, or_two d ht (by rw [m1]; exact hlt), ht, m1]; omega
      have hb1 : ∀ x : BitVec 64, (x &&& 1#64 == 1#64) = decide (x.toNat % 2 = 1) := fun x => by
        have hx : (x &&& 1#64).toNat = x.toNat % 2 := by rw [BitVec.toNat_and]; exact Nat.and_one_is_mod _
        by_cases c : x.toNat % 2 = 1
        · rw [decide_eq_true c]
          have : x &&& 1#64 = 1#64 := BitVec.eq_of_toNat_eq (hx.trans c)
          rw [this]; rfl
        · rw [decide_eq_false c]
          have : x &&& 1#64 ≠ 1#64 := fun e => c (by rw [← hx, e]; rfl)
          simpa using this
      rw [hb1, BitVec.toNat_ushiftRight, ho, Nat.shiftRight_eq_div_pow]
end Go.Fl
/-!
Floats: a sign and a rung as one word.
-/
namespace Go.Fl
open Ieee Go.Ev Go.RowKit Go.Wh

theorem sg_or {w : Int} {a : BitVec 64} (ha : inF w a = true) {m : Nat} (hm : m < (fmW w).signWeight) : a &&& sgW w ||| BitVec.ofNat 64 m = BitVec.ofNat 64 ((fmW w).word (ng (fmW w) a.toNat) m) := by
  have hw : wOK w = true := by unfold inF at ha; rw [Bool.and_eq_true] at ha; exact ha.1
  obtain ⟨k, hk, hs, hf, _⟩ := sg_pow hw
  have e := and_ng ha
  rw [hf] at hm
  have hk2 : 2 ^ k < 2 ^ 64 := Nat.pow_lt_pow_right (by decide) hk
  have em : (BitVec.ofNat 64 m).toNat = m := by rw [BitVec.toNat_ofNat, Nat.mod_eq_of_lt (by omega)]
  rw [hs, BitVec.and_twoPow] at e ⊢
  cases hb : a.getLsbD k
  · rw [hb] at e
    have hn : ng (fmW w) a.toNat = false := by
      cases hq : ng (fmW w) a.toNat
      · rfl
      · rw [hq] at e; simp at e
    rw [hn]
    show 0#64 ||| _ = BitVec.ofNat 64 m
    rw [BitVec.zero_or]
  · rw [hb] at e
    have hz : (BitVec.twoPow 64 k == 0#64) = false := by
      have : BitVec.twoPow 64 k ≠ 0#64 := by
        intro h
        have h2 := congrArg (BitVec.getLsbD · k) h
        simp only [BitVec.getLsbD_twoPow, BitVec.getLsbD_zero] at h2
        simp [hk] at h2
      simpa using this
    have hn : ng (fmW w) a.toNat = true := by
      cases hq : ng (fmW w) a.toNat
      · rw [hq] at e; simp only [if_true] at e; rw [hz] at e; cases e
      · rfl
    rw [hn]
    have ht : (BitVec.twoPow 64 k).toNat = 2 ^ k := by rw [BitVec.toNat_twoPow, Nat.mod_eq_of_lt hk2]
    apply BitVec.eq_of_toNat_eq
    show (BitVec.twoPow 64 k ||| BitVec.ofNat 64 m).toNat = _
    rw [or_two k ht (by rw [em]; exact hm), ht, em, BitVec.toNat_ofNat, word_true, hf, Nat.mod_eq_of_lt]
    have : 2 ^ k * 2 ≤ 2 ^ 64 := by rw [← Nat.pow_succ]; exact Nat.pow_le_pow_right (by decide) hk
    omega
end Go.Fl
/-!
Floats: when the document goes up, it may.
-/
namespace Go.Fl
open Ieee Go.Ev Go.RowKit Go.Wh

theorem whole_le (b d r : Nat) : wholeR b d r ≤ r := by
  unfold wholeR
  split
  · exact Nat.le_refl _
  · split
    · exact Nat.zero_le _
    · exact Nat.sub_le _ _
theorem whole_place {b d r : Nat} (hd : 1 ≤ d) (c1 : ¬ b + d ≤ r / 2 ^ d) : wholeR b d r = 0 ∨ (b ≤ wholeR b d r / 2 ^ d ∧ wholeR b d r / 2 ^ d ≤ b + d) := by
  unfold wholeR
  rw [if_neg c1]
  by_cases c2 : r / 2 ^ d < b
  · left; rw [if_pos c2]
  · right
    rw [if_neg c2]
    obtain ⟨k, hk⟩ : ∃ k, b + d - r / 2 ^ d = k := ⟨_, rfl⟩
    have hdk : 2 ^ d = 2 ^ k * 2 ^ (d - k) := by rw [← Nat.pow_add]; congr 1; omega
    have hrm : r % 2 ^ d % 2 ^ k = r % 2 ^ k := Nat.mod_mod_of_dvd _ ⟨_, hdk⟩
    have hle : r % 2 ^ k ≤ r % 2 ^ d := by rw [← hrm]; exact Nat.mod_le _ _
    have hrs := Nat.div_add_mod r (2 ^ d)
    have hlt : r % 2 ^ d < 2 ^ d := Nat.mod_lt _ (two_pos d)
    rw [hk]
    have hm : r - r % 2 ^ k = 2 ^ d * (r / 2 ^ d) + (r % 2 ^ d - r % 2 ^ k) := by omega
    have hmd : (r - r % 2 ^ k) / 2 ^ d = r / 2 ^ d := by
      rw [hm, Nat.mul_add_div (two_pos d), Nat.div_eq_of_lt (show r % 2 ^ d - r % 2 ^ k < 2 ^ d by omega), Nat.add_zero]
    rw [hmd]
    omega
theorem goes_place {way : Toward} {s : Bool} {b d r : Nat} (h : goesR way s b d r = true) : ¬ b + d ≤ r / 2 ^ d := by
  intro c1
  unfold goesR exactR moreR halfR at h
  simp only [if_pos c1] at h
  cases way <;> simp at h
end Go.Fl
/-!
Floats: the document's rounding, as a word.
-/
namespace Go.Fl
open Ieee Go.Ev Go.RowKit Go.Wh

theorem round_lt (way : Toward) {w : Int} {a : Nat} (hn : isN (fmW w) a = false) : roundR way (ng (fmW w) a) (bW w) (dW w) (rg (fmW w) a) < (fmW w).signWeight := by
  rw [← rnN_rg way hn]
  exact rg_lt _ _
/-- Below the sign: the rung rounded; with the sign the word. -/
theorem rn_or (way : Toward) {w : Int} {a : BitVec 64} (ha : inF w a = true) (hn : noW w a = false) : a &&& sgW w ||| BitVec.ofNat 64 (roundR way (ng (fmW w) a.toNat) (bW w) (dW w) (rg (fmW w) a.toNat)) = rnW way w a := by
  rw [sg_or ha (round_lt way hn)]
  unfold rnW
  rw [hn]; rfl
theorem rg_64 (w : Int) (a : Nat) : rg (fmW w) a < 2 ^ 63 := rg_63 w a
/-- What is whole, as a word. -/
def whW (w : Int) (A : BitVec 64) : BitVec 64 := BitVec.ofNat 64 (wholeR (bW w) (dW w) A.toNat)
def upW (w : Int) (A : BitVec 64) : BitVec 64 := BitVec.ofNat 64 (upR (bW w) (dW w) A.toNat)
def upC (w : Int) (a : BitVec 64) : Bool := wOK w && (decide (a.toNat = 0 ∨ (bW w ≤ a.toNat / 2 ^ dW w ∧ a.toNat / 2 ^ dW w ≤ bW w + dW w)) && decide (a.toNat < 2 ^ 63))
theorem whW_nat {w : Int} {a : BitVec 64} (ha : inF w a = true) : (whW w (a &&& ~~~(sgW w))).toNat = wholeR (bW w) (dW w) (rg (fmW w) a.toNat) := by
  unfold whW
  rw [clr_rg ha, BitVec.toNat_ofNat, Nat.mod_eq_of_lt]
  have h1 := whole_le (bW w) (dW w) (rg (fmW w) a.toNat)
  have h2 := rg_63 w a.toNat
  omega
theorem dW_pos (w : Int) : 1 ≤ dW w := by unfold dW; split <;> decide
theorem goes_ok {way : Toward} {w : Int} {a : BitVec 64} (ha : inF w a = true) (hg : goesR way (ng (fmW w) a.toNat) (bW w) (dW w) (rg (fmW w) a.toNat) = true) : upC w (whW w (a &&& ~~~(sgW w))) = true := by
  have hw : wOK w = true := by unfold inF at ha; rw [Bool.and_eq_true] at ha; exact ha.1
  unfold upC
  rw [hw, whW_nat ha, Bool.true_and, Bool.and_eq_true]
  have h1 := whole_le (bW w) (dW w) (rg (fmW w) a.toNat)
  have h2 := rg_63 w a.toNat
  exact ⟨decide_eq_true (whole_place (dW_pos w) (goes_place hg)), decide_eq_true (by omega)⟩
theorem goes_yes (way : Toward) {w : Int} {a : BitVec 64} (ha : inF w a = true) (hn : noW w a = false) (hg : goesR way (ng (fmW w) a.toNat) (bW w) (dW w) (rg (fmW w) a.toNat) = true) : a &&& sgW w ||| upW w (whW w (a &&& ~~~(sgW w))) = rnW way w a := by
  rw [← rn_or way ha hn]
  unfold upW roundR
  rw [whW_nat ha, if_pos hg]
theorem goes_no (way : Toward) {w : Int} {a : BitVec 64} (ha : inF w a = true) (hn : noW w a = false) (hg : goesR way (ng (fmW w) a.toNat) (bW w) (dW w) (rg (fmW w) a.toNat) = false) : a &&& sgW w ||| whW w (a &&& ~~~(sgW w)) = rnW way w a := by
  rw [← rn_or way ha hn]
  unfold whW roundR
  rw [clr_rg ha, if_neg (by rw [hg]; decide)]
def roT (sg m : BitVec 64) (c2 : Bool) (u : BitVec 64) (g : Bool) : Option D := if g = true then (if c2 = true then some (.u64 (sg ||| u)) else none) else some (.u64 (sg ||| m))
theorem ro_ok (way : Toward) {w : Int} {a : BitVec 64} (ha : inF w a = true) (hn : noW w a = false) {g : Bool} (hg : g = goesR way (ng (fmW w) a.toNat) (bW w) (dW w) (rg (fmW w) a.toNat)) : roT (a &&& sgW w) (whW w (a &&& ~~~(sgW w))) (upC w (whW w (a &&& ~~~(sgW w)))) (upW w (whW w (a &&& ~~~(sgW w)))) g = some (.u64 (rnW way w a)) := by
  unfold roT
  cases hg' : g
  · rw [hg'] at hg
    rw [if_neg (by decide), goes_no way ha hn hg.symm]
  · rw [hg'] at hg
    rw [if_pos rfl, if_pos (goes_ok ha hg.symm), goes_yes way ha hn hg.symm]
end Go.Fl
